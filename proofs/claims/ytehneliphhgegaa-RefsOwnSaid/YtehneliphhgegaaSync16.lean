/- The program's table of refs and the document's have the same refs: the plain law. -/
import Derived.Test.YtehneliphhgegaaRSame
import Derived.Test.YtehneliphhgegaaCopy
import Derived.Sort.Walk0
set_option linter.unusedVariables false
set_option linter.unusedSimpArgs false
set_option maxRecDepth 100000
namespace Go.Proofs.Ytehneliphhgegaa
open Go.RowKit Go.Apo

theorem ltS_eq (a b : ByteArray) : ltS a b = decide (bsOf a < bsOf b) := by
  unfold ltS bsOf
  rw [bytesLess_eq, ByteArray.toList_eq, ByteArray.toList_eq]
def nlt (a b : RefD) : Prop := bsOf a.name < bsOf b.name
theorem bs_inj {a b : ByteArray} (h : bsOf a = bsOf b) : a = b := by rw [← ofBs_bsOf a, ← ofBs_bsOf b, h]
theorem nlt_ne {a b : RefD} (h : nlt a b) : a.name ≠ b.name := fun e => by
  unfold nlt at h
  rw [e] at h
  exact List.lt_irrefl _ h
theorem rFind_iff {R : List RefD} (hR : R.Pairwise nlt) {s : ByteArray} {c : RefD} : rFindR R s = some c ↔ c ∈ R ∧ c.name = s := by
  induction R with
  | nil => simp [rFindR]
  | cons a R ih =>
    rw [List.pairwise_cons] at hR
    have ih := ih hR.2
    unfold rFindR at ih ⊢
    rw [List.find?_cons]
    by_cases e : a.name = s
    · simp only [e, decide_true]
      constructor
      · intro h; cases h; exact ⟨List.mem_cons_self, e⟩
      · rintro ⟨h1, h2⟩
        rcases List.mem_cons.1 h1 with rfl | h1
        · rfl
        · exact absurd (e.trans h2.symm) (nlt_ne (hR.1 c h1))
    · simp only [e, decide_false]
      rw [ih]
      constructor
      · rintro ⟨h1, h2⟩; exact ⟨List.mem_cons_of_mem _ h1, h2⟩
      · rintro ⟨h1, h2⟩
        rcases List.mem_cons.1 h1 with rfl | h1
        · exact absurd h2 e
        · exact ⟨h1, h2⟩
theorem rFind_ext {R R' : List RefD} (hR : R.Pairwise nlt) (hR' : R'.Pairwise nlt) {s : ByteArray} (h : ∀ c, (c ∈ R ∧ c.name = s) ↔ (c ∈ R' ∧ c.name = s)) : rFindR R s = rFindR R' s := by
  cases e : rFindR R s with
  | none =>
    cases e' : rFindR R' s with
    | none => rfl
    | some c =>
      have := (rFind_iff hR).2 ((h c).2 ((rFind_iff hR').1 e'))
      rw [e] at this; cases this
  | some c => exact ((rFind_iff hR').2 ((h c).1 ((rFind_iff hR).1 e))).symm
structure Sync16 (L : List (ByteArray × RefD)) (R : List RefD) : Prop where
  nodup : (mkeys L).Nodup
  mem : ∀ s, mget L s = rFindR R s
  rise : R.Pairwise nlt
  ok : ∀ c ∈ R, nameB c.name = true
  le : R.length ≤ 40
theorem Sync16.perm {L : List (ByteArray × RefD)} {R : List RefD} (h : Sync16 L R) : (mkeys L).Perm (R.map (·.name)) := by
  have hn : (R.map (·.name)).Nodup := List.pairwise_map.2 (h.rise.imp nlt_ne)
  rw [List.perm_ext_iff_of_nodup h.nodup hn]
  intro s
  constructor
  · intro hs
    have h1 := rGet_mem hs
    rw [h.mem] at h1
    obtain ⟨h2, h3⟩ := (rFind_iff h.rise).1 h1
    exact List.mem_map.2 ⟨_, h2, h3⟩
  · intro hs
    obtain ⟨c, hc, rfl⟩ := List.mem_map.1 hs
    have h1 := (rFind_iff h.rise).2 ⟨hc, rfl⟩
    rw [← h.mem] at h1
    exact List.mem_map.2 ⟨_, mget_mem h1, rfl⟩
theorem Sync16.len {L : List (ByteArray × RefD)} {R : List RefD} (h : Sync16 L R) : L.length = R.length := by
  have := h.perm.length_eq
  simpa [mkeys] using this
theorem Sync16.all {L : List (ByteArray × RefD)} {R : List RefD} (h : Sync16 L R) : allR L = R := by
  have e1 : sortS (mkeys L) = R.map (·.name) := by
    unfold sortS
    rw [mergeSort_of_perm (h.perm.map bsOf), List.mergeSort_of_pairwise]
    · rw [List.map_map]
      conv => rhs; rw [← List.map_id (R.map (·.name))]
      exact List.map_congr_left fun s _ => ofBs_bsOf s
    · rw [List.map_map, List.pairwise_map]
      refine h.rise.imp fun {a b} hab => ?_
      show leB _ _ = true
      simp only [leB, decide_eq_true_eq]
      exact List.le_of_lt hab
  unfold allR
  rw [e1, List.map_map]
  conv => rhs; rw [← List.map_id R]
  refine List.map_congr_left fun c hc => ?_
  have h1 := (rFind_iff h.rise).2 ⟨hc, rfl⟩
  rw [← h.mem] at h1
  show rGet L c.name = c
  unfold rGet
  rw [h1]
  rfl
theorem Sync16.nil : Sync16 [] [] := ⟨List.nodup_nil, fun _ => rfl, List.Pairwise.nil, fun c h => (by cases h), Nat.zero_le _⟩
theorem rIns_eq (R : List RefD) (r : RefD) : rInsR R r = R.takeWhile (fun c => ltS c.name r.name) ++ [r] ++ R.dropWhile (fun c => ltS c.name r.name) := by
  have h := List.takeWhile_append_dropWhile (p := fun c : RefD => ltS c.name r.name) (l := R)
  unfold rInsR rPosR
  generalize hT : R.takeWhile (fun c => ltS c.name r.name) = T at h ⊢
  generalize R.dropWhile (fun c => ltS c.name r.name) = D at h ⊢
  rw [← h]
  simp
theorem rIns_rise {R : List RefD} (hR : R.Pairwise nlt) {r : RefD} (hr : rFindR R r.name = none) : (rInsR R r).Pairwise nlt := by
  rw [rIns_eq]
  have hsp := List.takeWhile_append_dropWhile (p := fun c : RefD => ltS c.name r.name) (l := R)
  have hT : ∀ a ∈ R.takeWhile (fun c => ltS c.name r.name), nlt a r := fun a ha => by
    have := List.all_eq_true.1 (List.all_takeWhile (p := fun c : RefD => ltS c.name r.name) (l := R)) a ha
    rw [ltS_eq] at this
    simpa [nlt] using this
  have hne : ∀ b ∈ R, b.name ≠ r.name := fun b hb e => by
    have := (rFind_iff hR).2 ⟨hb, e⟩
    rw [hr] at this; cases this
  have hD : ∀ b ∈ R.dropWhile (fun c => ltS c.name r.name), nlt r b := by
    cases hd : R.dropWhile (fun c => ltS c.name r.name) with
    | nil => intro b hb; cases hb
    | cons d ds =>
      have h1 : ltS d.name r.name = false := by
        have := List.head?_dropWhile_not (fun c : RefD => ltS c.name r.name) R
        rw [hd] at this
        simpa using this
      rw [ltS_eq] at h1
      have hmem : ∀ b ∈ d :: ds, b ∈ R := fun b hb => by rw [← hsp, hd]; exact List.mem_append_right _ hb
      have hdr : nlt r d := by
        have h2 : ¬ bsOf d.name < bsOf r.name := by simpa using h1
        exact Classical.byContradiction fun h3 => hne d (hmem d List.mem_cons_self) (bs_inj (List.le_antisymm (show bsOf d.name ≤ bsOf r.name from h3) (show bsOf r.name ≤ bsOf d.name from h2)))
      have hpw : (d :: ds).Pairwise nlt := by
        have := hR
        rw [← hsp, hd] at this
        exact (List.pairwise_append.1 this).2.1
      intro b hb
      rcases List.mem_cons.1 hb with rfl | hb
      · exact hdr
      · exact List.lt_trans hdr ((List.pairwise_cons.1 hpw).1 b hb)
  have hpw := hR
  rw [← hsp] at hpw
  obtain ⟨p1, p2, p3⟩ := List.pairwise_append.1 hpw
  rw [List.append_assoc, List.pairwise_append]
  refine ⟨p1, List.pairwise_cons.2 ⟨hD, p2⟩, fun a ha b hb => ?_⟩
  rcases List.mem_cons.1 hb with rfl | hb
  · exact hT a ha
  · exact p3 a ha b hb
theorem rIns_mem {R : List RefD} {r c : RefD} : c ∈ rInsR R r ↔ c = r ∨ c ∈ R := by
  rw [rIns_eq]
  have hsp := List.takeWhile_append_dropWhile (p := fun c : RefD => ltS c.name r.name) (l := R)
  constructor
  · intro h
    rcases List.mem_append.1 h with h | h
    · rcases List.mem_append.1 h with h | h
      · right; rw [← hsp]; exact List.mem_append_left _ h
      · left; simpa using h
    · right; rw [← hsp]; exact List.mem_append_right _ h
  · rintro (rfl | h)
    · simp
    · rw [← hsp] at h
      rcases List.mem_append.1 h with h | h
      · exact List.mem_append_left _ (List.mem_append_left _ h)
      · exact List.mem_append_right _ h
theorem Sync16.get {L : List (ByteArray × RefD)} {R : List RefD} (h : Sync16 L R) (s : ByteArray) : rGet L s = (rFindR R s).getD RefD.zero := by unfold rGet; rw [h.mem]
theorem Sync16.make {L : List (ByteArray × RefD)} {R : List RefD} (h : Sync16 L R) (r : RefD) : rmakeE R r = makeE L r ∧ Sync16 (makeL L r) (rmakeL R r) := by
  have e : rmakeE R r = makeE L r := by unfold rmakeE makeE; rw [h.mem, h.len]
  refine ⟨e, ?_⟩
  unfold makeL rmakeL
  rw [e]
  by_cases h0 : makeE L r = 0
  · rw [if_pos h0, if_pos h0]
    have hf : nameB r.name = true ∧ rFindR R r.name = none ∧ R.length < 40 := by
      rw [← e] at h0
      unfold rmakeE at h0
      by_cases hn : nameB r.name = true
      · rw [if_pos hn] at h0
        by_cases hs : (rFindR R r.name).isSome = true
        · rw [if_pos hs] at h0; exact absurd h0 (by decide)
        · rw [if_neg hs] at h0
          by_cases h40 : 40 ≤ R.length
          · rw [if_pos h40] at h0; exact absurd h0 (by decide)
          · exact ⟨hn, by simpa using hs, by omega⟩
      · rw [if_neg hn] at h0; exact absurd h0 (by decide)
    have hrise := rIns_rise h.rise hf.2.1
    refine ⟨nodup_mput _ h.nodup, fun s => ?_, hrise, ?_, ?_⟩
    · rw [mget_mput]
      by_cases es : s = r.name
      · subst es; rw [if_pos rfl]; exact ((rFind_iff hrise).2 ⟨rIns_mem.2 (Or.inl rfl), rfl⟩).symm
      · rw [if_neg es, h.mem]
        exact rFind_ext h.rise hrise (fun c => ⟨fun ⟨h1, h2⟩ => ⟨rIns_mem.2 (Or.inr h1), h2⟩, fun ⟨h1, h2⟩ => ⟨(rIns_mem.1 h1).resolve_left (fun e => es (by rw [← h2, e])), h2⟩⟩)
    · intro c hc
      rcases rIns_mem.1 hc with rfl | hc
      · exact hf.1
      · exact h.ok c hc
    · have := rPosR_le R r.name
      unfold rInsR
      simp
      omega
  · rw [if_neg h0, if_neg h0]
    exact h
theorem rise_inj {R : List RefD} (hR : R.Pairwise nlt) {i j : Nat} {a b : RefD} (ha : R[i]? = some a) (hb : R[j]? = some b) (h : a.name = b.name) : i = j := by
  obtain ⟨hi, rfl⟩ := List.getElem?_eq_some_iff.1 ha
  obtain ⟨hj, rfl⟩ := List.getElem?_eq_some_iff.1 hb
  rw [List.pairwise_iff_getElem] at hR
  rcases Nat.lt_trichotomy i j with h1 | h1 | h1
  · exact absurd h (nlt_ne (hR i j hi hj h1))
  · exact h1
  · exact absurd h.symm (nlt_ne (hR j i hj hi h1))
theorem set_rise {R : List RefD} (hR : R.Pairwise nlt) {k : Nat} {c v : RefD} (hk : R[k]? = some c) (hv : v.name = c.name) : (R.set k v).Pairwise nlt := by
  have e : (R.set k v).map (fun x => bsOf x.name) = R.map (fun x => bsOf x.name) := by
    apply List.ext_getElem?
    intro i
    rw [List.getElem?_map, List.getElem?_map, List.getElem?_set]
    by_cases hi : k = i
    · subst hi
      have hl := (List.getElem?_eq_some_iff.1 hk).1
      simp [hl, hv]
      rw [List.getElem?_eq_getElem hl] at hk
      cases hk
      rfl
    · simp [hi]
  have h1 : (R.map (fun x => bsOf x.name)).Pairwise (· < ·) := List.pairwise_map.2 hR
  rw [← e] at h1
  exact (List.pairwise_map (f := fun x : RefD => bsOf x.name)).1 h1
theorem Sync16.set {L : List (ByteArray × RefD)} {R : List RefD} (h : Sync16 L R) (s : ByteArray) (old id : Int) : rsetE R s old = setE L s old ∧ Sync16 (setL L s old id) (rsetL R s old id) := by
  have hg := h.get s
  have e : rsetE R s old = setE L s old := by
    unfold rsetE setE
    rw [hg, h.mem]
    cases rFindR R s <;> rfl
  refine ⟨e, ?_⟩
  unfold setL rsetL
  rw [e, hg]
  by_cases h0 : setE L s old = 0
  · rw [if_pos h0, if_pos h0]
    rcases rAtR_cases R s with ⟨h1, h2⟩ | ⟨k, c, h1, h2, h3, h4⟩
    · rw [← e] at h0
      unfold rsetE at h0
      rw [h2] at h0
      exact absurd h0 (show ¬ ((111 : Int) = 0) by decide)
    · rw [h1, h4]
      show Sync16 (mput L s ⟨c.name, c.tag, id⟩) (R.set k ⟨c.name, c.tag, id⟩)
      have hrise := set_rise h.rise h2 (v := ⟨c.name, c.tag, id⟩) rfl
      have hkl := (List.getElem?_eq_some_iff.1 h2).1
      have hmk : (⟨c.name, c.tag, id⟩ : RefD) ∈ R.set k ⟨c.name, c.tag, id⟩ := List.mem_iff_getElem?.2 ⟨k, by rw [List.getElem?_set]; simp [hkl]⟩
      refine ⟨nodup_mput _ h.nodup, fun s' => ?_, hrise, ?_, by rw [List.length_set]; exact h.le⟩
      · rw [mget_mput]
        by_cases es : s' = s
        · rw [if_pos es]
          exact ((rFind_iff hrise).2 ⟨hmk, by rw [es, ← h3]⟩).symm
        · rw [if_neg es, h.mem]
          refine rFind_ext h.rise hrise (fun x => ⟨fun ⟨g1, g2⟩ => ⟨?_, g2⟩, fun ⟨g1, g2⟩ => ⟨?_, g2⟩⟩)
          · obtain ⟨i, hi⟩ := List.mem_iff_getElem?.1 g1
            have hik : k ≠ i := by
              rintro rfl
              rw [h2] at hi; cases hi
              exact es (g2.symm.trans h3)
            exact List.mem_iff_getElem?.2 ⟨i, by rw [List.getElem?_set, if_neg hik]; exact hi⟩
          · rcases List.mem_or_eq_of_mem_set g1 with g | g
            · exact g
            · subst g; exact absurd (g2.symm.trans h3) es
      · intro x hx
        rcases List.mem_or_eq_of_mem_set hx with g | g
        · exact h.ok x g
        · subst g; exact h.ok c (List.mem_of_getElem? h2)
  · rw [if_neg h0, if_neg h0]
    exact h
theorem Sync16.drop {L : List (ByteArray × RefD)} {R : List RefD} (h : Sync16 L R) (s : ByteArray) : rdropE R s = dropE L s ∧ Sync16 (mdel L s) (rdropL R s) := by
  refine ⟨by unfold rdropE dropE; rw [h.mem], ?_⟩
  rcases rAtR_cases R s with ⟨h1, h2⟩ | ⟨k, c, h1, h2, h3, h4⟩
  · have e : rdropL R s = R := by unfold rdropL; rw [h2]; rfl
    rw [e, mdel_none (by rw [h.mem]; exact h2)]
    exact h
  · have e : rdropL R s = R.eraseIdx k := by
      unfold rdropL
      rw [h4, h1, List.eraseIdx_eq_take_drop_succ]
      rfl
    rw [e]
    have hsub := List.eraseIdx_sublist R k
    have hrise := h.rise.sublist hsub
    refine ⟨nodup_mdel h.nodup, fun s' => ?_, hrise, fun x hx => h.ok x (hsub.subset hx), Nat.le_trans hsub.length_le h.le⟩
    rw [mget_mdel]
    by_cases es : s' = s
    · rw [if_pos es]
      symm
      cases e2 : rFindR (R.eraseIdx k) s' with
      | none => rfl
      | some x =>
        obtain ⟨g1, g2⟩ := (rFind_iff hrise).1 e2
        obtain ⟨i, hik, hi⟩ := List.mem_eraseIdx_iff_getElem?.1 g1
        exact absurd (rise_inj h.rise hi h2 (by rw [g2, es, h3])) hik
    · rw [if_neg es, h.mem]
      refine rFind_ext h.rise hrise (fun x => ⟨fun ⟨g1, g2⟩ => ⟨?_, g2⟩, fun ⟨g1, g2⟩ => ⟨hsub.subset g1, g2⟩⟩)
      obtain ⟨i, hi⟩ := List.mem_iff_getElem?.1 g1
      refine List.mem_eraseIdx_iff_getElem?.2 ⟨i, ?_, hi⟩
      rintro rfl
      rw [h2] at hi; cases hi
      exact es (g2.symm.trans h3)
theorem sync_prefix {R : List RefD} (hR : R.Pairwise nlt) (hok : ∀ c ∈ R, nameB c.name = true) (hle : R.length ≤ 40) : ∀ j, j ≤ R.length → Sync16 ((R.take j).foldl makeL []) (R.take j) := by
  intro j
  induction j with
  | zero => intro _; exact Sync16.nil
  | succ j ih =>
    intro hj
    have h := ih (by omega)
    obtain ⟨c, hc⟩ : ∃ c, R[j]? = some c := ⟨_, List.getElem?_eq_getElem (by omega)⟩
    have htk : R.take (j + 1) = R.take j ++ [c] := by rw [List.take_add_one, hc]; rfl
    have hpw := hR.sublist (List.take_sublist (j + 1) R)
    rw [htk] at hpw
    have hlt : ∀ a ∈ R.take j, nlt a c := fun a ha => (List.pairwise_append.1 hpw).2.2 a ha c (by simp)
    have hnone : rFindR (R.take j) c.name = none := by
      cases e : rFindR (R.take j) c.name with
      | none => rfl
      | some x =>
        obtain ⟨g1, g2⟩ := (rFind_iff h.rise).1 e
        exact absurd g2 (nlt_ne (hlt x g1))
    have hlen : (R.take j).length = j := by rw [List.length_take]; omega
    have hE : rmakeE (R.take j) c = 0 := by
      unfold rmakeE
      rw [if_pos (hok c (List.mem_of_getElem? hc)), hnone, hlen, if_neg (by decide), if_neg (by omega)]
    have hpos : rPosR (R.take j) c.name = j := rPosR_stop (fun q x hq hx => by
      rw [ltS_eq]
      have := hlt x (List.mem_of_getElem? hx)
      simpa [nlt] using this) (by omega) (Or.inl hlen.symm)
    have hm := (h.make c).2
    have e2 : rmakeL (R.take j) c = R.take j ++ [c] := by
      unfold rmakeL rInsR
      rw [if_pos hE, hpos, List.take_of_length_le (by omega), List.drop_of_length_le (by omega), List.append_nil]
    rw [e2] at hm
    rw [htk, List.foldl_append]
    exact hm
theorem Sync16.copy {L : List (ByteArray × RefD)} {R : List RefD} (h : Sync16 L R) : Sync16 (copyL L) R := by
  have := sync_prefix h.rise h.ok h.le R.length (Nat.le_refl _)
  rw [List.take_length] at this
  unfold copyL
  rw [h.all]
  exact this
theorem sync_new (l : List RefD) : ∀ {L R}, Sync16 L R → Sync16 (l.foldl makeL L) (l.foldl rmakeL R) := by
  induction l with
  | nil => intro L R h; exact h
  | cons a l ih => intro L R h; exact ih (h.make a).2
theorem Sync16.keys {L : List (ByteArray × RefD)} {R : List RefD} (h : Sync16 L R) : ∀ k ∈ mkeys L, k.size ≤ 1000000 := fun k hk => by
  obtain ⟨c, hc, rfl⟩ := List.mem_map.1 (h.perm.mem_iff.1 hk)
  have := h.ok c hc
  unfold nameB at this
  simp only [Bool.and_eq_true, decide_eq_true_eq] at this
  omega
end Go.Proofs.Ytehneliphhgegaa
