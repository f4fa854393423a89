/- The document's merge bases are the code's; and the document's log: in plain Lean. -/
import Derived.Test.YtehneliphhgegaaLogAll
import Derived.Test.YtehneliphhgegaaPlainGens
set_option linter.unusedVariables false
set_option linter.unusedSimpArgs false
namespace Go.Proofs.Ytehneliphhgegaa
open Go.RowKit Go.Apo

theorem isB_mem (L : List (Int × CommitD)) (old late : Int) : isB L old late = decide (old ∈ reachL L [late]) := by
  rw [Bool.eq_iff_iff]
  unfold isB reachL
  rw [decide_eq_true_eq, mem_sortI, mem_keys]
theorem Sync.isR {L : List (Int × CommitD)} {R : List CommitD} (h : Sync L R) (old late : Int) : decide (old ∈ rreach R [late]) = isB L old late := by
  rw [h.reach h.lok, isB_mem]
def rcommon (R : List CommitD) (a b : Int) : List Int := (rreach R [a]).filter fun x => decide (x ∈ rreach R [b])
def rbest (R : List CommitD) (l : List Int) (id : Int) : Bool := l.all fun k => (k == id) || !decide (id ∈ rreach R [k])
def rbasesL (R : List CommitD) (a b : Int) : List Int := (rcommon R a b).filter fun id => rbest R (rcommon R a b) id
theorem Sync.common {L : List (Int × CommitD)} {R : List CommitD} (h : Sync L R) (a b : Int) : rcommon R a b = commonL L a b := by
  have hO := h.lok
  have h1 : (rreach R [a]).Pairwise (· < ·) := by
    rw [h.reach hO]; exact sortI_lt (reachS_ok hO [a]).nodup
  refine pw_eq (h1.filter _) ?_ fun x => ?_
  · unfold commonL; exact sortI_lt (nodup_commonL' hO a b)
  · unfold rcommon
    rw [List.mem_filter, mem_commonL hO, h.isR, h.reach hO]
    constructor
    · rintro ⟨h2, h3⟩
      refine ⟨?_, h3⟩
      rw [isB_mem]; simpa using h2
    · rintro ⟨h2, h3⟩
      refine ⟨?_, h3⟩
      rw [isB_mem] at h2; simpa using h2
theorem Sync.basesR {L : List (Int × CommitD)} {R : List CommitD} (h : Sync L R) (a b : Int) : rbasesL R a b = basesL L a b := by
  unfold rbasesL basesL
  rw [h.common]
  refine List.filter_congr fun x _ => ?_
  unfold rbest belowB
  rw [List.not_any_eq_all_not]
  congr 1
  funext k
  rw [h.isR]
  simp
/-- the document's best: number and generation -/
def rbaseStep (R : List CommitD) (s : Int × Int) (k : Int) : Int × Int := if s.2 < ((rFind R k).getD CommitD.zero).gen then (k, ((rFind R k).getD CommitD.zero).gen) else s
def rbaseOf (R : List CommitD) (l : List Int) : Int × Int := l.foldl (rbaseStep R) (0, 0)
theorem rbaseOf_is {L : List (Int × CommitD)} {R : List CommitD} (h : Sync L R) (hz : ∀ k ∈ mkeys L, k ≠ 0) : ∀ (l : List Int) (c : CommitD), (∀ k ∈ l, (mget L k).isSome = true) → 0 ≤ c.gen → (c.id ≠ 0 ↔ 0 < c.gen) →
    l.foldl (rbaseStep R) (c.id, c.gen) = ((l.foldl (bestStep L) c).id, (l.foldl (bestStep L) c).gen) ∧ ((l.foldl (bestStep L) c).id ≠ 0 ↔ 0 < (l.foldl (bestStep L) c).gen)
  | [], c, _, _, hc => ⟨rfl, hc⟩
  | k :: l, c, hl, h0, hc => by
    rw [List.foldl_cons, List.foldl_cons]
    obtain ⟨d, hd⟩ := Option.isSome_iff_exists.1 (hl k List.mem_cons_self)
    have hg := h.gens k d hd
    have hi := h.ids k d hd
    have e1 : gGet L k = d := gGet_some hd
    have e2 : (rFind R k).getD CommitD.zero = d := by rw [h.same, hd]; rfl
    have es : rbaseStep R (c.id, c.gen) k = ((bestStep L c k).id, (bestStep L c k).gen) := by
      unfold rbaseStep bestStep
      rw [e1, e2]
      by_cases hh : c.gen < d.gen
      · rw [if_pos hh, if_pos hh, hi]
      · rw [if_neg hh, if_neg hh]
    rw [es]
    refine rbaseOf_is h hz l _ (fun x hx => hl x (List.mem_cons_of_mem _ hx)) ?_ ?_
    · unfold bestStep; rw [e1]; split <;> omega
    · unfold bestStep; rw [e1]
      split
      · rw [hi]
        have : k ≠ 0 := hz k (mem_keys.1 (by rw [hd]; rfl))
        constructor
        · intro _; omega
        · intro _; exact this
      · exact hc
theorem mem_basesL {L : List (Int × CommitD)} (hO : LOk L) {a b x : Int} (h : x ∈ basesL L a b) : (mget L x).isSome = true := by
  unfold basesL at h
  exact ((isB_iff hO).1 ((mem_commonL hO).1 (List.mem_filter.1 h).1).1).of
theorem Sync.baseR {L : List (Int × CommitD)} {R : List CommitD} (h : Sync L R) (hz : ∀ k ∈ mkeys L, k ≠ 0) (a b : Int) : (rbaseOf R (rbasesL R a b)).1 = (baseC L a b).id ∧ decide (0 < (rbaseOf R (rbasesL R a b)).2) = !((baseC L a b).id == 0) := by
  rw [h.basesR]
  obtain ⟨h1, h2⟩ := rbaseOf_is h hz (basesL L a b) CommitD.zero (fun k hk => mem_basesL h.lok hk) (by simp [CommitD.zero]) (by simp [CommitD.zero])
  have e : rbaseOf R (basesL L a b) = ((baseC L a b).id, (baseC L a b).gen) := h1
  rw [e]
  refine ⟨rfl, ?_⟩
  have h3 : (baseC L a b).id ≠ 0 ↔ 0 < (baseC L a b).gen := h2
  rw [Bool.eq_iff_iff]
  simp only [decide_eq_true_eq, Bool.not_eq_true', beq_eq_false_iff_ne]
  exact h3.symm
/-- the document's log -/
theorem log_same {L : List (Int × CommitD)} {R : List CommitD} (h : Sync L R) {id most : Int} {cs l : List CommitD} (hc : O.LogIs L id most cs) (hp : l.Perm ((rreach R [id]).map fun i => (rFind R i).getD CommitD.zero)) (hr : O.Rises l) : cs = l.take most.toNat := by
  have hO := h.lok
  rw [h.reach hO] at hp
  have hmem : ∀ x, x ∈ reachL L [id] ↔ Anc L x id := fun x => by
    rw [← isB_iff hO, isB_mem]; simp
  have hget : ∀ x, (rFind R x).getD CommitD.zero = gGet L x := fun x => by rw [h.same]; rfl
  simp only [hget] at hp
  have hlm : ∀ c ∈ l, ∃ x, Anc L x id ∧ c = gGet L x ∧ c.id = x := fun c hc => by
    obtain ⟨x, hx, rfl⟩ := List.mem_map.1 (hp.mem_iff.1 hc)
    have ha := (hmem x).1 hx
    obtain ⟨d, hd⟩ := Option.isSome_iff_exists.1 ha.of
    exact ⟨x, ha, rfl, by rw [gGet_some hd]; exact h.ids x d hd⟩
  have hln : (l.map CommitD.id).Nodup := by
    have h1 := List.Perm.map CommitD.id hp
    rw [List.map_map] at h1
    have h2 : (reachL L [id]).map (CommitD.id ∘ gGet L) = reachL L [id] := by
      conv => rhs; rw [← List.map_id (reachL L [id])]
      refine List.map_congr_left fun x hx => ?_
      obtain ⟨d, hd⟩ := Option.isSome_iff_exists.1 ((hmem x).1 hx).of
      show (gGet L x).id = x
      rw [gGet_some hd]; exact h.ids x d hd
    rw [h2] at h1
    exact h1.nodup_iff.2 (by unfold reachL; exact (sortI_perm _).nodup_iff.2 (reachS_ok hO [id]).nodup)
  have hin : ∀ x, Anc L x id → gGet L x ∈ l := fun x hx => hp.mem_iff.2 (List.mem_map.2 ⟨x, (hmem x).2 hx, rfl⟩)
  have hcl : ∀ c ∈ cs, c ∈ l := fun c hcc => by
    obtain ⟨h1, h2⟩ := hc.mem c hcc
    rw [h2]; exact hin _ h1
  have ht := O.LogIs.take h (id := id) (most := most) hc.rises hr hc.nodup hln (fun c hcc => (hc.mem c hcc).2) (fun c hcc => by obtain ⟨x, _, e1, e2⟩ := hlm c hcc; rw [e2]; exact e1) hcl (fun x hx => by
    obtain ⟨y, hy, e1, e2⟩ := hlm x hx
    rcases hc.rest y hy with h1 | h1
    · left
      obtain ⟨c, hcc, e3⟩ := List.mem_map.1 h1
      have := (hc.mem c hcc).2
      rw [e3] at this
      rw [e1, ← this]; exact hcc
    · right; rw [e1]; exact h1)
  by_cases hlt : (cs.length : Int) < most
  · have hall := hc.all hlt
    have hle : l.length ≤ cs.length := by
      have : ∀ x ∈ l.map CommitD.id, x ∈ cs.map CommitD.id := fun x hx => by
        obtain ⟨c, hcc, rfl⟩ := List.mem_map.1 hx
        obtain ⟨y, hy, e1, e2⟩ := hlm c hcc
        rw [e2]; exact hall y hy
      have := nodup_le2 hln this
      simpa using this
    rw [ht, List.take_of_length_le hle, List.take_of_length_le (by omega)]
  · have hfew := hc.few
    have : most.toNat = cs.length := by omega
    rw [this]; exact ht
theorem log_len {L : List (Int × CommitD)} {R : List CommitD} (h : Sync L R) {id most : Int} {cs : List CommitD} (hc : O.LogIs L id most cs) (hm : (L.length : Int) < most) : cs.length = (reachL L [id]).length ∧ (∀ (i : Nat) (c : CommitD), cs[i]? = some c → isB L c.id id = true) ∧ ∀ (i j : Nat) (c d : CommitD), j < i → cs[i]? = some c → cs[j]? = some d → d.id ≠ c.id ∧ isB L d.id c.id = false := by
  have hO := h.lok
  have hmem : ∀ x, x ∈ reachL L [id] ↔ Anc L x id := fun x => by
    rw [← isB_iff hO, isB_mem]; simp
  have hrn : (reachL L [id]).Nodup := by unfold reachL; exact (sortI_perm _).nodup_iff.2 (reachS_ok hO [id]).nodup
  have hsub : ∀ x ∈ cs.map CommitD.id, x ∈ reachL L [id] := fun x hx => by
    obtain ⟨c, hcc, rfl⟩ := List.mem_map.1 hx
    exact (hmem _).2 (hc.mem c hcc).1
  have h1 := nodup_le2 hc.nodup hsub
  have h2 : (reachL L [id]).length ≤ L.length := by
    have := nodup_le2 hrn (b := mkeys L) (fun x hx => mem_keys.1 ((hmem x).1 hx).of)
    simpa [mkeys] using this
  rw [List.length_map] at h1
  have hall := hc.all (by omega)
  have h3 := nodup_le2 hrn (b := cs.map CommitD.id) (fun x hx => hall x ((hmem x).1 hx))
  rw [List.length_map] at h3
  refine ⟨by omega, fun i c hi => (isB_iff hO).2 (hc.mem c (List.mem_of_getElem? hi)).1, fun i j c d hj hi hd => ?_⟩
  obtain ⟨p1, p2⟩ := List.getElem?_eq_some_iff.1 hi
  obtain ⟨p3, p4⟩ := List.getElem?_eq_some_iff.1 hd
  have hne : d.id ≠ c.id := by
    have := List.pairwise_iff_getElem.1 (List.nodup_iff_pairwise_ne.1 hc.nodup) j i (by simpa using p3) (by simpa using p1) hj
    simpa [p2, p4] using this
  refine ⟨hne, ?_⟩
  have hr := List.pairwise_iff_getElem.1 hc.rises j i p3 p1 hj
  rw [p2, p4] at hr
  rw [Bool.eq_false_iff]
  intro hb
  have hgen := h.is_gen hne hb
  rw [← (hc.mem c (List.mem_of_getElem? hi)).2, ← (hc.mem d (List.mem_of_getElem? hd)).2] at hgen
  rw [O.ltQ_no] at hr
  omega
end Go.Proofs.Ytehneliphhgegaa
