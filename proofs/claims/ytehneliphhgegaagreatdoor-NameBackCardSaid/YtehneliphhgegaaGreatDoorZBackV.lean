/- What a commit is called leads back to it; in plain words. -/
import Derived.Test.YtehneliphhgegaaGreatDoorZAll
import Derived.Test.YtehneliphhgegaaGreatDoorZKDFind
set_option linter.unusedVariables false
set_option linter.unusedSimpArgs false
set_option maxRecDepth 100000
namespace Go.Proofs.YtehneliphhgegaaGreatDoor
open Go.RowKit Go.Apo

theorem sortI_pw (l : List Int) : (sortI l).Pairwise (· ≤ ·) := by
  have := List.pairwise_mergeSort (le := fun x y : Int => decide (x ≤ y)) (fun a b c h1 h2 => by simp only [decide_eq_true_eq] at *; omega) (fun a b => by simp only [Bool.or_eq_true, decide_eq_true_eq]; omega) l
  exact this.imp (fun h => by simpa using h)
theorem pw_eq : ∀ {a b : List Int}, a.Pairwise (· < ·) → b.Pairwise (· < ·) → (∀ x, x ∈ a ↔ x ∈ b) → a = b
  | [], [], _, _, _ => rfl
  | [], y :: b, _, _, h => by have := (h y).2 List.mem_cons_self; cases this
  | x :: a, [], _, _, h => by have := (h x).1 List.mem_cons_self; cases this
  | x :: a, y :: b, ha, hb, h => by
    rw [List.pairwise_cons] at ha hb
    have hxy : x = y := by
      rcases List.mem_cons.1 ((h x).1 List.mem_cons_self) with e | e
      · exact e
      · rcases List.mem_cons.1 ((h y).2 List.mem_cons_self) with e' | e'
        · exact e'.symm
        · have := ha.1 y e'; have := hb.1 x e; omega
    subst hxy
    congr 1
    refine pw_eq ha.2 hb.2 (fun z => ⟨fun hz => ?_, fun hz => ?_⟩)
    · rcases List.mem_cons.1 ((h z).1 (List.mem_cons_of_mem _ hz)) with e | e
      · subst e; have := ha.1 z hz; omega
      · exact e
    · rcases List.mem_cons.1 ((h z).2 (List.mem_cons_of_mem _ hz)) with e | e
      · subst e; have := hb.1 z hz; omega
      · exact e
theorem pw_lt_of {a : List Int} (h : a.Pairwise (· ≤ ·)) (hn : a.Nodup) : a.Pairwise (· < ·) :=
  (List.pairwise_and_iff.2 ⟨h, hn⟩).imp (fun ⟨h1, h2⟩ => by omega)
theorem sortI_lt {l : List Int} (hn : l.Nodup) : (sortI l).Pairwise (· < ·) := pw_lt_of (sortI_pw l) ((sortI_permK l).nodup_iff.2 hn)
theorem rFind_mem' {R : List CommitD} {i : Int} : (rFind R i).isSome = true ↔ i ∈ R.map CommitD.id := by
  unfold rFind
  rw [List.find?_isSome]
  simp only [List.mem_map, beq_iff_eq]
theorem sync_ids {L : List (Int × CommitD)} {R : List CommitD} (h : Sync L R) : sortI (mkeys L) = R.map CommitD.id := by
  refine pw_eq (sortI_lt h.nodup) (List.pairwise_map.2 h.sorted) (fun x => ?_)
  rw [mem_sortI, ← mem_keys, ← rFind_mem', h.same]


theorem nameB_chars {s : ByteArray} (h : nameB s = true) {k : Nat} (hk : k < s.size) : chOk k (byteAt s k) = true := by
  cases hc : chOk k (byteAt s k) with
  | true => rfl
  | false => rw [nameB_at hk hc] at h; cases h
theorem name_no_tilde {s : ByteArray} (h : nameB s = true) : ∀ k, k < s.size → byteAt s k ≠ 126 := fun k hk e => by
  have h1 := nameB_chars h hk
  rw [e, chOk_iff] at h1
  omega
theorem name_ne {s : ByteArray} (h : nameB s = true) : s ≠ ⟨#[]⟩ := fun e => by
  rw [e, nameB_no (Or.inl (by decide))] at h
  cases h
theorem digits (n : Nat) : ∀ c ∈ Lib.decDigits n, 48 ≤ c.toNat ∧ c.toNat ≤ 57 := by
  induction n using Nat.strongRecOn with
  | _ n ih =>
    intro c hc
    by_cases h : n < 10
    · rw [Lib.decDigits_one h, List.mem_singleton] at hc
      subst hc
      rw [UInt8.toNat_ofNat_of_lt' (by show _ < 256; omega)]
      omega
    · rw [Lib.decDigits, dif_neg h, List.mem_append, List.mem_singleton] at hc
      rcases hc with hc | rfl
      · exact ih (n / 10) (by omega) c hc
      · rw [UInt8.toNat_ofNat_of_lt' (by show _ < 256; omega)]
        omega
theorem dec_bytes (n k : Nat) (hk : k < (dec n).size) : byteAt (dec n) k ≠ 126 := by
  have h' : k < (dec n).data.toList.length := by simpa using hk
  unfold byteAt
  rw [List.getD_eq_getElem?_getD, List.getElem?_eq_getElem h', Option.getD_some]
  have h2 : (dec n).data.toList = Lib.decDigits n := by simp [dec]
  have := digits n _ (by rw [← h2]; exact List.getElem_mem h')
  omega
theorem byteAt_app_r {a b : ByteArray} {k : Nat} : byteAt (a ++ b) (a.size + k) = byteAt b k := by
  unfold byteAt
  have h' : a.size = a.data.toList.length := by simp
  rw [ByteArray.data_append, Array.toList_append, List.getD_eq_getElem?_getD, h', List.getElem?_append_right (by omega), Nat.add_sub_cancel_left, List.getD_eq_getElem?_getD]
theorem dec_pos (n : Nat) : 1 ≤ (dec n).size := by
  have h := dec_ne n
  have h2 : (dec n).size = (Lib.decDigits n).length := by simp [dec, ByteArray.size]
  rw [h2]
  rcases Nat.eq_zero_or_pos (Lib.decDigits n).length with h0 | h0
  · exact absurd (List.eq_nil_of_length_eq_zero h0) h
  · exact h0
theorem at_size (n : Nat) : ((⟨#[64]⟩ : ByteArray) ++ dec n).size = 1 + (dec n).size := by rw [ByteArray.size_append]; rfl
theorem at_no_tilde (n : Nat) : ∀ k, k < ((⟨#[64]⟩ : ByteArray) ++ dec n).size → byteAt ((⟨#[64]⟩ : ByteArray) ++ dec n) k ≠ 126 := fun k hk => by
  rw [at_size] at hk
  rcases Nat.eq_zero_or_pos k with rfl | h
  · rw [byteAt_app_l (by decide)]; decide
  · obtain ⟨j, rfl⟩ : ∃ j, k = (⟨#[64]⟩ : ByteArray).size + j := ⟨k - 1, by show k = 1 + (k - 1); omega⟩
    rw [byteAt_app_r]
    exact dec_bytes n j (by have : (⟨#[64]⟩ : ByteArray).size = 1 := rfl; omega)
theorem ref_at {n : Nat} (h0 : n ≠ 0) (hn : n < 18446744073709551616) : refV ((⟨#[64]⟩ : ByteArray) ++ dec n) = (⟨#[]⟩, n, true) := by
  have hb0 : byteAt ((⟨#[64]⟩ : ByteArray) ++ dec n) 0 = 64 := by rw [byteAt_app_l (by decide)]; decide
  have hz := at_size n
  have hp := dec_pos n
  have ht : tailS ((⟨#[64]⟩ : ByteArray) ++ dec n) = dec n := by
    unfold tailS
    exact ByteArray.extract_append_eq_right rfl (by simp)
  have hnum : numV (dec n) = (n, true) := (parse_iff (dec n) n hn).1 ⟨by
    unfold Lib.parseUintB dec
    rw [if_neg (dec_ne n)]
    exact parse_dec n (by omega), rfl⟩
  unfold refV
  rw [nameB_at (k := 0) (by omega) (by rw [hb0]; decide), if_neg (by simp), if_neg (by rintro (h | h) <;> omega), ht, hnum, if_neg (by rintro (h | h); cases h; exact h0 h)]
theorem line_head {L : List (Int × CommitD)} {i : Int} {c : CommitD} (h : mget L i = some c) : (lineL L i)[0]? = some i := by rw [lineL, h]; rfl
theorem idxN_spec {l : List Int} {x : Int} {k : Nat} (h : idxN l x = some k) : l[k]? = some x := by
  unfold idxN at h
  rw [List.findIdx?_eq_some_iff_getElem] at h
  obtain ⟨hk, he, _⟩ := h
  rw [List.getElem?_eq_getElem hk]
  exact congrArg some (by simpa using he)
theorem way_mem {L : List (Int × CommitD)} {l : List RefD} {id : Int} {k : Nat} {a : Way} (h : a ∈ waysL L l id k) :
    ∃ (i : Nat) (r : RefD) (q : Nat), l[i]? = some r ∧ nameB r.name = true ∧ freshB l i r.name = true ∧ idxN (lineL L r.id) id = some q ∧ a = (r.name, q) := by
  unfold waysL at h
  obtain ⟨i, _, hi⟩ := List.mem_filterMap.1 h
  cases hr : l[i]? with
  | none => rw [hr] at hi; cases hi
  | some r =>
    rw [hr] at hi
    simp only [Option.bind_some] at hi
    unfold wayOf at hi
    split at hi
    · rename_i h1
      cases hx : idxN (lineL L r.id) id with
      | none => rw [hx] at hi; cases hi
      | some q =>
        rw [hx] at hi
        cases hi
        exact ⟨i, r, q, hr, h1.1, h1.2, hx, rfl⟩
    · cases hi
theorem named_first {l : List RefD} {i : Nat} {r : RefD} (h : l[i]? = some r) (hf : freshB l i r.name = true) : namedO l r.name = some r.id := by
  rw [freshB_pos h] at hf
  have hp : posR l r.name = i := of_decide_eq_true hf
  rcases posR_cases l r.name with ⟨h1, _⟩ | ⟨k, r', h1, h2, _, h4, _⟩
  · rw [h1] at hp; omega
  · have : k = i := by rw [h1] at hp; omega
    subst this
    rw [h] at h2
    cases h2
    unfold namedO
    rw [h4]
    rfl
theorem refV_name {s : ByteArray} (h : nameB s = true) : refV s = (s, 0, true) := by
  unfold refV
  rw [if_pos h]
/-- what a commit is called leads back to it -/
theorem find_of {L : List (Int × CommitD)} {l : List RefD} (hbig : ∀ i, (lineL L i).length ≤ 25) {id : Int} (hid : u64ok id) (h0 : id ≠ 0) {c : CommitD} (hm : mget L id = some c) : findO L l (ofV L l id) = some id := by
  obtain ⟨iN, rfl⟩ : ∃ iN : Nat, id = iN := ⟨id.toNat, by unfold u64ok at hid; omega⟩
  have hi64 : iN < 18446744073709551616 := by unfold u64ok at hid; omega
  have hof : ofV L l (iN : Int) = textW iN (bestW (waysL L l (iN : Int) l.length)) := rfl
  rw [hof]
  cases hB : bestW (waysL L l (iN : Int) l.length) with
  | none =>
    show findO L l ((⟨#[64]⟩ : ByteArray) ++ dec iN) = _
    have hr := ref_at (n := iN) (by omega) hi64
    have hs := split_front (cutV_no (tildeI_none (at_no_tilde iN))) (by rw [hr])
    rw [findO_ok (by rw [hs]), hs]
    show atO L 0 (startO l (refV _)) = _
    rw [hr, startO_id rfl]
    exact line_head hm
  | some a =>
    rcases best_mem _ _ _ hB with h1 | h1
    · obtain ⟨i, r, q, hl, hnb, hf, hx, rfl⟩ := way_mem h1
      have hn := named_first hl hf
      have hr := refV_name hnb
      have hst : startO l (refV r.name) = some r.id := by rw [hr, startO_name (name_ne hnb)]; exact hn
      have hat := idxN_spec hx
      have hq : q ≤ 1000000 := by have := idxN_lt hx; have := hbig r.id; omega
      unfold textW
      simp only
      by_cases hq0 : q = 0
      · rw [if_pos hq0]
        have hs := split_front (cutV_no (tildeI_none (name_no_tilde hnb))) (by rw [hr])
        rw [findO_ok (by rw [hs]), hs]
        show atO L 0 (startO l (refV r.name)) = _
        rw [hst]
        rw [hq0] at hat
        exact hat
      · rw [if_neg hq0]
        have hs := split_join (name_no_tilde hnb) (by rw [hr]) hq
        rw [findO_ok (by rw [hs]), hs]
        show atO L q (startO l (refV r.name)) = _
        rw [hst]
        exact hat
    · cases h1
theorem of_size {L : List (Int × CommitD)} {l : List RefD} (hbig : ∀ i, (lineL L i).length ≤ 25) {id : Int} (hid : u64ok id) : (ofV L l id).size ≤ 60 := by
  have hi64 : id.toNat < 18446744073709551616 := by unfold u64ok at hid; omega
  unfold ofV
  cases hB : bestW (waysL L l id l.length) with
  | none =>
    show ((⟨#[64]⟩ : ByteArray) ++ dec id.toNat).size ≤ 60
    rw [at_size]
    have := dec_size hi64
    omega
  | some a =>
    rcases best_mem _ _ _ hB with h1 | h1
    · obtain ⟨i, r, q, hl, hnb, hf, hx, rfl⟩ := way_mem h1
      have h20 := nameB_size hnb
      have hq : q ≤ 1000000 := by have := idxN_lt hx; have := hbig r.id; omega
      have := dec_size (u := q) (by omega)
      unfold textW
      simp only
      split
      · omega
      · rw [ByteArray.size_append, ByteArray.size_append]
        show r.name.size + 1 + (dec q).size ≤ 60
        omega
    · cases h1
theorem of_nil (l : List RefD) (id : Int) : ofV [] l id = (⟨#[64]⟩ : ByteArray) ++ dec id.toNat := by
  have h : waysL [] l id l.length = [] := by
    unfold waysL
    rw [List.filterMap_eq_nil_iff]
    intro i _
    cases l[i]? with
    | none => rfl
    | some r =>
      simp only [Option.bind_some]
      unfold wayOf
      split
      · rw [lineL_none rfl]; rfl
      · rfl
  unfold ofV
  rw [h]
  rfl
theorem find_nil (l : List RefD) (s : ByteArray) : findO [] l s = none := by
  unfold findO
  split
  · rfl
  · cases startO l (refV (splitV s).1) with
    | none => rfl
    | some i => show (lineL [] i)[_]? = none; rw [lineL_none rfl]; rfl
end Go.Proofs.YtehneliphhgegaaGreatDoor
