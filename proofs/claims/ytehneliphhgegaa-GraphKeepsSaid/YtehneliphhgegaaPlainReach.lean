/- The ancestors of some commits: in plain Lean. -/
import Derived.Test.YtehneliphhgegaaReach
set_option linter.unusedVariables false
set_option linter.unusedSimpArgs false
namespace Go.Proofs.Ytehneliphhgegaa
open Go.RowKit Go.Apo

/-- x is i, or an ancestor of i, in the graph -/
inductive Anc (L : List (Int × CommitD)) (x : Int) : Int → Prop
  | self : (mget L x).isSome = true → Anc L x x
  | up {i p : Int} {c : CommitD} : mget L i = some c → p ∈ c.par → Anc L x p → Anc L x i

theorem Anc.there {L : List (Int × CommitD)} {x i : Int} (h : Anc L x i) : (mget L i).isSome = true := by
  cases h with
  | self h => exact h
  | up h _ _ => rw [h]; rfl
theorem Anc.of {L : List (Int × CommitD)} {x i : Int} (h : Anc L x i) : (mget L x).isSome = true := by
  induction h with
  | self h => exact h
  | up _ _ _ ih => exact ih
theorem Anc.trans {L : List (Int × CommitD)} {x y i : Int} (h : Anc L x y) (k : Anc L y i) : Anc L x i := by
  induction k with
  | self _ => exact h
  | up h1 h2 _ ih => exact .up h1 h2 ih

def Cl (L : List (Int × CommitD)) (S : List (Int × Unit)) (q : List Int) : Prop :=
  ∀ k c, k ∈ mkeys S → mget L k = some c → ∀ p ∈ c.par, (mget L p).isSome = true → p ∈ mkeys S ∨ p ∈ q
/-- what the run comes to -/
structure RunIs (L : List (Int × CommitD)) (S : List (Int × Unit)) (q : List Int) (S' : List (Int × Unit)) : Prop where
  ok : SOk L S'
  old : ∀ k ∈ mkeys S, k ∈ mkeys S'
  row : ∀ y ∈ q, (mget L y).isSome = true → y ∈ mkeys S'
  cl : Cl L S' []
  snd : ∀ k ∈ mkeys S', k ∈ mkeys S ∨ ∃ y ∈ q, Anc L k y
theorem reachRun_is {L : List (Int × CommitD)} (hO : LOk L) : ∀ (f : Nat) (S : List (Int × Unit)) (q : List Int), SOk L S → reachLeft L S q ≤ f → Cl L S q → RunIs L S q (reachRun L f S q)
  | 0, S, q, hS, hf, hC => by
    have hq : q = [] := List.eq_nil_of_length_eq_zero (by unfold reachLeft at hf; omega)
    subst hq
    exact ⟨hS, fun _ h => h, fun y hy => (by cases hy), hC, fun k hk => Or.inl hk⟩
  | f + 1, S, [], hS, hf, hC => ⟨hS, fun _ h => h, fun y hy => (by cases hy), hC, fun k hk => Or.inl hk⟩
  | f + 1, S, h :: t, hS, hf, hC => by
    simp only [reachRun]
    cases hq : mget L h with
    | none =>
      have hr := reachRun_is hO f S t hS (by unfold reachLeft at *; simp at hf; omega) (fun k c hk hc p hp hs => by
        rcases hC k c hk hc p hp hs with h1 | h1
        · exact Or.inl h1
        · rcases List.mem_cons.1 h1 with rfl | h1
          · rw [hq] at hs; cases hs
          · exact Or.inr h1)
      refine ⟨hr.ok, hr.old, fun y hy hs => ?_, hr.cl, fun k hk => ?_⟩
      · rcases List.mem_cons.1 hy with rfl | hy
        · rw [hq] at hs; cases hs
        · exact hr.row y hy hs
      · rcases hr.snd k hk with h1 | ⟨y, hy, h1⟩
        · exact Or.inl h1
        · exact Or.inr ⟨y, List.mem_cons_of_mem _ hy, h1⟩
    | some c =>
      have hid := hO.ids h c hq
      simp only [hid]
      by_cases hm : (mget S h).isSome = true
      · rw [if_pos hm]
        have hmem := mem_keys.1 hm
        have hr := reachRun_is hO f S t hS (by unfold reachLeft at *; simp at hf; omega) (fun k c hk hc p hp hs => by
          rcases hC k c hk hc p hp hs with h1 | h1
          · exact Or.inl h1
          · rcases List.mem_cons.1 h1 with rfl | h1
            · exact Or.inl hmem
            · exact Or.inr h1)
        refine ⟨hr.ok, hr.old, fun y hy hs => ?_, hr.cl, fun k hk => ?_⟩
        · rcases List.mem_cons.1 hy with rfl | hy
          · exact hr.old _ hmem
          · exact hr.row y hy hs
        · rcases hr.snd k hk with h1 | ⟨y, hy, h1⟩
          · exact Or.inl h1
          · exact Or.inr ⟨y, List.mem_cons_of_mem _ hy, h1⟩
      · rw [if_neg hm]
        have hn : mget S h = none := by
          cases hq2 : mget S h with
          | none => rfl
          | some _ => rw [hq2] at hm; exact absurd rfl hm
        have hS2 := hS.put (k := h) (by rw [hq]; rfl)
        have hle := hS2.le
        have hml := mput_len hn
        have htwo := hO.two h c hq
        have hr := reachRun_is hO f (mput S h ()) (t ++ c.par) hS2 (by unfold reachLeft at *; rw [hml]; rw [hml] at hle; simp at hf ⊢; omega) (fun k d hk hd p hp hs => by
          rcases mem_keys_mput.1 hk with rfl | hk
          · rw [hq] at hd; cases hd
            exact Or.inr (List.mem_append_right _ hp)
          · rcases hC k d hk hd p hp hs with h1 | h1
            · exact Or.inl (mem_keys_mput.2 (Or.inr h1))
            · rcases List.mem_cons.1 h1 with rfl | h1
              · exact Or.inl (mem_keys_mput.2 (Or.inl rfl))
              · exact Or.inr (List.mem_append_left _ h1))
        refine ⟨hr.ok, fun k hk => hr.old k (mem_keys_mput.2 (Or.inr hk)), fun y hy hs => ?_, hr.cl, fun k hk => ?_⟩
        · rcases List.mem_cons.1 hy with rfl | hy
          · exact hr.old _ (mem_keys_mput.2 (Or.inl rfl))
          · exact hr.row y (List.mem_append_left _ hy) hs
        · rcases hr.snd k hk with h1 | ⟨y, hy, h1⟩
          · rcases mem_keys_mput.1 h1 with rfl | h1
            · exact Or.inr ⟨k, List.mem_cons_self, .self (by rw [hq]; rfl)⟩
            · exact Or.inl h1
          · rcases List.mem_append.1 hy with hy | hy
            · exact Or.inr ⟨y, List.mem_cons_of_mem _ hy, h1⟩
            · exact Or.inr ⟨h, List.mem_cons_self, .up hq hy h1⟩
theorem reachS_is {L : List (Int × CommitD)} (hO : LOk L) (ids : List Int) : RunIs L [] ids (reachS L ids) :=
  reachRun_is hO _ [] ids ⟨fun k hk => by simp [mkeys] at hk, List.nodup_nil⟩ (by unfold reachLeft; simp) (fun k c hk => by simp [mkeys] at hk)
theorem Cl.anc {L : List (Int × CommitD)} {S : List (Int × Unit)} (hC : Cl L S []) {x i : Int} (h : Anc L x i) (hi : i ∈ mkeys S) : x ∈ mkeys S := by
  induction h with
  | self _ => exact hi
  | up h1 h2 h3 ih =>
    refine ih ?_
    rcases hC _ _ hi h1 _ h2 h3.there with h | h
    · exact h
    · cases h
theorem mem_reachS {L : List (Int × CommitD)} (hO : LOk L) {ids : List Int} {x : Int} : x ∈ mkeys (reachS L ids) ↔ ∃ i ∈ ids, Anc L x i := by
  have h := reachS_is hO ids
  constructor
  · intro hx
    rcases h.snd x hx with h1 | h1
    · simp [mkeys] at h1
    · exact h1
  · rintro ⟨i, hi, ha⟩
    exact h.cl.anc ha (h.row i hi ha.there)
/-- whether one is an ancestor of another one -/
def isB (L : List (Int × CommitD)) (old late : Int) : Bool := (mget (reachS L [late]) old).isSome
theorem isB_iff {L : List (Int × CommitD)} (hO : LOk L) {old late : Int} : isB L old late = true ↔ Anc L old late := by
  unfold isB
  rw [mem_keys, mem_reachS hO]
  constructor
  · rintro ⟨i, hi, h⟩
    rw [List.mem_singleton] at hi; subst hi; exact h
  · intro h; exact ⟨late, List.mem_singleton.2 rfl, h⟩
end Go.Proofs.Ytehneliphhgegaa
