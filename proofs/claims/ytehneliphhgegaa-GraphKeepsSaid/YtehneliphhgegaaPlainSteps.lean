/- A way goes from a commit to one of its parents at each step: in plain Lean. -/
import Derived.Test.YtehneliphhgegaaPlainFar
import Derived.Test.YtehneliphhgegaaPlainReach
import Derived.Test.YtehneliphhgegaaFarPath
set_option linter.unusedVariables false
set_option linter.unusedSimpArgs false
namespace Go.Proofs.Ytehneliphhgegaa
open Go.RowKit Go.Apo

theorem gGet_at {L : List (Int × CommitD)} {i : Int} {c : CommitD} (h : mget L i = some c) : gGet L i = c := by unfold gGet; rw [h]; rfl
theorem rowAt_gen {L : List (Int × CommitD)} {R : List CommitD} (h : Sync L R) {late : Int} {c : CommitD} (hc : mget L late = some c) : ∀ (m : Nat) (x : Int), x ∈ rowAt R late m → ∃ d, mget L x = some d ∧ d.gen + m ≤ c.gen
  | 0, x, hx => by
    have : x = late := by simpa [rowAt] using hx
    subst this
    exact ⟨c, hc, by simp⟩
  | m + 1, x, hx => by
    have hx' : x ∈ rowNext R (rowAt R late m) := hx
    obtain ⟨y, hy, hxy⟩ := mem_rowNext.1 hx'
    obtain ⟨d, hd, hg⟩ := rowAt_gen h hc m y hy
    rw [← h.par y, gGet_at hd] at hxy
    obtain ⟨_, _, e, he, hlt⟩ := h.pars y d hd x hxy
    exact ⟨e, he, by push_cast; omega⟩
theorem rowAt_anc {L : List (Int × CommitD)} {R : List CommitD} (h : Sync L R) {late : Int} {c : CommitD} (hc : mget L late = some c) : ∀ (m : Nat) (x : Int), x ∈ rowAt R late m → Anc L x late
  | 0, x, hx => by
    have : x = late := by simpa [rowAt] using hx
    subst this
    exact .self (by rw [hc]; rfl)
  | m + 1, x, hx => by
    have hx' : x ∈ rowNext R (rowAt R late m) := hx
    obtain ⟨y, hy, hxy⟩ := mem_rowNext.1 hx'
    obtain ⟨d, hd, hg⟩ := rowAt_gen h hc m y hy
    rw [← h.par y, gGet_at hd] at hxy
    obtain ⟨_, _, e, he, hlt⟩ := h.pars y d hd x hxy
    exact (Anc.up hd hxy (.self (by rw [he]; rfl))).trans (rowAt_anc h hc m y hy)
theorem anc_rowAt {L : List (Int × CommitD)} {R : List CommitD} (h : Sync L R) {x i : Int} (ha : Anc L x i) : ∃ m, x ∈ rowAt R i m := by
  induction ha with
  | self _ => exact ⟨0, by simp [rowAt]⟩
  | @up i p c h1 h2 h3 ih =>
    obtain ⟨m, hm⟩ := ih
    exact ⟨m + 1, (rowAt_first' R x m i).2 ⟨p, by rw [← h.par i, gGet_at h1]; exact h2, hm⟩⟩
theorem refFar_row {L : List (Int × CommitD)} {R : List CommitD} (h : Sync L R) {old late : Int} : (∃ m : Nat, refFar R old late = m ∧ old ∈ rowAt R late m ∧ (mget L late).isSome = true) ∨ (refFar R old late = -1 ∧ ((mget L late).isSome = true → ∀ j, j < R.length + 1 → old ∉ rowAt R late j)) := by
  unfold refFar
  by_cases hs : (rFind R late).isSome = true
  · rw [if_pos hs]
    have hs' := hs
    rw [h.same] at hs'
    rcases farRows_spec R old late (R.length + 1) 0 with ⟨m, _, _, h3, _, h5⟩ | ⟨h1, h2⟩
    · exact Or.inl ⟨m, h5, h3, hs'⟩
    · exact Or.inr ⟨h1, fun _ j hj => h2 j (Nat.zero_le _) (by omega)⟩
  · rw [if_neg hs]
    exact Or.inr ⟨rfl, fun hh => by rw [← h.same] at hh; exact absurd hh hs⟩
theorem far_is {L : List (Int × CommitD)} {R : List CommitD} (h : Sync L R) (hO : LOk L) (old late : Int) : (codeFar L old late).isSome = isB L old late := by
  have key : (codeFar L old late).isSome = true ↔ isB L old late = true := by
    rw [isB_iff hO]
    rcases far_same h old late with ⟨h1, h2⟩ | ⟨d, h1, h2⟩
    · rw [h1]
      constructor
      · intro e; cases e
      · intro ha
        exfalso
        obtain ⟨c, hc⟩ := Option.isSome_iff_exists.1 ha.there
        obtain ⟨m, hm⟩ := anc_rowAt h ha
        rcases refFar_row h (old := old) (late := late) with ⟨m', e, _⟩ | ⟨_, hn⟩
        · rw [e] at h2; omega
        · obtain ⟨d, hd, hg⟩ := rowAt_gen h hc m old hm
          have g1 := h.gens late c hc
          have g2 := h.gens old d hd
          refine hn ha.there m ?_ hm
          rw [h.len]; omega
    · rw [h1]
      constructor
      · intro _
        rcases refFar_row h (old := old) (late := late) with ⟨m', e, hm, hs⟩ | ⟨e, _⟩
        · obtain ⟨c, hc⟩ := Option.isSome_iff_exists.1 hs
          exact rowAt_anc h hc m' old hm
        · rw [e] at h2; omega
      · intro _; rfl
  cases h1 : (codeFar L old late).isSome <;> cases h2 : isB L old late <;> simp [h1, h2] at key ⊢

def StepOk (L : List (Int × CommitD)) (out : List Int) : Prop := ∀ i a b, out[i]? = some a → out[i + 1]? = some b → b ∈ (gGet L a).par
theorem StepOk.snoc {L : List (Int × CommitD)} {out : List Int} {p : Int} (h : StepOk L out) (hne : out ≠ []) (hp : p ∈ (gGet L (out.getLastD 0)).par) : StepOk L (out ++ [p]) := fun i a b ha hb => by
  rcases Nat.lt_or_ge (i + 1) out.length with hlt | hge
  · rw [List.getElem?_append_left (by omega)] at ha
    rw [List.getElem?_append_left hlt] at hb
    exact h i a b ha hb
  · have hb' := (List.getElem?_eq_some_iff.1 hb).1
    simp at hb'
    have hi : i + 1 = out.length := by omega
    rw [List.getElem?_append_right (by omega), hi] at hb
    simp at hb
    subst hb
    rw [List.getElem?_append_left (by omega)] at ha
    have : out.getLastD 0 = a := by
      rw [List.getLastD_eq_getLast?, List.getLast?_eq_getElem?, show out.length - 1 = i by omega, ha]; rfl
    rw [this] at hp
    exact hp
theorem pathRun_spec {L : List (Int × CommitD)} {R : List CommitD} (h : Sync L R) (old : Int) : ∀ (k : Nat) (out : List Int), out ≠ [] → codeFar L old (out.getLastD 0) = some (k : Int) → StepOk L out →
    (pathRun L old k out).length = out.length + k ∧ StepOk L (pathRun L old k out) ∧ (pathRun L old k out)[0]? = out[0]? ∧ (pathRun L old k out).getLastD 0 = old
  | 0, out, hne, hk, hs => by
    refine ⟨rfl, hs, rfl, ?_⟩
    show out.getLastD 0 = old
    rcases far_same h old (out.getLastD 0) with ⟨h1, _⟩ | ⟨d, h1, h2⟩
    · rw [h1] at hk; cases hk
    · rw [h1] at hk
      have hd : d = 0 := by simpa using hk
      subst hd
      rcases refFar_row h (old := old) (late := out.getLastD 0) with ⟨m, e, hm, _⟩ | ⟨e, _⟩
      · rw [e] at h2
        have : m = 0 := by omega
        subst this
        have : old = out.getLastD 0 := by simpa [rowAt] using hm
        exact this.symm
      · rw [e] at h2; omega
  | k + 1, out, hne, hk, hs => by
    rcases far_same h old (out.getLastD 0) with ⟨h1, _⟩ | ⟨d, h1, h2⟩
    · rw [h1] at hk; cases hk
    · rw [h1] at hk
      have hd : (d : Int) = ((k + 1 : Nat) : Int) := by simpa using hk
      rw [hd] at h2
      obtain ⟨p, hp, hpf⟩ := far_back h h2
      have hcp : codeFar L old p = some (k : Int) := by
        rcases far_same h old p with ⟨g1, g2⟩ | ⟨e, g1, g2⟩
        · rw [g2] at hpf; omega
        · rw [g2] at hpf; rw [g1]; simp at hpf ⊢; omega
      rw [← h.par] at hp
      simp only [pathRun]
      cases hf : (gGet L (out.getLastD 0)).par.find? (fun p => codeFar L old p == some (k : Int)) with
      | none =>
        have := List.find?_eq_none.1 hf p hp
        rw [hcp] at this
        simp at this
      | some q =>
        have hq1 := List.mem_of_find?_eq_some hf
        have hq2 := List.find?_some hf
        simp only [beq_iff_eq] at hq2
        simp only
        have hl : (out ++ [q]).getLastD 0 = q := by simp
        obtain ⟨r1, r2, r3, r4⟩ := pathRun_spec h old k (out ++ [q]) (by simp) (by rw [hl]; exact hq2) (hs.snoc hne hq1)
        refine ⟨by rw [r1]; simp; omega, r2, ?_, r4⟩
        rw [r3]
        cases out with
        | nil => exact absurd rfl hne
        | cons a l => rfl
theorem codePath_spec {L : List (Int × CommitD)} {R : List CommitD} (h : Sync L R) {old late : Int} {d : Nat} (hd : codeFar L old late = some (d : Int)) :
    (codePath L old late).length = d + 1 ∧ StepOk L (codePath L old late) ∧ (codePath L old late)[0]? = some late ∧ (codePath L old late)[d]? = some old := by
  unfold codePath
  rw [hd]
  simp only [Int.toNat_natCast]
  obtain ⟨r1, r2, r3, r4⟩ := pathRun_spec h old d [late] (by simp) (by simpa using hd) (fun i a b ha hb => by
    have := (List.getElem?_eq_some_iff.1 hb).1
    simp at this)
  refine ⟨by rw [r1]; simp; omega, r2, by rw [r3]; rfl, ?_⟩
  rw [List.getLastD_eq_getLast?, List.getLast?_eq_getElem?, show (pathRun L old d [late]).length - 1 = d by rw [r1]; simp] at r4
  have hlt : d < (pathRun L old d [late]).length := by rw [r1]; simp
  rw [List.getElem?_eq_getElem hlt] at r4 ⊢
  simpa using r4
end Go.Proofs.Ytehneliphhgegaa
