/- Slices of commits and of numbers, and a commit, that are read as data. -/
import Derived.Test.YtehneliphhgegaaReadRows
import Derived.Test.YtehneliphhgegaaMadeAll
set_option linter.unusedVariables false
set_option linter.unusedSimpArgs false
set_option maxRecDepth 100000
namespace Go.Proofs.Ytehneliphhgegaa
open Go.RowKit Go.Apo

section
variable {H : Type} {enc : TypeId × Value → H} {w : World}
theorem cells_nums : Try.prog.cellsOf 50 = 1 := by kernel_rfl
theorem cells_commit : Try.prog.cellsOf 69 = 5 := by kernel_rfl
theorem u64_wf {x : Int} (h : (Lit.int .u64 x).wf = true) : u64ok x := by
  have := bounds_u64 h
  unfold u64ok
  omega
/-- a slice of numbers -/
theorem u64s_of {A : Option Addr} {n c : Nat} (h : G enc Try.prog w 50 [.slice A n c]) : ∃ l : List Int, l.length = n ∧ Flat w A (nums l) ∧ (A = none → l = []) ∧ ∀ x ∈ l, u64ok x := by
  obtain ⟨a, len, cap, e, _, _, hx⟩ := h.slice Try.underlying50 (by rw [cells_u64]; omega)
  simp only [Value.slice.injEq] at e
  obtain ⟨rfl, rfl, rfl⟩ := e
  rcases Nat.eq_zero_or_pos n with rfl | h0
  · exact ⟨[], rfl, Flat.nil _ _, fun _ => rfl, fun x hx => by cases hx⟩
  obtain ⟨b, off, rfl, hx2⟩ := hx h0
  obtain ⟨l, h1, h2⟩ := choose_list (p := fun i (x : Int) => w.cell? ⟨b, off + i, none⟩ = some (.int .u64 x) ∧ u64ok x) n (fun i hi => by
    obtain ⟨cs, _, hg, hc⟩ := hx2 i hi
    obtain ⟨x, rfl, hw⟩ := hg.int Try.underlying24
    rw [cells_u64, Nat.mul_one] at hc
    exact ⟨x, hc 0 _ rfl, u64_wf hw⟩)
  refine ⟨l, h1, fun _ => ⟨b, off, rfl, fun j u hj => ?_⟩, (fun e => by cases e), fun x hx => ?_⟩
  · simp only [nums, List.getElem?_map, Option.map_eq_some_iff] at hj
    obtain ⟨x, hx, rfl⟩ := hj
    exact (h2 j x hx).1
  · obtain ⟨j, hj⟩ := List.mem_iff_getElem?.1 hx
    exact (h2 j x hj).2
def cOk (c : CommitD) : Prop := u64ok c.id ∧ u64ok c.gen ∧ u64ok c.root ∧ ∀ p ∈ c.par, u64ok p
theorem commit_cells' {cs : List Value} (h : G enc Try.prog w 69 cs) : ∃ (c : CommitD) (v0 v1 v2 v3 v4 : Value), cs = [v0, v1, v2, v3, v4] ∧ commitIs w c (.agg #[v0, v1, v2, v3, v4]) ∧ cOk c := by
  obtain ⟨a, b, c, d, e, rfl⟩ := list5 ((h.len Try.underlying69).trans cells_commit)
  have f0 := h.field Try.underlying69 0 24 0 1 rfl cells_u64
  have f1 := h.field Try.underlying69 1 50 1 1 rfl cells_nums
  have f2 := h.field Try.underlying69 2 24 2 1 rfl cells_u64
  have f3 := h.field Try.underlying69 3 24 3 1 rfl cells_u64
  have f4 := h.field Try.underlying69 4 9 4 1 rfl cells_str
  simp only [List.drop_zero, List.drop_succ_cons, List.take_succ_cons, List.take_zero] at f0 f1 f2 f3 f4
  obtain ⟨i, e0, w0⟩ := f0.int Try.underlying24
  obtain ⟨A, n, k, e1, _, _, _⟩ := f1.slice Try.underlying50 (by rw [cells_u64]; omega)
  subst e1
  obtain ⟨ps, hl, hf, hA, hp⟩ := u64s_of f1
  obtain ⟨g, e2, w2⟩ := f2.int Try.underlying24
  obtain ⟨r, e3, w3⟩ := f3.int Try.underlying24
  obtain ⟨t, e4, _⟩ := f4.string Try.underlying9
  simp only [List.cons.injEq, and_true] at e0 e2 e3 e4
  subst e0 e2 e3 e4
  exact ⟨⟨i, ps, g, r, t⟩, _, _, _, _, _, rfl, ⟨A, k, by rw [hl], hf, hA⟩, u64_wf w0, u64_wf w2, u64_wf w3, hp⟩
theorem row_build {b : Nat} : ∀ (l : List (CommitD × List Value)) (off : Nat), (∀ i x, l[i]? = some x → x.2.length = 5 ∧ (∃ v0 v1 v2 v3 v4, x.2 = [v0, v1, v2, v3, v4] ∧ commitIs w x.1 (.agg #[v0, v1, v2, v3, v4])) ∧ ∀ j u, x.2[j]? = some u → w.cell? ⟨b, off + i * 5 + j, none⟩ = some u) →
    CVals w (l.map (·.1)) (l.map (·.2)).flatten ∧ ∀ j u, (l.map (·.2)).flatten[j]? = some u → w.cell? ⟨b, off + j, none⟩ = some u
  | [], off, _ => ⟨trivial, fun j u hj => by simp at hj⟩
  | x :: l, off, h => by
    obtain ⟨h1, ⟨v0, v1, v2, v3, v4, e, hc⟩, h2⟩ := h 0 x rfl
    obtain ⟨q1, q2⟩ := row_build l (off + 5) (fun i y hy => by
      obtain ⟨g1, g2, g3⟩ := h (i + 1) y (by simpa using hy)
      refine ⟨g1, g2, fun j u hj => ?_⟩
      have := g3 j u hj
      have e : off + (i + 1) * 5 + j = off + 5 + i * 5 + j := by omega
      rwa [e] at this)
    refine ⟨?_, fun j u hj => ?_⟩
    · simp only [List.map_cons, List.flatten_cons, e]
      exact ⟨hc, q1⟩
    · simp only [List.map_cons, List.flatten_cons] at hj
      rw [List.getElem?_append] at hj
      split at hj
      · have := h2 j u hj
        rwa [Nat.zero_mul, Nat.add_zero] at this
      · rename_i hge
        rw [h1] at hj hge
        have := q2 (j - 5) u hj
        have e : off + 5 + (j - 5) = off + j := by omega
        rwa [e] at this
theorem commitRow_of {A : Option Addr} {n c : Nat} (h : G enc Try.prog w 40 [.slice A n c]) (hs : n * 64 ≤ 140737488351232) : ∃ l, CIn w A n l := by
  obtain ⟨a, len, cap, e, _, _, hx⟩ := h.slice Try.underlying40 (by rw [cells_commit]; omega)
  simp only [Value.slice.injEq] at e
  obtain ⟨rfl, rfl, rfl⟩ := e
  rcases Nat.eq_zero_or_pos n with rfl | h0
  · exact ⟨[], rfl, ⟨[], trivial, Flat.nil _ _⟩, hs, fun c hc => by cases hc⟩
  obtain ⟨b, off, rfl, hx2⟩ := hx h0
  obtain ⟨l, h1, h2⟩ := choose_list (p := fun i (x : CommitD × List Value) => (x.2.length = 5 ∧ (∃ v0 v1 v2 v3 v4, x.2 = [v0, v1, v2, v3, v4] ∧ commitIs w x.1 (.agg #[v0, v1, v2, v3, v4])) ∧ ∀ j u, x.2[j]? = some u → w.cell? ⟨b, off + i * 5 + j, none⟩ = some u) ∧ cOk x.1) n (fun i hi => by
    obtain ⟨cs, _, hg, hc⟩ := hx2 i hi
    obtain ⟨c, v0, v1, v2, v3, v4, rfl, hcm, hok⟩ := commit_cells' hg
    rw [cells_commit] at hc
    exact ⟨(c, [v0, v1, v2, v3, v4]), ⟨rfl, ⟨v0, v1, v2, v3, v4, rfl, hcm⟩, hc⟩, hok⟩)
  obtain ⟨q1, q2⟩ := row_build l off (fun i x hx => (h2 i x hx).1)
  refine ⟨l.map (·.1), by simpa using h1, ⟨_, q1, fun _ => ⟨b, off, rfl, q2⟩⟩, hs, fun c hc => ?_⟩
  obtain ⟨x, hx, rfl⟩ := List.mem_map.1 hc
  obtain ⟨j, hj⟩ := List.mem_iff_getElem?.1 hx
  exact (h2 j x hj).2
end
end Go.Proofs.Ytehneliphhgegaa
