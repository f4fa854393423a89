/- Slices of refs and of deeds, and a ref, that are read as data. -/
import Derived.Test.YtehneliphhgegaaRead
import Derived.Test.YtehneliphhgegaaRefsTags
set_option linter.unusedVariables false
set_option linter.unusedSimpArgs false
namespace Go.Proofs.Ytehneliphhgegaa
open Go.RowKit Go.Apo

section
variable {H : Type} {enc : TypeId × Value → H} {w : World}
theorem cells_str : Try.prog.cellsOf 9 = 1 := by kernel_rfl
theorem cells_bool : Try.prog.cellsOf 4 = 1 := by kernel_rfl
theorem cells_u64 : Try.prog.cellsOf 24 = 1 := by kernel_rfl
theorem cells_int : Try.prog.cellsOf 3 = 1 := by kernel_rfl
theorem cells_ref : Try.prog.cellsOf 26 = 3 := by kernel_rfl
theorem cells_deed : Try.prog.cellsOf 34 = 5 := by kernel_rfl

theorem list3 {α : Type} {l : List α} (h : l.length = 3) : ∃ a b c, l = [a, b, c] := by
  match l, h with
  | [a, b, c], _ => exact ⟨a, b, c, rfl⟩
theorem list5 {α : Type} {l : List α} (h : l.length = 5) : ∃ a b c d e, l = [a, b, c, d, e] := by
  match l, h with
  | [a, b, c, d, e], _ => exact ⟨a, b, c, d, e, rfl⟩

theorem ref_cells {cs : List Value} (h : G enc Try.prog w 26 cs) : ∃ n t i, cs = [.string n, .bool t, .int .u64 i] := by
  obtain ⟨a, b, c, rfl⟩ := list3 ((h.len Try.underlying26).trans cells_ref)
  have f0 := h.field Try.underlying26 0 9 0 1 rfl cells_str
  have f1 := h.field Try.underlying26 1 4 1 1 rfl cells_bool
  have f2 := h.field Try.underlying26 2 24 2 1 rfl cells_u64
  simp only [List.drop_zero, List.drop_succ_cons, List.take_succ_cons, List.take_zero] at f0 f1 f2
  obtain ⟨n, e0, _⟩ := f0.string Try.underlying9
  obtain ⟨t, e1⟩ := f1.bool Try.underlying4
  obtain ⟨i, e2, _⟩ := f2.int Try.underlying24
  simp only [List.cons.injEq, and_true] at e0 e1 e2
  exact ⟨n, t, i, by rw [e0, e1, e2]⟩
theorem deed_cells {cs : List Value} (h : G enc Try.prog w 34 cs) : ∃ k n t i o, cs = [.int .i64 k, .string n, .bool t, .int .u64 i, .int .u64 o] := by
  obtain ⟨a, b, c, d, e, rfl⟩ := list5 ((h.len Try.underlying34).trans cells_deed)
  have f0 := h.field Try.underlying34 0 3 0 1 rfl cells_int
  have f1 := h.field Try.underlying34 1 26 1 3 rfl cells_ref
  have f2 := h.field Try.underlying34 2 24 4 1 rfl cells_u64
  simp only [List.drop_zero, List.drop_succ_cons, List.take_succ_cons, List.take_zero] at f0 f1 f2
  obtain ⟨k, e0, _⟩ := f0.int Try.underlying3
  obtain ⟨n, t, i, e1⟩ := ref_cells f1
  obtain ⟨o, e2, _⟩ := f2.int Try.underlying24
  simp only [List.cons.injEq, and_true] at e0 e1 e2
  exact ⟨k, n, t, i, o, by rw [e0, e1.1, e1.2.1, e1.2.2, e2]⟩

theorem refRow_of {A : Option Addr} {n c : Nat} (h : G enc Try.prog w 22 [.slice A n c]) (hs : n * 24 ≤ 140737488351232) : ∃ l, RefRow w A n l := by
  obtain ⟨a, len, cap, e, _, _, hx⟩ := h.slice Try.underlying22 (by rw [cells_ref]; omega)
  simp only [Value.slice.injEq] at e
  obtain ⟨rfl, rfl, rfl⟩ := e
  rcases Nat.eq_zero_or_pos n with rfl | h0
  · exact ⟨[], rfl, hs, fun h => absurd h (by omega)⟩
  obtain ⟨b, off, rfl, hx2⟩ := hx h0
  obtain ⟨l, h1, h2⟩ := choose_list (p := fun i (r : RefD) => w.cell? ⟨b, off + i * 3, none⟩ = some (.string r.name) ∧ w.cell? ⟨b, off + i * 3 + 1, none⟩ = some (.bool r.tag) ∧ w.cell? ⟨b, off + i * 3 + 2, none⟩ = some (.int .u64 r.id)) n (fun i hi => by
    obtain ⟨cs, _, hg, hc⟩ := hx2 i hi
    obtain ⟨x, t, y, rfl⟩ := ref_cells hg
    rw [cells_ref] at hc
    exact ⟨⟨x, t, y⟩, hc 0 _ rfl, hc 1 _ rfl, hc 2 _ rfl⟩)
  exact ⟨l, h1, hs, fun _ => ⟨b, off, rfl, h2⟩⟩
theorem deedRow_of {A : Option Addr} {n c : Nat} (h : G enc Try.prog w 23 [.slice A n c]) (hs : n * 40 ≤ 140737488351232) : ∃ l, DeedRow w A n l := by
  obtain ⟨a, len, cap, e, _, _, hx⟩ := h.slice Try.underlying23 (by rw [cells_deed]; omega)
  simp only [Value.slice.injEq] at e
  obtain ⟨rfl, rfl, rfl⟩ := e
  rcases Nat.eq_zero_or_pos n with rfl | h0
  · exact ⟨[], rfl, hs, fun h => absurd h (by omega)⟩
  obtain ⟨b, off, rfl, hx2⟩ := hx h0
  obtain ⟨l, h1, h2⟩ := choose_list (p := fun i (r : DeedD) => w.cell? ⟨b, off + i * 5, none⟩ = some (.int .i64 r.kind) ∧ w.cell? ⟨b, off + i * 5 + 1, none⟩ = some (.string r.name) ∧ w.cell? ⟨b, off + i * 5 + 2, none⟩ = some (.bool r.tag) ∧ w.cell? ⟨b, off + i * 5 + 3, none⟩ = some (.int .u64 r.id) ∧ w.cell? ⟨b, off + i * 5 + 4, none⟩ = some (.int .u64 r.old)) n (fun i hi => by
    obtain ⟨cs, _, hg, hc⟩ := hx2 i hi
    obtain ⟨k, x, t, y, o, rfl⟩ := deed_cells hg
    rw [cells_deed] at hc
    exact ⟨⟨k, x, t, y, o⟩, hc 0 _ rfl, hc 1 _ rfl, hc 2 _ rfl, hc 3 _ rfl, hc 4 _ rfl⟩)
  exact ⟨l, h1, hs, fun _ => ⟨b, off, rfl, h2⟩⟩
end
end Go.Proofs.Ytehneliphhgegaa
