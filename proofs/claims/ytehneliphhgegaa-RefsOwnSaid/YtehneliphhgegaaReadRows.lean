/- How an argument that is read as data lies in memory: numbers, bools, texts, structs and slices of these, to the bottom. · Slices of refs and of deeds, and a ref, that are read as data. -/
import Derived.Test.YtehneliphhgegaaBase
import Derived.ProofKit
import Derived.OpenShut
import Derived.ShutString
import Derived.ChangeOld
import Derived.SizedLaws
import Derived.Deep.Slices
import Derived.Test.YtehneliphhgegaaRefsAll
section
set_option linter.unusedVariables false
set_option linter.unusedSimpArgs false
namespace Go.Apo
open Go.ChangeShapes Go.WideShapes Go.RowKit

section
variable {H : Type} {enc : TypeId × Value → H} {P : Program} {w : World}

/-- these cells read as a value of type t -/
def G (enc : TypeId × Value → H) (P : Program) (w : World) (t : TypeId) (cs : List Value) : Prop := ∃ fuel x, DataW.trod enc P w 0 (fun _ => true) true fuel t cs = some x

theorem G.int {t : TypeId} {cs : List Value} {k : IntKind} (h : G enc P w t cs) (ht : P.underlying t = some (.int k)) : ∃ n, cs = [.int k n] ∧ (Lit.int k n).wf = true := by
  obtain ⟨f, x, h⟩ := h
  obtain ⟨n, h1, _, h2⟩ := DataW.trod_int ht h
  exact ⟨n, h1, h2⟩
theorem G.bool {t : TypeId} {cs : List Value} (h : G enc P w t cs) (ht : P.underlying t = some .bool) : ∃ b, cs = [.bool b] := by
  obtain ⟨f, x, h⟩ := h
  obtain ⟨n, h1, _⟩ := DataW.trod_bool ht h
  exact ⟨n, h1⟩
theorem G.string {t : TypeId} {cs : List Value} (h : G enc P w t cs) (ht : P.underlying t = some .string) : ∃ s : ByteArray, cs = [.string s] ∧ s.size ≤ maxLen := by
  obtain ⟨f, x, h⟩ := h
  obtain ⟨n, h1, _, h2⟩ := DataW.trod_string ht h
  exact ⟨n, h1, h2⟩
theorem G.len {t : TypeId} {cs : List Value} {fs : Array Field} (h : G enc P w t cs) (ht : P.underlying t = some (.struct fs)) : cs.length = P.cellsOf t := by
  obtain ⟨f, x, h⟩ := h
  obtain ⟨xs, n, _, _, h1, _⟩ := DataW.trod_struct ht h
  exact h1
theorem G.field {t : TypeId} {cs : List Value} {fs : Array Field} (h : G enc P w t cs) (ht : P.underlying t = some (.struct fs)) (i T o k : Nat) (hf : (fs[i]?).map (fun f => (f.type, f.offset)) = some (T, o)) (hk : P.cellsOf T = k) : G enc P w T ((cs.drop o).take k) := by
  obtain ⟨fu, x, h⟩ := h
  obtain ⟨xs, n, _, _, _, h2, h3⟩ := DataW.trod_struct ht h
  obtain ⟨f, hf1, hf2⟩ := Option.map_eq_some_iff.1 hf
  cases hf2
  have hi : i < xs.length := by rw [h2]; exact (Array.getElem?_eq_some_iff.1 hf1).1
  exact ⟨n, xs[i], by rw [← hk, h3 i f hf1]; exact List.getElem?_eq_getElem hi⟩

theorem add_pl (b o k : Nat) : (⟨b, o, none⟩ : Addr).add k = ⟨b, o + k, none⟩ := by unfold Addr.add; split <;> simp_all

/-- a slice: its cells, element by element -/
theorem G.slice {t e : TypeId} {v : Value} (h : G enc P w t [v]) (ht : P.underlying t = some (.slice e)) (hp : 0 < P.cellsOf e) :
    ∃ a len cap, v = .slice a len cap ∧ len ≤ cap ∧ cap ≤ maxLen ∧ (0 < len → ∃ b off, a = some ⟨b, off, none⟩ ∧ ∀ i, i < len → ∃ cs, cs.length = P.cellsOf e ∧ G enc P w e cs ∧ ∀ j u, cs[j]? = some u → w.cell? ⟨b, off + i * P.cellsOf e + j, none⟩ = some u) := by
  obtain ⟨f, x, h⟩ := h
  rcases Deep.open_slice ht h with ⟨h1, _⟩ | ⟨a, len, cap, m, n, D, Pl, h1, _, hl, hm, hmm, _, hx⟩
  · simp only [List.cons.injEq, and_true] at h1
    subst h1
    exact ⟨none, 0, 0, rfl, Nat.le_refl _, Nat.zero_le _, fun h => absurd h (Nat.lt_irrefl _)⟩
  · simp only [List.cons.injEq, and_true] at h1
    subst h1
    refine ⟨some a, len, cap, rfl, hl, hm, fun h0 => ?_⟩
    have hle : len ≤ m := by rw [hmm]; simp; exact hl
    obtain ⟨b, off, sp⟩ := a
    have hs : sp = none := by
      obtain ⟨cs, h2, _⟩ := hx 0 (by omega)
      obtain ⟨_, h3, h4⟩ := World.cells?_some h2
      have h5 := h4 0 hp
      have h6 : (⟨b, off, sp⟩ : Addr).add (0 * P.cellsOf e) = ⟨b, off, sp⟩ := by simp [Addr.add]
      rw [h6] at h5
      have h7 : (⟨b, off, sp⟩ : Addr).add 0 = ⟨b, off, sp⟩ := by simp [Addr.add]
      rw [h7] at h5
      rw [List.getElem?_eq_getElem (show 0 < cs.length by omega)] at h5
      unfold World.cell? at h5
      split at h5
      · cases sp with
        | none => rfl
        | some q => simp at h5
      · cases h5
    subst hs
    refine ⟨b, off, rfl, fun i hi => ?_⟩
    obtain ⟨cs, h2, h3⟩ := hx i (by omega)
    obtain ⟨_, h4, h5⟩ := World.cells?_some h2
    refine ⟨cs, h4, ⟨_, _, h3⟩, fun j u hj => ?_⟩
    have hjl : j < P.cellsOf e := by rw [← h4]; exact (List.getElem?_eq_some_iff.1 hj).1
    have := h5 j hjl
    rw [add_pl, add_pl] at this
    rw [this, hj]

theorem choose_list {α : Type} {p : Nat → α → Prop} : ∀ (n : Nat), (∀ i, i < n → ∃ a, p i a) → ∃ l : List α, l.length = n ∧ ∀ j a, l[j]? = some a → p j a
  | 0, _ => ⟨[], rfl, fun j a h => by simp at h⟩
  | n + 1, h => by
    obtain ⟨l, h1, h2⟩ := choose_list n (fun i hi => h i (Nat.lt_succ_of_lt hi))
    obtain ⟨a, ha⟩ := h n (Nat.lt_succ_self _)
    refine ⟨l ++ [a], by simp [h1], fun j b hj => ?_⟩
    rw [List.getElem?_append] at hj
    split at hj
    · exact h2 j b hj
    · rename_i hlt
      have : j = n := by
        rcases Nat.lt_or_ge (j - l.length) 1 with h' | h'
        · omega
        · rw [List.getElem?_eq_none (by simpa using h')] at hj; cases hj
      subst this
      rw [h1] at hj
      simp at hj
      subst hj
      exact ha

/-- an argument that is a slice takes no more room than the row lets in -/
theorem sized_any {base : Nat} {t e : TypeId} {a : Option Addr} {len cap : Nat} {d : DataW H} {ps : List MemPlace} {ts : List TypeId} {ds : List (DataW H)} {j : Nat}
    (hsz : (DataW.weightsEach P ts ds).all (· ≤ reachBytes) = true) (ht : ts[j]? = some t) (hd : ds[j]? = some d) (hu : P.underlying t = some (.slice e)) {B : Nat} (hB : P.bytesOf e = B)
    {spare : Nat → Bool} {held : Bool} (h : DataW.Trod enc P w base spare held t (.slice a len cap) d ps) : len * B ≤ 140737488351232 := by
  obtain ⟨fuel, hf⟩ := h
  rcases Deep.open_slice hu hf with ⟨h1, _⟩ | ⟨a', len', cap', m, n, D, Pl, h1, _, hl, hm, hmm, hx, _⟩
  · simp [Value.cells] at h1
    obtain ⟨_, rfl, _⟩ := h1
    simp
  · simp [Value.cells] at h1
    obtain ⟨_, rfl, rfl⟩ := h1
    obtain ⟨hx, _⟩ := Prod.mk.inj hx
    subst hx
    have z := sized_slice hsz ht hd hu
    rw [hB] at z
    simp only [List.length_map, List.length_range] at z
    exact Nat.le_trans (Nat.mul_le_mul_right _ (by omega)) z
end
end Go.Apo
end
section
set_option linter.unusedVariables false
set_option linter.unusedSimpArgs false
namespace Go.Proofs.Ytehneliphhgegaa
open Go.RowKit Go.Apo

section
variable {H : Type} {enc : TypeId × Value → H} {w : World}
theorem cells_str : Try.prog.cellsOf 9 = 1 := by kernel_rfl
theorem cells_bool : Try.prog.cellsOf 4 = 1 := by kernel_rfl
theorem cells_u64 : Try.prog.cellsOf 24 = 1 := by kernel_rfl
theorem cells_int : Try.prog.cellsOf 3 = 1 := by kernel_rfl
theorem cells_ref : Try.prog.cellsOf 26 = 3 := by kernel_rfl
theorem cells_deed : Try.prog.cellsOf 34 = 5 := by kernel_rfl

theorem list3 {α : Type} {l : List α} (h : l.length = 3) : ∃ a b c, l = [a, b, c] := by
  match l, h with
  | [a, b, c], _ => exact ⟨a, b, c, rfl⟩
theorem list5 {α : Type} {l : List α} (h : l.length = 5) : ∃ a b c d e, l = [a, b, c, d, e] := by
  match l, h with
  | [a, b, c, d, e], _ => exact ⟨a, b, c, d, e, rfl⟩

theorem ref_cells {cs : List Value} (h : G enc Try.prog w 26 cs) : ∃ n t i, cs = [.string n, .bool t, .int .u64 i] := by
  obtain ⟨a, b, c, rfl⟩ := list3 ((h.len Try.underlying26).trans cells_ref)
  have f0 := h.field Try.underlying26 0 9 0 1 rfl cells_str
  have f1 := h.field Try.underlying26 1 4 1 1 rfl cells_bool
  have f2 := h.field Try.underlying26 2 24 2 1 rfl cells_u64
  simp only [List.drop_zero, List.drop_succ_cons, List.take_succ_cons, List.take_zero] at f0 f1 f2
  obtain ⟨n, e0, _⟩ := f0.string Try.underlying9
  obtain ⟨t, e1⟩ := f1.bool Try.underlying4
  obtain ⟨i, e2, _⟩ := f2.int Try.underlying24
  simp only [List.cons.injEq, and_true] at e0 e1 e2
  exact ⟨n, t, i, by rw [e0, e1, e2]⟩
theorem deed_cells {cs : List Value} (h : G enc Try.prog w 34 cs) : ∃ k n t i o, cs = [.int .i64 k, .string n, .bool t, .int .u64 i, .int .u64 o] := by
  obtain ⟨a, b, c, d, e, rfl⟩ := list5 ((h.len Try.underlying34).trans cells_deed)
  have f0 := h.field Try.underlying34 0 3 0 1 rfl cells_int
  have f1 := h.field Try.underlying34 1 26 1 3 rfl cells_ref
  have f2 := h.field Try.underlying34 2 24 4 1 rfl cells_u64
  simp only [List.drop_zero, List.drop_succ_cons, List.take_succ_cons, List.take_zero] at f0 f1 f2
  obtain ⟨k, e0, _⟩ := f0.int Try.underlying3
  obtain ⟨n, t, i, e1⟩ := ref_cells f1
  obtain ⟨o, e2, _⟩ := f2.int Try.underlying24
  simp only [List.cons.injEq, and_true] at e0 e1 e2
  exact ⟨k, n, t, i, o, by rw [e0, e1.1, e1.2.1, e1.2.2, e2]⟩

theorem refRow_of {A : Option Addr} {n c : Nat} (h : G enc Try.prog w 22 [.slice A n c]) (hs : n * 24 ≤ 140737488351232) : ∃ l, RefRow w A n l := by
  obtain ⟨a, len, cap, e, _, _, hx⟩ := h.slice Try.underlying22 (by rw [cells_ref]; omega)
  simp only [Value.slice.injEq] at e
  obtain ⟨rfl, rfl, rfl⟩ := e
  rcases Nat.eq_zero_or_pos n with rfl | h0
  · exact ⟨[], rfl, hs, fun h => absurd h (by omega)⟩
  obtain ⟨b, off, rfl, hx2⟩ := hx h0
  obtain ⟨l, h1, h2⟩ := choose_list (p := fun i (r : RefD) => w.cell? ⟨b, off + i * 3, none⟩ = some (.string r.name) ∧ w.cell? ⟨b, off + i * 3 + 1, none⟩ = some (.bool r.tag) ∧ w.cell? ⟨b, off + i * 3 + 2, none⟩ = some (.int .u64 r.id)) n (fun i hi => by
    obtain ⟨cs, _, hg, hc⟩ := hx2 i hi
    obtain ⟨x, t, y, rfl⟩ := ref_cells hg
    rw [cells_ref] at hc
    exact ⟨⟨x, t, y⟩, hc 0 _ rfl, hc 1 _ rfl, hc 2 _ rfl⟩)
  exact ⟨l, h1, hs, fun _ => ⟨b, off, rfl, h2⟩⟩
theorem deedRow_of {A : Option Addr} {n c : Nat} (h : G enc Try.prog w 23 [.slice A n c]) (hs : n * 40 ≤ 140737488351232) : ∃ l, DeedRow w A n l := by
  obtain ⟨a, len, cap, e, _, _, hx⟩ := h.slice Try.underlying23 (by rw [cells_deed]; omega)
  simp only [Value.slice.injEq] at e
  obtain ⟨rfl, rfl, rfl⟩ := e
  rcases Nat.eq_zero_or_pos n with rfl | h0
  · exact ⟨[], rfl, hs, fun h => absurd h (by omega)⟩
  obtain ⟨b, off, rfl, hx2⟩ := hx h0
  obtain ⟨l, h1, h2⟩ := choose_list (p := fun i (r : DeedD) => w.cell? ⟨b, off + i * 5, none⟩ = some (.int .i64 r.kind) ∧ w.cell? ⟨b, off + i * 5 + 1, none⟩ = some (.string r.name) ∧ w.cell? ⟨b, off + i * 5 + 2, none⟩ = some (.bool r.tag) ∧ w.cell? ⟨b, off + i * 5 + 3, none⟩ = some (.int .u64 r.id) ∧ w.cell? ⟨b, off + i * 5 + 4, none⟩ = some (.int .u64 r.old)) n (fun i hi => by
    obtain ⟨cs, _, hg, hc⟩ := hx2 i hi
    obtain ⟨k, x, t, y, o, rfl⟩ := deed_cells hg
    rw [cells_deed] at hc
    exact ⟨⟨k, x, t, y, o⟩, hc 0 _ rfl, hc 1 _ rfl, hc 2 _ rfl, hc 3 _ rfl, hc 4 _ rfl⟩)
  exact ⟨l, h1, hs, fun _ => ⟨b, off, rfl, h2⟩⟩
end
end Go.Proofs.Ytehneliphhgegaa
end
