/- A reader of bytes, as it lies in memory; slices of bytes cut. -/
import Derived.Test.YtehneliphhgegaaDoorDLebV
import Derived.Lib.SlBytesRow
import Derived.Laws.Slices
set_option linter.unusedVariables false
set_option linter.unusedSimpArgs false
set_option maxRecDepth 100000
namespace Go.Proofs.YtehneliphhgegaaDoor
open Go.RowKit Go.Apo

theorem addP (b o k : Nat) : (⟨b, o, none⟩ : Addr).add k = ⟨b, o + k, none⟩ := by unfold Addr.add; split <;> simp_all
def OffB (A : Option Addr) (b : Nat) : Prop := ∀ a, A = some a → a.block ≠ b
theorem flat_but {w w' : World} {A : Option Addr} {b : Nat} {cs : List Value} (h : Flat w A cs) (ho : OffB A b) (hb : But b w w') : Flat w' A cs := fun h0 => by
  obtain ⟨q, off, e, hc⟩ := h h0
  refine ⟨q, off, e, fun j u hj => ?_⟩
  have h1 := hc j u hj
  exact (hb.cell (p := ⟨q, off + j, none⟩) (cell_lt h1) (ho ⟨q, off, none⟩ e)).trans h1
theorem but_al {b : Nat} {w W : World} (h : But b w W) (o : Obj) : But b w (W.alloc o) := h.trans (But.of_below (bel_al0 (Below.refl _ _) o))
theorem but_dr {b : Nat} {w W : World} (h : But b w W) : But b w W.drew := ⟨h.os, h.tape, h.output, h.size, h.block⟩
theorem but_drn {b : Nat} {w W : World} (h : But b w W) (n : Nat) : But b w (W.drewN n) := ⟨h.os, h.tape, h.output, h.size, h.block⟩
theorem but_set {b : Nat} {w W : World} (h : But b w W) (j : Nat) (v : Value) : But b w (W.setCell ⟨b, j, none⟩ v) := h.trans (But.set W b j v)
theorem but_tr {b : Nat} {w W W' : World} (h : But b w W) (k : Below W.heap.size W W') : But b w W' := h.trans (But.of_below k)
def subA (A : Option Addr) (c k : Nat) : Option Addr := if c = k then A else A.map (·.add (k * 1))
theorem addr_block (a : Addr) (k : Nat) : (a.add k).block = a.block := by unfold Addr.add; split <;> rfl
theorem off_sub {A : Option Addr} {b : Nat} (h : OffB A b) (c k : Nat) : OffB (subA A c k) b := by
  unfold subA
  split
  · exact h
  · intro a ha
    cases A with
    | none => cases ha
    | some x =>
      simp only [Option.map_some, Option.some.injEq] at ha
      subst ha
      rw [addr_block]
      exact h x rfl
theorem flat_sub {w : World} {A : Option Addr} {cs : List Value} (h : Flat w A cs) {c : Nat} (hc : cs.length ≤ c) (k : Nat) : Flat w (subA A c k) (cs.drop k) := fun h0 => by
  rw [List.length_drop] at h0
  obtain ⟨q, off, e, hq⟩ := h (by omega)
  subst e
  unfold subA
  rw [if_neg (by omega)]
  refine ⟨q, off + k, ?_, fun j u hj => ?_⟩
  · simp only [Option.map_some, Nat.mul_one]
    congr 1
    unfold Addr.add
    split <;> simp_all
  · rw [List.getElem?_drop] at hj
    rw [Nat.add_assoc]
    exact hq _ u hj
theorem flat_take {w : World} {A : Option Addr} {cs : List Value} (h : Flat w A cs) (k : Nat) : Flat w A (cs.take k) := fun h0 => by
  rw [List.length_take] at h0
  obtain ⟨q, off, e, hq⟩ := h (by omega)
  exact ⟨q, off, e, fun j u hj => by
    rw [List.getElem?_take] at hj
    split at hj
    · exact hq j u hj
    · cases hj⟩
theorem run_cut (kl : IntKind) (A : Option Addr) (n c k : Nat) (hk : k ≤ n) (W : World) : (Instr.sliceAt 35 (.slice A n c) (some (.int kl (k : Int))) none none).run Tryd.prog W = .ok (.slice (subA A c k) (n - k) (c - k)) W := by
  have ht : Tryd.prog.underlying 35 = some (.slice (Tryd.prog.elem 35)) := by kernel_rfl
  have he : Tryd.prog.elem 35 = 5 := by kernel_rfl
  rw [run_sliceAt_slice W _ _ _ _ _ ht, run_slice_l W _ A n c ht kl (k : Int) (by omega) (by omega), he, Tryd.sizeOf5]
  unfold subA
  simp [Result.andThen, sliced]
theorem run_head (kl : IntKind) (A : Option Addr) (n c k : Nat) (hk : k ≤ c) (W : World) : (Instr.sliceAt 35 (.slice A n c) none (some (.int kl (k : Int))) none).run Tryd.prog W = .ok (.slice A k c) W := by
  have ht : Tryd.prog.underlying 35 = some (.slice (Tryd.prog.elem 35)) := by kernel_rfl
  have he : Tryd.prog.elem 35 = 5 := by kernel_rfl
  rw [run_sliceAt_slice W _ _ _ _ _ ht, run_slice_h W _ A n c ht kl (k : Int) (by omega) (by omega), he, Tryd.sizeOf5]
  have h0 : ∀ a : Addr, a.add 0 = a := fun a => by unfold Addr.add; split <;> simp_all
  simp [Result.andThen, sliced, h0]
/-- string(b), where these bytes lie flat -/
theorem run_text (A : Option Addr) (c : Nat) (l : List UInt8) (W : World) (h : Flat W A (Lib.byteCells l)) (n : Nat) (hn : n = l.length) : (convert 35 9 (.slice A n c)).run Tryd.prog W = .ok (.string ⟨l.toArray⟩) W := by
  subst hn
  by_cases h0 : 0 < l.length
  · obtain ⟨q, off, rfl, hq⟩ := h (by rw [Lib.byteCells_length]; exact h0)
    refine run_convert_bytes_back W _ _ 5 ⟨q, off, none⟩ c l Tryd.underlying35 Tryd.underlying5 Tryd.underlying9 (fun j hj => ?_)
    have := hq j _ (show (Lib.byteCells l)[j]? = some (.int .u8 (l[j].toNat : Int)) by simp [Lib.byteCells, hj])
    rw [addP]
    exact this
  · have : l = [] := List.eq_nil_of_length_eq_zero (by omega)
    subst this
    show (convert 35 9 (.slice A 0 c)).run Tryd.prog W = _
    rw [run_convert_bytes_string W _ _ 5 A 0 c Tryd.underlying35 Tryd.underlying5 Tryd.underlying9]
    cases A <;> simp [Conv.bytesToString, loadCells, loadCellsFrom] <;> rfl

/-- the bytes lie in a block below D that is not b -/
def OffD (A : Option Addr) (b D : Nat) (l : List UInt8) : Prop := l ≠ [] → ∀ a, A = some a → a.block ≠ b ∧ a.block < D
/-- a reader of the type T, at the block b: what is left; none: it has failed -/
def RAt (T : TypeId) (w : World) (b D : Nat) : Option (List UInt8) → Prop
  | none => Blk w b #[.slice none 0 0, .bool true] T
  | some l => ∃ A c, Blk w b #[.slice A l.length c, .bool false] T ∧ l.length ≤ c ∧ l.length ≤ 1000000 ∧ Flat w A (Lib.byteCells l) ∧ OffD A b D l
theorem RAt.lt {T : TypeId} {w : World} {b D : Nat} {st : Option (List UInt8)} (h : RAt T w b D st) : b < w.heap.size := by
  cases st with
  | none => exact Blk.lt h
  | some l => obtain ⟨A, c, h1, _⟩ := h; exact h1.lt
theorem RAt.below {T : TypeId} {w w' : World} {b D : Nat} {st : Option (List UInt8)} (h : RAt T w b D st) (hb : Below w.heap.size w w') : RAt T w' b D st := by
  cases st with
  | none => exact Blk.below h hb
  | some l => obtain ⟨A, c, h1, h2, h3, h4, h5⟩ := h; exact ⟨A, c, h1.below hb, h2, h3, h4.below hb, h5⟩
theorem flat_ne {l : List UInt8} (h : 0 < (Lib.byteCells l).length) : l ≠ [] := by
  rintro rfl
  simp [Lib.byteCells] at h
theorem flat_butD {w w' : World} {A : Option Addr} {b : Nat} {l : List UInt8} (h : Flat w A (Lib.byteCells l)) (ho : l ≠ [] → OffB A b) (hb : But b w w') : Flat w' A (Lib.byteCells l) := fun h0 => flat_but h (ho (flat_ne h0)) hb h0
theorem RAt.but {T : TypeId} {w w' : World} {b D p : Nat} {st : Option (List UInt8)} (h : RAt T w b D st) (hb : But p w w') (hp : b ≠ p) (hD : D ≤ p) : RAt T w' b D st := by
  cases st with
  | none => exact (hb.block b (Blk.lt h) hp).trans h
  | some l =>
    obtain ⟨A, c, h1, h2, h3, h4, h5⟩ := h
    exact ⟨A, c, (hb.block b h1.lt hp).trans h1, h2, h3, flat_butD h4 (fun hl a ha => by have := h5 hl a ha; omega) hb, h5⟩
theorem blk_two {w : World} {b : Nat} {v0 v1 : Value} {t : TypeId} (h : Blk w b #[v0, v1] t) : w.cell? ⟨b, 0, none⟩ = some v0 ∧ w.cell? ⟨b, 1, none⟩ = some v1 ∧ (∀ j, w.frozen? ⟨b, j, none⟩ = false) := ⟨h.cell rfl, h.cell rfl, h.frozen⟩
theorem blk_but {w w' : World} {b p : Nat} {cs : Array Value} {t : TypeId} (h : Blk w b cs t) (hb : But p w w') (hp : b ≠ p) : Blk w' b cs t := (hb.block b h.lt hp).trans h
end Go.Proofs.YtehneliphhgegaaDoor
