/- The numbers of a graph, told one by one in order: the iterator, and a caller that collects. -/
import Derived.Test.YtehneliphhgegaaGreatDoorZKKeysU
import Derived.Test.YtehneliphhgegaaGreatDoorBase
import Derived.Test.YtehneliphhgegaaGreatDoorDRead
import Derived.Test.YtehneliphhgegaaGreatDoorRows2
import Derived.Test.YtehneliphhgegaaGreatDoorZSeq
import Derived.Test.YtehneliphhgegaaGreatDoorZGRefGraphAll
import Derived.Test.YtehneliphhgegaaGreatDoorZGRest
import Derived.RangeFuncBox
import Derived.RangeFuncLeaves
import Derived.Shelf.Abstract
set_option linter.unusedVariables false
set_option linter.unusedSimpArgs false
set_option maxRecDepth 100000
namespace Go.Proofs.YtehneliphhgegaaGreatDoor
open Go.RowKit Go.Apo Go.Shelf
attribute [local go_sem] Oper.semAt_some

theorem idsF_calls (q : Option Addr) (w : World) :
    Calls Tryz.prog 19 #[.pointer q] w fun e w' => e = .returned (.func (.func 39) #[] #[.pointer (some ⟨w.heap.size, 0, none⟩)]) ∧ w' = w.alloc (.cells #[.pointer q] 27) := by
  go_enter Tryz.func19, Tryz.ntmps19
  go_wp2
  go_ret
  exact ⟨rfl, rfl⟩

theorem flat_span {w w' : World} {B G : Nat} {A : Option Addr} {cs : List Value} (h : Flat w A cs) (hA : ∀ b off, A = some ⟨b, off, none⟩ → B ≤ b ∧ b < G) (hk : KeepsSpan B G w w') : Flat w' A cs := fun h0 => by
  obtain ⟨b, off, e, hc⟩ := h h0
  obtain ⟨h1, h2⟩ := hA b off e
  exact ⟨b, off, e, fun j u hj => (World.cell?_of_block (w := w) (a := ⟨b, off + j, none⟩) (hk.same b h1 h2)).trans (hc j u hj)⟩
theorem own_blk {w : World} {base e size n k : Nat} {b off : Nat} {xs : List Value} (h : w.ownsRow base e size (.slice (some ⟨b, off, none⟩) n k) n xs) : base ≤ b := by
  rcases h.2 with ⟨h1, _⟩ | ⟨g, cap, cur, h1, h2, _⟩
  · cases h1
  · simp only [Value.slice.injEq, Option.some.injEq, Addr.mk.injEq] at h1
    rw [h1.1.1]; exact h2
theorem own_lt {w : World} {base e size n k : Nat} {b off : Nat} {xs : List Value} (h : w.ownsRow base e size (.slice (some ⟨b, off, none⟩) n k) n xs) : b < w.heap.size := by
  rcases h.2 with ⟨h1, _⟩ | ⟨g, cap, cur, h1, _, h2, _⟩
  · cases h1
  · simp only [Value.slice.injEq, Option.some.injEq, Addr.mk.injEq] at h1
    rw [h1.1.1]; exact (Array.getElem?_eq_some_iff.1 h2).1
theorem grown_below {w w' : World} (hb : Below w.heap.size w w') : w.grownBy w' none := ⟨hb.os, hb.tape, hb.output, hb.size, fun i hi _ => hb.block i hi⟩

end Go.Proofs.YtehneliphhgegaaGreatDoor
