/- The laws NameFinds and NameSteps, walked. -/
import Derived.Test.YtehneliphhgegaaGreatDoorDRead
import Derived.Test.YtehneliphhgegaaGreatDoorZGRefGraphAll
import Derived.Test.YtehneliphhgegaaGreatDoorZGRest
set_option linter.unusedVariables false
set_option linter.unusedSimpArgs false
set_option maxRecDepth 100000
namespace Go.Proofs.YtehneliphhgegaaGreatDoor
open Go.RowKit Go.Apo

/-- a slice of refs that is read, with its room -/
structure RefRowC (w : World) (A : Option Addr) (n c : Nat) (l : List RefD) : Prop where
  row : RefRow w A n l
  cap : n ≤ c
theorem refRowC_of {H : Type} {enc : TypeId × Value → H} {w : World} {A : Option Addr} {n c : Nat} (h : G enc Tryz.prog w 23 [.slice A n c]) (hs : n * 24 ≤ 140737488351232) : ∃ l, RefRowC w A n c l := by
  obtain ⟨l, hl⟩ := refRow_of h hs
  obtain ⟨a, len, cap, e, h1, _, _⟩ := h.slice Tryz.underlying23 (by rw [cells_ref]; omega)
  simp only [Value.slice.injEq] at e
  obtain ⟨rfl, rfl, rfl⟩ := e
  exact ⟨l, hl, h1⟩
theorem fewB_len {l : List RefD} (h : fewB l = true) : l.length ≤ 45 := by
  unfold fewB at h
  rw [Bool.and_eq_true] at h
  simpa using h.2
theorem fewB_size {l : List RefD} (h : fewB l = true) : ∀ r ∈ l, r.name.size ≤ 40 := by
  unfold fewB at h
  rw [Bool.and_eq_true, List.all_eq_true] at h
  exact fun r hr => by simpa using h.1 r hr

end Go.Proofs.YtehneliphhgegaaGreatDoor
