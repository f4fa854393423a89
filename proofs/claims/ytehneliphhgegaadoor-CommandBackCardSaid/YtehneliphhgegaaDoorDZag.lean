/- Zag: the program's and the document's, walked once: 'Lib.unzigzag'. -/
import Derived.Test.YtehneliphhgegaaDoorDLeb
set_option linter.unusedVariables false
set_option linter.unusedSimpArgs false
set_option maxRecDepth 100000
namespace Go.Proofs.YtehneliphhgegaaDoor
open Go.RowKit Go.Apo

theorem xor_comm_i64 (a b : Int) : bits .xor .i64 a b = bits .xor .i64 b a := by
  show IntKind.i64.wrap ((BitVec.ofInt 64 a ^^^ BitVec.ofInt 64 b).toNat : Int) = IntKind.i64.wrap ((BitVec.ofInt 64 b ^^^ BitVec.ofInt 64 a).toNat : Int)
  rw [BitVec.xor_comm]
theorem xor_zero_i64 (a : Nat) (h : a < 9223372036854775808) : bits .xor .i64 (a : Int) 0 = (a : Int) := by
  show IntKind.i64.wrap ((BitVec.ofInt 64 (a : Int) ^^^ BitVec.ofInt 64 0).toNat : Int) = _
  have h1 : BitVec.ofInt 64 0 = 0#64 := by decide
  have h2 : (BitVec.ofInt 64 (a : Int)).toNat = a := by rw [BitVec.ofInt_natCast, BitVec.toNat_ofNat]; exact Nat.mod_eq_of_lt (by omega)
  rw [h1, BitVec.xor_zero, h2, IntKind.wrap_i64]
  omega
theorem rzag_calls (u : Nat) (hu : u < 18446744073709551616) (w : World) : Calls Tryd.prog 64 #[.int .u64 (u : Nat)] w fun e w' => e = .returned (.int .i64 (Lib.unzigzag u)) ∧ w = w' := by
  by_cases h : u % 2 = 0
  · have e : Lib.unzigzag u = ((u / 2 : Nat) : Int) := by unfold Lib.unzigzag; rw [if_pos h]
    rw [e]
    have g1 : ((u : Int) % 2 == 0) = true := by simp; omega
    clear e
    go_enter Tryd.func64, Tryd.ntmps64
    go_wp2
    go_ret
    exact ⟨by go_num, rfl⟩
  · have e : Lib.unzigzag u = -((u / 2 : Nat) : Int) - 1 := by unfold Lib.unzigzag; rw [if_neg h]
    rw [e]
    have g1 : ((u : Int) % 2 == 0) = false := by simp; omega
    clear e
    go_enter Tryd.func64, Tryd.ntmps64
    go_wp2
    go_ret
    exact ⟨by go_num, rfl⟩
theorem zag_calls (u : Nat) (hu : u < 18446744073709551616) (w : World) : Calls Tryd.prog 60 #[.int .u64 (u : Nat)] w fun e w' => e = .returned (.int .i64 (Lib.unzigzag u)) ∧ w = w' := by
  have ha := Lib.u64_and1 (u : Int) (by omega) (by omega)
  by_cases h : u % 2 = 0
  · have e : Lib.unzigzag u = ((u / 2 : Nat) : Int) := by unfold Lib.unzigzag; rw [if_pos h]
    rw [e]
    have hm : (u : Int) % 2 = 0 := by omega
    rw [hm] at ha
    have hx := xor_zero_i64 (u / 2) (by omega)
    have e2 : ((u / 2 : Nat) : Int) = (u : Int) / 2 := by omega
    rw [e2] at hx ⊢
    have HX := Lib.hid hx; clear hx
    clear e e2 hm
    go_enter Tryd.func60, Tryd.ntmps60
    go_wp2
    go_ret
    exact ⟨congrArg (fun x => Ending.returned (Value.int .i64 x)) HX.out, rfl⟩
  · have e : Lib.unzigzag u = -((u / 2 : Nat) : Int) - 1 := by unfold Lib.unzigzag; rw [if_neg h]
    rw [e]
    have hm : (u : Int) % 2 = 1 := by omega
    rw [hm] at ha
    have hx := Lib.i64_not (u / 2) (by omega)
    rw [xor_comm_i64] at hx
    have e2 : ((u / 2 : Nat) : Int) = (u : Int) / 2 := by omega
    rw [e2] at hx ⊢
    have HX := Lib.hid hx; clear hx
    clear e e2 hm
    go_enter Tryd.func60, Tryd.ntmps60
    go_wp2
    go_ret
    exact ⟨congrArg (fun x => Ending.returned (Value.int .i64 x)) HX.out, rfl⟩
end Go.Proofs.YtehneliphhgegaaDoor
