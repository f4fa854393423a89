/- leb.Zig: walked once: 'Lib.zigzag'. -/
import Derived.Test.YtehneliphhgegaaDoorDLeb
set_option linter.unusedVariables false
set_option linter.unusedSimpArgs false
set_option maxRecDepth 100000
namespace Go.Proofs.YtehneliphhgegaaDoor
open Go.RowKit Go.Apo

theorem xor_comm64 (a b : Int) : bits .xor .u64 a b = bits .xor .u64 b a := by
  show IntKind.u64.wrap ((BitVec.ofInt 64 a ^^^ BitVec.ofInt 64 b).toNat : Int) = IntKind.u64.wrap ((BitVec.ofInt 64 b ^^^ BitVec.ofInt 64 a).toNat : Int)
  rw [BitVec.xor_comm]
theorem xor_zero64 (a : Nat) (h : a < 18446744073709551616) : bits .xor .u64 (a : Int) 0 = (a : Int) := by
  show IntKind.u64.wrap ((BitVec.ofInt 64 (a : Int) ^^^ BitVec.ofInt 64 0).toNat : Int) = _
  have h1 : BitVec.ofInt 64 0 = 0#64 := by decide
  have h2 : (BitVec.ofInt 64 (a : Int)).toNat = a := by rw [BitVec.ofInt_natCast, BitVec.toNat_ofNat]; exact Nat.mod_eq_of_lt (by omega)
  rw [h1, BitVec.xor_zero, h2, IntKind.wrap_u64]
  omega
theorem zig_calls (n : Int) (h1 : -9223372036854775808 ≤ n) (h2 : n ≤ 9223372036854775807) (w : World) : Calls Tryd.prog 68 #[.int .i64 n] w fun e w' => e = .returned (.int .u64 (Lib.zigzag n)) ∧ w = w' := by
  by_cases h : 0 ≤ n
  · have e := Lib.zigzag_nonneg h
    obtain ⟨m, rfl⟩ := Int.eq_ofNat_of_zero_le h
    have hx := xor_zero64 (m * 2) (by omega)
    rw [e]
    have e3 : ((m * 2 : Nat) : Int) = (m : Int) * 2 := by omega
    rw [e3] at hx
    have e4 : (m : Int) / 9223372036854775808 = 0 := by omega
    clear e
    go_enter Tryd.func68, Tryd.ntmps68
    go_wp2
    go_ret
    exact ⟨by first | rfl | (simp [hx, e4]) | go_num, rfl⟩
  · have hz := Lib.zigzag_neg h1 (by omega)
    rw [xor_comm64] at hz
    have e4 : n / 9223372036854775808 = -1 := by omega
    have HZ := Lib.hid hz; clear hz
    go_enter Tryd.func68, Tryd.ntmps68
    go_wp2
    go_ret
    refine ⟨?_, rfl⟩
    have hm : IntKind.u64.wrap (-1) = IntKind.u64.max := by decide +kernel
    show Ending.returned (.int .u64 (bits .xor .u64 (IntKind.u64.wrap (IntKind.u64.wrap n * 2)) (IntKind.u64.wrap (-1)))) = _
    rw [hm, HZ.out]
end Go.Proofs.YtehneliphhgegaaDoor
