/- leb.Of: walked once; strict decoding ('decV'). -/
import Derived.Test.YtehneliphhgegaaDoorDReader
import Derived.Lib.VarintBits
set_option linter.unusedVariables false
set_option linter.unusedSimpArgs false
set_option maxRecDepth 100000
namespace Go.Proofs.YtehneliphhgegaaDoor
open Go.RowKit Go.Apo

def lebR (l : List UInt8) : Value := match decV l with
  | none => .tuple #[.int .u64 0, .int .i64 0, .int .i64 20]
  | some (n, k) => .tuple #[.int .u64 n, .int .i64 k, .int .i64 0]
theorem lebR_none {l : List UInt8} (h : decV l = none) : lebR l = .tuple #[.int .u64 0, .int .i64 0, .int .i64 20] := by unfold lebR; rw [h]
theorem lebR_some {l : List UInt8} {n k : Nat} (h : decV l = some (n, k)) : lebR l = .tuple #[.int .u64 n, .int .i64 k, .int .i64 0] := by unfold lebR; rw [h]
theorem drop_at {l : List UInt8} {j : Nat} (h : j < l.length) : l.drop j = l[j] :: l.drop (j + 1) := List.drop_eq_getElem_cons h
theorem byteCell_at (l : List UInt8) (j : Nat) (h : j < l.length) : (Lib.byteCells l)[j]? = some (.int .u8 (l[j].toNat : Int)) := by simp [Lib.byteCells, h]
theorem tup3 {a b : Int} {x y : Value} (h : a = b) (hx : x = y) : Ending.returned (.tuple #[.int .u64 a, x, .int .i64 0]) = .returned (.tuple #[.int .u64 b, y, .int .i64 0]) := by rw [h, hx]
set_option maxHeartbeats 8000000 in
theorem lebof_calls (A : Option Addr) (n c : Nat) (l : List UInt8) (hn : l.length = n) (hl : n ≤ 1000000) (w : World) (hf : Flat w A (Lib.byteCells l)) :
    Calls Tryd.prog 96 #[.slice A n c] w fun e w' => e = .returned (lebR l) ∧ Below w.heap.size w w' := by
  have HN := Lib.hid hn; clear hn
  have HF := Lib.hid hf; clear hf
  go_enter Tryd.func96, Tryd.ntmps96
  go_wp2
  go_loop [10, 2, 5, 6, 7] (fun i v _ _ _ => ∃ (j acc : Nat), j ≤ n ∧ j ≤ 10 ∧ acc < 128 ^ j ∧ i = .int .i64 j ∧ v = .int .u64 acc ∧ Hid (decV l = decF j acc (l.drop j))) (fun i _ _ _ _ => n - (intOf i).toNat)
  case atStart => exact ⟨0, 0, Nat.zero_le _, by omega, by simp, rfl, rfl, rfl⟩
  case round =>
    obtain ⟨j, acc, hj, hj10, hacc, rfl, rfl, hD⟩ := hrel
    by_cases hlt : j < n
    · have hlt' : j < l.length := by rw [HN.out]; exact hlt
      have hx := byteCell_at l j hlt'
      obtain ⟨q, off, rfl, hq⟩ := HF.out (by rw [Lib.byteCells_length]; omega)
      have hb := hq _ _ hx
      have hD1 := hD.out
      rw [drop_at hlt'] at hD1
      unfold decF at hD1
      have hbt := l[j].toNat_lt
      obtain ⟨b, hbe⟩ : ∃ b, b = l[j].toNat := ⟨_, rfl⟩
      rw [← hbe] at hb hbt hD1
      clear hbe hx hq hD
      by_cases h10 : j = 10
      · subst h10
        rw [if_pos (by omega)] at hD1
        have HR := Lib.hid (lebR_none hD1)
        clear hD1 hacc
        go_wp2
        go_ret3
        exact ⟨by rw [HR.out]; rfl, Below.refl _ _⟩
      · have g1 : decide ((10 : Int) ≤ (j : Int)) = false := by simp; omega
        have HB := Lib.hid hb
        clear hb
        rcases (show j = 0 ∨ j = 1 ∨ j = 2 ∨ j = 3 ∨ j = 4 ∨ j = 5 ∨ j = 6 ∨ j = 7 ∨ j = 8 ∨ j = 9 by omega) with rfl | rfl | rfl | rfl | rfl | rfl | rfl | rfl | rfl | rfl
        · have hb := HB.out
          rw [Nat.add_zero] at hb
          rw [show ((0 : Nat) : Int) = 0 from rfl] at *
          have hacc' : acc < 1 := hacc
          clear hacc
          rw [if_neg (by omega)] at hD1
          obtain rfl : acc = 0 := by omega
          have hor : bits .or .u64 0 ((b : Int) % 128) = ((b % 128 : Nat) : Int) := by
            rw [u64_orv0 _ _ (by omega) (by omega) (by omega) (by omega) (by omega)]
            omega
          have hor2 : bits .or .u64 ((0 : Nat) : Int) ((b : Int) % 128) = ((b % 128 : Nat) : Int) := hor
          by_cases h128 : b < 128
          · rw [if_pos h128] at hD1
            have g3 : decide ((b : Int) < 128) = true := by simp; omega
            rw [if_neg (by omega)] at hD1
            have HR := Lib.hid (lebR_some hD1)
            clear hD1
            go_wp2
            all_goals (
              go_ret3
              refine ⟨?_, Below.refl _ _⟩
              rw [HR.out]
              exact tup3 (by simp; try omega) rfl)
          · rw [if_neg h128] at hD1
            have g3 : decide ((b : Int) < 128) = false := by simp; omega
            have HD := Lib.hid hD1
            clear hD1
            go_wp2
            go_round
            case rel => exact ⟨1, 0 + b % 128 * 128 ^ 0, by omega, by omega, (by simp; omega), by go_num, (by simp), HD.out⟩
            case measure => simp [intOf]; omega
        · have hb := HB.out
          rw [show ((1 : Nat) : Int) = 1 from rfl] at *
          have hacc' : acc < 128 := hacc
          clear hacc
          rw [if_neg (by omega)] at hD1
          have hor : bits .or .u64 (acc : Int) ((b : Int) % 128 * 128) = ((acc + b % 128 * 128 : Nat) : Int) := by
            rw [u64_orv7 _ _ (by omega) (by omega) (by omega) (by omega) (by omega)]
            omega
          by_cases h128 : b < 128
          · rw [if_pos h128] at hD1
            have g3 : decide ((b : Int) < 128) = true := by simp; omega
            by_cases hz : b = 0
            · subst hz
              rw [if_pos (by omega)] at hD1
              have HR := Lib.hid (lebR_none hD1)
              clear hD1
              go_wp2
              go_ret3
              exact ⟨by rw [HR.out]; rfl, Below.refl _ _⟩
            · rw [if_neg (by omega)] at hD1
              have g4 : ((b : Int) == 0) = false := by simp; omega
              have HR := Lib.hid (lebR_some hD1)
              clear hD1
              go_wp2
              go_ret3
              refine ⟨?_, Below.refl _ _⟩
              rw [HR.out]
              exact tup3 (by rw [show (128 : Nat) ^ 1 = 128 from rfl]; omega) rfl
          · rw [if_neg h128] at hD1
            have g3 : decide ((b : Int) < 128) = false := by simp; omega
            have HD := Lib.hid hD1
            clear hD1
            go_wp2
            go_round
            case rel => exact ⟨2, acc + b % 128 * 128 ^ 1, by omega, by omega, (by rw [show (128 : Nat) ^ 1 = 128 from rfl, show (128 : Nat) ^ 2 = 16384 from rfl]; omega), by go_num, rfl, HD.out⟩
            case measure => simp [intOf]; omega
        · have hb := HB.out
          rw [show ((2 : Nat) : Int) = 2 from rfl] at *
          have hacc' : acc < 16384 := hacc
          clear hacc
          rw [if_neg (by omega)] at hD1
          have hor : bits .or .u64 (acc : Int) ((b : Int) % 128 * 16384) = ((acc + b % 128 * 16384 : Nat) : Int) := by
            rw [u64_orv14 _ _ (by omega) (by omega) (by omega) (by omega) (by omega)]
            omega
          by_cases h128 : b < 128
          · rw [if_pos h128] at hD1
            have g3 : decide ((b : Int) < 128) = true := by simp; omega
            by_cases hz : b = 0
            · subst hz
              rw [if_pos (by omega)] at hD1
              have HR := Lib.hid (lebR_none hD1)
              clear hD1
              go_wp2
              go_ret3
              exact ⟨by rw [HR.out]; rfl, Below.refl _ _⟩
            · rw [if_neg (by omega)] at hD1
              have g4 : ((b : Int) == 0) = false := by simp; omega
              have HR := Lib.hid (lebR_some hD1)
              clear hD1
              go_wp2
              go_ret3
              refine ⟨?_, Below.refl _ _⟩
              rw [HR.out]
              exact tup3 (by rw [show (128 : Nat) ^ 2 = 16384 from rfl]; omega) rfl
          · rw [if_neg h128] at hD1
            have g3 : decide ((b : Int) < 128) = false := by simp; omega
            have HD := Lib.hid hD1
            clear hD1
            go_wp2
            go_round
            case rel => exact ⟨3, acc + b % 128 * 128 ^ 2, by omega, by omega, (by rw [show (128 : Nat) ^ 2 = 16384 from rfl, show (128 : Nat) ^ 3 = 2097152 from rfl]; omega), by go_num, rfl, HD.out⟩
            case measure => simp [intOf]; omega
        · have hb := HB.out
          rw [show ((3 : Nat) : Int) = 3 from rfl] at *
          have hacc' : acc < 2097152 := hacc
          clear hacc
          rw [if_neg (by omega)] at hD1
          have hor : bits .or .u64 (acc : Int) ((b : Int) % 128 * 2097152) = ((acc + b % 128 * 2097152 : Nat) : Int) := by
            rw [u64_orv21 _ _ (by omega) (by omega) (by omega) (by omega) (by omega)]
            omega
          by_cases h128 : b < 128
          · rw [if_pos h128] at hD1
            have g3 : decide ((b : Int) < 128) = true := by simp; omega
            by_cases hz : b = 0
            · subst hz
              rw [if_pos (by omega)] at hD1
              have HR := Lib.hid (lebR_none hD1)
              clear hD1
              go_wp2
              go_ret3
              exact ⟨by rw [HR.out]; rfl, Below.refl _ _⟩
            · rw [if_neg (by omega)] at hD1
              have g4 : ((b : Int) == 0) = false := by simp; omega
              have HR := Lib.hid (lebR_some hD1)
              clear hD1
              go_wp2
              go_ret3
              refine ⟨?_, Below.refl _ _⟩
              rw [HR.out]
              exact tup3 (by rw [show (128 : Nat) ^ 3 = 2097152 from rfl]; omega) rfl
          · rw [if_neg h128] at hD1
            have g3 : decide ((b : Int) < 128) = false := by simp; omega
            have HD := Lib.hid hD1
            clear hD1
            go_wp2
            go_round
            case rel => exact ⟨4, acc + b % 128 * 128 ^ 3, by omega, by omega, (by rw [show (128 : Nat) ^ 3 = 2097152 from rfl, show (128 : Nat) ^ 4 = 268435456 from rfl]; omega), by go_num, rfl, HD.out⟩
            case measure => simp [intOf]; omega
        · have hb := HB.out
          rw [show ((4 : Nat) : Int) = 4 from rfl] at *
          have hacc' : acc < 268435456 := hacc
          clear hacc
          rw [if_neg (by omega)] at hD1
          have hor : bits .or .u64 (acc : Int) ((b : Int) % 128 * 268435456) = ((acc + b % 128 * 268435456 : Nat) : Int) := by
            rw [u64_orv28 _ _ (by omega) (by omega) (by omega) (by omega) (by omega)]
            omega
          by_cases h128 : b < 128
          · rw [if_pos h128] at hD1
            have g3 : decide ((b : Int) < 128) = true := by simp; omega
            by_cases hz : b = 0
            · subst hz
              rw [if_pos (by omega)] at hD1
              have HR := Lib.hid (lebR_none hD1)
              clear hD1
              go_wp2
              go_ret3
              exact ⟨by rw [HR.out]; rfl, Below.refl _ _⟩
            · rw [if_neg (by omega)] at hD1
              have g4 : ((b : Int) == 0) = false := by simp; omega
              have HR := Lib.hid (lebR_some hD1)
              clear hD1
              go_wp2
              go_ret3
              refine ⟨?_, Below.refl _ _⟩
              rw [HR.out]
              exact tup3 (by rw [show (128 : Nat) ^ 4 = 268435456 from rfl]; omega) rfl
          · rw [if_neg h128] at hD1
            have g3 : decide ((b : Int) < 128) = false := by simp; omega
            have HD := Lib.hid hD1
            clear hD1
            go_wp2
            go_round
            case rel => exact ⟨5, acc + b % 128 * 128 ^ 4, by omega, by omega, (by rw [show (128 : Nat) ^ 4 = 268435456 from rfl, show (128 : Nat) ^ 5 = 34359738368 from rfl]; omega), by go_num, rfl, HD.out⟩
            case measure => simp [intOf]; omega
        · have hb := HB.out
          rw [show ((5 : Nat) : Int) = 5 from rfl] at *
          have hacc' : acc < 34359738368 := hacc
          clear hacc
          rw [if_neg (by omega)] at hD1
          have hor : bits .or .u64 (acc : Int) ((b : Int) % 128 * 34359738368) = ((acc + b % 128 * 34359738368 : Nat) : Int) := by
            rw [u64_orv35 _ _ (by omega) (by omega) (by omega) (by omega) (by omega)]
            omega
          by_cases h128 : b < 128
          · rw [if_pos h128] at hD1
            have g3 : decide ((b : Int) < 128) = true := by simp; omega
            by_cases hz : b = 0
            · subst hz
              rw [if_pos (by omega)] at hD1
              have HR := Lib.hid (lebR_none hD1)
              clear hD1
              go_wp2
              go_ret3
              exact ⟨by rw [HR.out]; rfl, Below.refl _ _⟩
            · rw [if_neg (by omega)] at hD1
              have g4 : ((b : Int) == 0) = false := by simp; omega
              have HR := Lib.hid (lebR_some hD1)
              clear hD1
              go_wp2
              go_ret3
              refine ⟨?_, Below.refl _ _⟩
              rw [HR.out]
              exact tup3 (by rw [show (128 : Nat) ^ 5 = 34359738368 from rfl]; omega) rfl
          · rw [if_neg h128] at hD1
            have g3 : decide ((b : Int) < 128) = false := by simp; omega
            have HD := Lib.hid hD1
            clear hD1
            go_wp2
            go_round
            case rel => exact ⟨6, acc + b % 128 * 128 ^ 5, by omega, by omega, (by rw [show (128 : Nat) ^ 5 = 34359738368 from rfl, show (128 : Nat) ^ 6 = 4398046511104 from rfl]; omega), by go_num, rfl, HD.out⟩
            case measure => simp [intOf]; omega
        · have hb := HB.out
          rw [show ((6 : Nat) : Int) = 6 from rfl] at *
          have hacc' : acc < 4398046511104 := hacc
          clear hacc
          rw [if_neg (by omega)] at hD1
          have hor : bits .or .u64 (acc : Int) ((b : Int) % 128 * 4398046511104) = ((acc + b % 128 * 4398046511104 : Nat) : Int) := by
            rw [u64_orv42 _ _ (by omega) (by omega) (by omega) (by omega) (by omega)]
            omega
          by_cases h128 : b < 128
          · rw [if_pos h128] at hD1
            have g3 : decide ((b : Int) < 128) = true := by simp; omega
            by_cases hz : b = 0
            · subst hz
              rw [if_pos (by omega)] at hD1
              have HR := Lib.hid (lebR_none hD1)
              clear hD1
              go_wp2
              go_ret3
              exact ⟨by rw [HR.out]; rfl, Below.refl _ _⟩
            · rw [if_neg (by omega)] at hD1
              have g4 : ((b : Int) == 0) = false := by simp; omega
              have HR := Lib.hid (lebR_some hD1)
              clear hD1
              go_wp2
              go_ret3
              refine ⟨?_, Below.refl _ _⟩
              rw [HR.out]
              exact tup3 (by rw [show (128 : Nat) ^ 6 = 4398046511104 from rfl]; omega) rfl
          · rw [if_neg h128] at hD1
            have g3 : decide ((b : Int) < 128) = false := by simp; omega
            have HD := Lib.hid hD1
            clear hD1
            go_wp2
            go_round
            case rel => exact ⟨7, acc + b % 128 * 128 ^ 6, by omega, by omega, (by rw [show (128 : Nat) ^ 6 = 4398046511104 from rfl, show (128 : Nat) ^ 7 = 562949953421312 from rfl]; omega), by go_num, rfl, HD.out⟩
            case measure => simp [intOf]; omega
        · have hb := HB.out
          rw [show ((7 : Nat) : Int) = 7 from rfl] at *
          have hacc' : acc < 562949953421312 := hacc
          clear hacc
          rw [if_neg (by omega)] at hD1
          have hor : bits .or .u64 (acc : Int) ((b : Int) % 128 * 562949953421312) = ((acc + b % 128 * 562949953421312 : Nat) : Int) := by
            rw [u64_orv49 _ _ (by omega) (by omega) (by omega) (by omega) (by omega)]
            omega
          by_cases h128 : b < 128
          · rw [if_pos h128] at hD1
            have g3 : decide ((b : Int) < 128) = true := by simp; omega
            by_cases hz : b = 0
            · subst hz
              rw [if_pos (by omega)] at hD1
              have HR := Lib.hid (lebR_none hD1)
              clear hD1
              go_wp2
              go_ret3
              exact ⟨by rw [HR.out]; rfl, Below.refl _ _⟩
            · rw [if_neg (by omega)] at hD1
              have g4 : ((b : Int) == 0) = false := by simp; omega
              have HR := Lib.hid (lebR_some hD1)
              clear hD1
              go_wp2
              go_ret3
              refine ⟨?_, Below.refl _ _⟩
              rw [HR.out]
              exact tup3 (by rw [show (128 : Nat) ^ 7 = 562949953421312 from rfl]; omega) rfl
          · rw [if_neg h128] at hD1
            have g3 : decide ((b : Int) < 128) = false := by simp; omega
            have HD := Lib.hid hD1
            clear hD1
            go_wp2
            go_round
            case rel => exact ⟨8, acc + b % 128 * 128 ^ 7, by omega, by omega, (by rw [show (128 : Nat) ^ 7 = 562949953421312 from rfl, show (128 : Nat) ^ 8 = 72057594037927936 from rfl]; omega), by go_num, rfl, HD.out⟩
            case measure => simp [intOf]; omega
        · have hb := HB.out
          rw [show ((8 : Nat) : Int) = 8 from rfl] at *
          have hacc' : acc < 72057594037927936 := hacc
          clear hacc
          rw [if_neg (by omega)] at hD1
          have hor : bits .or .u64 (acc : Int) ((b : Int) % 128 * 72057594037927936) = ((acc + b % 128 * 72057594037927936 : Nat) : Int) := by
            rw [u64_orv56 _ _ (by omega) (by omega) (by omega) (by omega) (by omega)]
            omega
          by_cases h128 : b < 128
          · rw [if_pos h128] at hD1
            have g3 : decide ((b : Int) < 128) = true := by simp; omega
            by_cases hz : b = 0
            · subst hz
              rw [if_pos (by omega)] at hD1
              have HR := Lib.hid (lebR_none hD1)
              clear hD1
              go_wp2
              go_ret3
              exact ⟨by rw [HR.out]; rfl, Below.refl _ _⟩
            · rw [if_neg (by omega)] at hD1
              have g4 : ((b : Int) == 0) = false := by simp; omega
              have HR := Lib.hid (lebR_some hD1)
              clear hD1
              go_wp2
              go_ret3
              refine ⟨?_, Below.refl _ _⟩
              rw [HR.out]
              exact tup3 (by rw [show (128 : Nat) ^ 8 = 72057594037927936 from rfl]; omega) rfl
          · rw [if_neg h128] at hD1
            have g3 : decide ((b : Int) < 128) = false := by simp; omega
            have HD := Lib.hid hD1
            clear hD1
            go_wp2
            go_round
            case rel => exact ⟨9, acc + b % 128 * 128 ^ 8, by omega, by omega, (by rw [show (128 : Nat) ^ 8 = 72057594037927936 from rfl, show (128 : Nat) ^ 9 = 9223372036854775808 from rfl]; omega), by go_num, rfl, HD.out⟩
            case measure => simp [intOf]; omega
        · have hb := HB.out
          rw [show ((9 : Nat) : Int) = 9 from rfl] at *
          have hacc' : acc < 9223372036854775808 := hacc
          clear hacc
          by_cases h9 : 1 < b
          · rw [if_pos (Or.inr ⟨rfl, h9⟩)] at hD1
            have HR := Lib.hid (lebR_none hD1)
            have g2 : decide ((1 : Int) < (b : Int)) = true := by simp; omega
            clear hD1 hacc'
            go_wp2
            go_ret3
            exact ⟨by rw [HR.out]; rfl, Below.refl _ _⟩
          rw [if_neg (by omega)] at hD1
          have g2 : decide ((1 : Int) < (b : Int)) = false := by simp; omega
          have hor : bits .or .u64 (acc : Int) ((b : Int) % 128 * 9223372036854775808) = ((acc + b % 128 * 9223372036854775808 : Nat) : Int) := by
            rw [u64_orv63 _ _ (by omega) (by omega) (by omega) (by omega) (by omega)]
            omega
          by_cases h128 : b < 128
          · rw [if_pos h128] at hD1
            have g3 : decide ((b : Int) < 128) = true := by simp; omega
            by_cases hz : b = 0
            · subst hz
              rw [if_pos (by omega)] at hD1
              have HR := Lib.hid (lebR_none hD1)
              clear hD1
              go_wp2
              go_ret3
              exact ⟨by rw [HR.out]; rfl, Below.refl _ _⟩
            · rw [if_neg (by omega)] at hD1
              have g4 : ((b : Int) == 0) = false := by simp; omega
              have HR := Lib.hid (lebR_some hD1)
              clear hD1
              go_wp2
              go_ret3
              refine ⟨?_, Below.refl _ _⟩
              rw [HR.out]
              exact tup3 (by rw [show (128 : Nat) ^ 9 = 9223372036854775808 from rfl]; omega) rfl
          · omega
    · have hD1 := hD.out
      rw [List.drop_of_length_le (by rw [HN.out]; omega)] at hD1
      have HR := Lib.hid (lebR_none hD1)
      clear hD1 hD hacc
      go_wp2
      go_ret3
      exact ⟨by rw [HR.out]; rfl, Below.refl _ _⟩
end Go.Proofs.YtehneliphhgegaaDoor
