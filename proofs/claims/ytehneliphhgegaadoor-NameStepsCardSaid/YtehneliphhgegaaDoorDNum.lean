/- The document's number: walked once. -/
import Derived.Test.YtehneliphhgegaaDoorDDec
set_option linter.unusedVariables false
set_option linter.unusedSimpArgs false
set_option maxRecDepth 100000
namespace Go.Proofs.YtehneliphhgegaaDoor
open Go.RowKit Go.Apo

def numStop (c n : Nat) : Bool := decide (c < 48) || decide (57 < c) || decide (1844674407370955161 < n)
def numRun : List UInt8 → Nat → Option Nat
  | [], n => some n
  | c :: r, n => if numStop c.toNat n = true then none else numRun r ((n * 10 + (c.toNat - 48)) % 18446744073709551616)
def numEnd (s : ByteArray) : Option Nat → Nat × Bool
  | none => (0, false)
  | some n => (n, decide (dec n = s))
def numV (s : ByteArray) : Nat × Bool := numEnd s (numRun s.data.toList 0)
theorem drop_byte (s : ByteArray) (k : Nat) (h : k < s.size) : ∃ c : UInt8, s.data.toList.drop k = c :: s.data.toList.drop (k + 1) ∧ c.toNat = byteAt s k := by
  have h' : k < s.data.toList.length := by simpa using h
  refine ⟨s.data.toList[k], List.drop_eq_getElem_cons h', ?_⟩
  unfold byteAt
  rw [List.getD_eq_getElem?_getD, List.getElem?_eq_getElem h']
  rfl
set_option maxHeartbeats 4000000 in
theorem number_calls (s : ByteArray) (hs : s.size ≤ 1000000) (w : World) :
    Calls Tryd.prog 42 #[.string s] w fun e w' => e = .returned (.tuple #[.int .u64 ((numV s).1 : Nat), .bool (numV s).2]) ∧ Below w.heap.size w w' := by
  obtain ⟨RES, hRES⟩ : ∃ RES, RES = numRun s.data.toList 0 := ⟨_, rfl⟩
  have hV : numV s = numEnd s RES := by rw [hRES]; rfl
  obtain ⟨V, hVV⟩ : ∃ V, V = numV s := ⟨_, rfl⟩
  rw [← hVV] at hV ⊢
  have HV := Lib.hid hV
  have HR := Lib.hid hRES
  clear hV hVV hRES
  go_enter Tryd.func42, Tryd.ntmps42
  go_wp2
  go_loop [5, 4] (fun i v => ∃ (k n : Nat), k ≤ s.size ∧ n < 18446744073709551616 ∧ i = .int .i64 k ∧ v = .int .u64 n ∧ Hid (RES = numRun (s.data.toList.drop k) n)) (fun i _ => s.size - (intOf i).toNat)
  case atStart => exact ⟨0, 0, Nat.zero_le _, by omega, rfl, rfl, HR.out⟩
  case round =>
    obtain ⟨k, n, hk, hn, rfl, rfl, hR⟩ := hrel
    by_cases hlt : k < s.size
    · have hbt := byteAt_lt s k
      have hx := byteAt_get s k hlt
      obtain ⟨c, hc1, hc2⟩ := drop_byte s k hlt
      have hr := hR.out
      rw [hc1] at hr
      unfold numRun at hr
      rw [hc2] at hr
      obtain ⟨b, hbe⟩ : ∃ b, b = byteAt s k := ⟨_, rfl⟩
      rw [← hbe] at hbt hx hr
      clear hbe hc1 hc2 hR
      by_cases h1 : b < 48
      · rw [if_pos (by simp [numStop, h1])] at hr
        have HRR := Lib.hid hr
        have g1 : decide ((b : Int) < 48) = true := by simp; omega
        clear hr
        go_wp2
        go_ret2
        have := HV.out
        rw [HRR.out] at this
        exact ⟨by rw [this]; rfl, Below.refl _ _⟩
      · have g1 : decide ((b : Int) < 48) = false := by simp; omega
        by_cases h2 : 57 < b
        · rw [if_pos (by simp [numStop, h2])] at hr
          have HRR := Lib.hid hr
          have g2 : decide ((57 : Int) < (b : Int)) = true := by simp; omega
          clear hr
          go_wp2
          go_ret2
          have := HV.out
          rw [HRR.out] at this
          exact ⟨by rw [this]; rfl, Below.refl _ _⟩
        · have g2 : decide ((57 : Int) < (b : Int)) = false := by simp; omega
          by_cases h3 : 1844674407370955161 < n
          · rw [if_pos (by simp [numStop, h3])] at hr
            have HRR := Lib.hid hr
            have g3 : decide ((1844674407370955161 : Int) < (n : Int)) = true := by simp; omega
            clear hr
            go_wp2
            go_ret2
            have := HV.out
            rw [HRR.out] at this
            exact ⟨by rw [this]; rfl, Below.refl _ _⟩
          · rw [if_neg (by simp [numStop, h1, h2, h3])] at hr
            have HRR := Lib.hid hr
            have g3 : decide ((1844674407370955161 : Int) < (n : Int)) = false := by simp; omega
            clear hr
            go_wp2
            go_round
            case rel =>
              refine ⟨k + 1, (n * 10 + (b - 48)) % 18446744073709551616, by omega, Nat.mod_lt _ (by omega), by go_num, ?_, HRR.out⟩
              rw [IntKind.wrap_u64]
              congr 1
              omega
            case measure => simp [intOf]; omega
    · have hr := hR.out
      rw [List.drop_of_length_le (by have : s.data.toList.length = s.size := rfl; omega)] at hr
      have hv := HV.out
      rw [hr] at hv
      have HVN : Hid (V = (n, decide (dec n = s))) := hv
      have HD := Lib.hid (decimal_calls n hn)
      have HTB := Lib.hid (text_beq (dec n) s)
      clear hR hr hv
      go_wp2_with (go_at_call 35; refine (HD.out _).mono ?_; rintro e w1 ⟨rfl, hb1⟩)
      go_ret2
      refine ⟨?_, hb1⟩
      rw [HVN.out, ← HTB.out]
      rfl
end Go.Proofs.YtehneliphhgegaaDoor
