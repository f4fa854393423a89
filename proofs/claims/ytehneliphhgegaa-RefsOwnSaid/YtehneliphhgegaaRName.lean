/- Whether a text may be a ref's name: the document's word, walked once (as in the other seat's DName). -/
import Derived.Test.YtehneliphhgegaaRefsAll
set_option linter.unusedVariables false
set_option linter.unusedSimpArgs false
set_option maxRecDepth 100000
namespace Go.Proofs.Ytehneliphhgegaa
open Go.RowKit Go.Apo

theorem byteAt_get (s : ByteArray) (k : Nat) (h : k < s.size) : (s[k]).toNat = byteAt s k := by
  unfold byteAt
  have h' : k < s.data.toList.length := by simpa using h
  rw [List.getD_eq_getElem?_getD, List.getElem?_eq_getElem h']
  rfl
theorem rname_calls (s : ByteArray) (hs : s.size ≤ 1000000) (w : World) :
    Calls Try.prog 42 #[.string s] w fun e w' => e = .returned (.bool (nameB s)) ∧ w = w' := by
  go_enter Try.func42, Try.ntmps42
  go_wp2
  go_loop [3, 4] (fun i _ => ∃ k : Nat, k ≤ s.size ∧ i = .int .i64 k ∧ Hid (∀ j, j < k → chOk j (byteAt s j) = true)) (fun i _ => s.size - (intOf i).toNat)
  case atStart => exact ⟨0, Nat.zero_le _, rfl, fun j hj => absurd hj (Nat.not_lt_zero _)⟩
  case round =>
    obtain ⟨k, hk, rfl, hok⟩ := hrel
    by_cases hlt : k < s.size
    · have hbt := byteAt_lt s k
      have hx := byteAt_get s k hlt
      obtain ⟨b, hbe⟩ : ∃ b, b = byteAt s k := ⟨_, rfl⟩
      rw [← hbe] at hbt hx
      have HB := Lib.hid hbe; clear hbe
      have step : chOk k b = true → Hid (∀ j, j < k + 1 → chOk j (byteAt s j) = true) := fun h j hj => by
        rcases Nat.lt_or_ge j k with h' | h'
        · exact hok j h'
        · obtain rfl : j = k := by omega
          rw [← HB.out]; exact h
      have STEP := Lib.hid step; clear step
      have stop : chOk k b = false → nameB s = false := fun h => nameB_at hlt (by rw [← HB.out]; exact h)
      have STOP := Lib.hid stop; clear stop
      go_wp2
      all_goals first
        | (go_round
           case rel => exact ⟨k + 1, by omega, by go_num, STEP.out (by rw [chOk_iff]; (try simp only [Bool.not_eq_true', Bool.not_eq_false', decide_eq_true_eq, decide_eq_false_iff_not, beq_iff_eq, beq_eq_false_iff_ne, ne_eq] at *); omega)⟩
           case measure => simp [intOf]; omega)
        | (go_ret
           exact ⟨by rw [STOP.out (by rw [chOk_no]; (try simp only [Bool.not_eq_true', Bool.not_eq_false', decide_eq_true_eq, decide_eq_false_iff_not, beq_iff_eq, beq_eq_false_iff_ne, ne_eq] at *); omega)]; rfl, rfl⟩)
    · by_cases h1 : s.size < 1
      · have hn := nameB_no (s := s) (Or.inl h1)
        have HN := Lib.hid hn; clear hn
        have g1 : decide ((1 : Int) ≤ s.size) = false := by simp; omega
        go_wp2
        go_ret
        exact ⟨by rw [HN.out]; rfl, rfl⟩
      · have g1 : decide ((1 : Int) ≤ s.size) = true := by simp; omega
        by_cases h2 : 20 < s.size
        · have hn := nameB_no (s := s) (Or.inr h2)
          have HN := Lib.hid hn; clear hn
          have g2 : decide ((s.size : Int) ≤ 20) = false := by simp; omega
          go_wp2
          go_ret
          exact ⟨by rw [HN.out]; rfl, rfl⟩
        · have yes : nameB s = true := nameB_yes (by omega) (by omega) (fun j hj => hok.out j (by omega))
          have YES := Lib.hid yes; clear yes
          have g2 : decide ((s.size : Int) ≤ 20) = true := by simp; omega
          go_wp2
          go_ret
          exact ⟨by rw [YES.out]; rfl, rfl⟩
end Go.Proofs.Ytehneliphhgegaa
