/- Whether a text may be a ref's name: the program's words and the document's, each walked once. -/
import Derived.Test.YtehneliphhgegaaGreatDoorBase
set_option linter.unusedVariables false
set_option linter.unusedSimpArgs false
set_option maxRecDepth 100000
namespace Go.Proofs.YtehneliphhgegaaGreatDoor
open Go.RowKit Go.Apo

/-- whether a byte may stand at a place of a name -/
def chOk (k c : Nat) : Bool := (decide (97 ≤ c) && decide (c ≤ 122)) || (decide (0 < k) && ((decide (48 ≤ c) && decide (c ≤ 57)) || c == 45))
theorem chOk_iff (k c : Nat) : chOk k c = true ↔ (97 ≤ c ∧ c ≤ 122) ∨ (0 < k ∧ ((48 ≤ c ∧ c ≤ 57) ∨ c = 45)) := by simp [chOk]
theorem chOk_no (k c : Nat) : chOk k c = false ↔ ¬ ((97 ≤ c ∧ c ≤ 122) ∨ (0 < k ∧ ((48 ≤ c ∧ c ≤ 57) ∨ c = 45))) := by rw [← chOk_iff, Bool.not_eq_true]
/-- whether a text may be a ref's name -/
def nameB (s : ByteArray) : Bool := decide (1 ≤ s.size) && decide (s.size ≤ 20) && (List.range s.size).all fun k => chOk k (byteAt s k)
theorem nameB_no {s : ByteArray} (h : s.size < 1 ∨ 20 < s.size) : nameB s = false := by
  unfold nameB
  rcases h with h | h <;> simp [h] <;> omega
theorem nameB_at {s : ByteArray} {k : Nat} (hk : k < s.size) (h : chOk k (byteAt s k) = false) : nameB s = false := by
  unfold nameB
  have : ((List.range s.size).all fun k => chOk k (byteAt s k)) = false := by
    rw [List.all_eq_false]
    exact ⟨k, List.mem_range.2 hk, by simp [h]⟩
  simp [this]
theorem nameB_yes {s : ByteArray} (h1 : 1 ≤ s.size) (h2 : s.size ≤ 20) (h : ∀ k, k < s.size → chOk k (byteAt s k) = true) : nameB s = true := by
  unfold nameB
  simp only [h1, h2, decide_true, Bool.true_and, List.all_eq_true, List.mem_range]
  exact h

theorem name_calls (s : ByteArray) (w : World) :
    Calls Tryz.prog 27 #[.string s] w fun e w' => e = .returned (.bool (nameB s)) ∧ Below w.heap.size w w' := by
  by_cases h1 : s.size < 1
  · have hn := nameB_no (s := s) (Or.inl h1)
    have HN := Lib.hid hn; clear hn
    have g1 : decide ((s.size : Int) < 1) = true := by simp; omega
    go_enter Tryz.func27, Tryz.ntmps27
    go_wp2
    go_ret
    exact ⟨by rw [HN.out]; rfl, Below.refl _ _⟩
  · by_cases h2 : 20 < s.size
    · have hn := nameB_no (s := s) (Or.inr h2)
      have HN := Lib.hid hn; clear hn
      have g1 : decide ((s.size : Int) < 1) = false := by simp; omega
      have g2 : decide ((20 : Int) < s.size) = true := by simp; omega
      go_enter Tryz.func27, Tryz.ntmps27
      go_wp2
      go_ret
      exact ⟨by rw [HN.out]; rfl, Below.refl _ _⟩
    · obtain ⟨w1, c, hrun, hb, hz, hcell⟩ := bytes_row (P := Tryz.prog) w 9 76 5 s Tryz.underlying9 Tryz.underlying76 Tryz.underlying5
      have HZ := Lib.hid hz; clear hz
      have HC := Lib.hid hcell; clear hcell
      have g1 : decide ((s.size : Int) < 1) = false := by simp; omega
      have g2 : decide ((20 : Int) < s.size) = false := by simp; omega
      go_enter Tryz.func27, Tryz.ntmps27
      go_wp2
      go_loop [18, 3, 4, 5, 6] (fun i _ _ _ _ => ∃ k : Nat, k ≤ s.size ∧ i = .int .i64 k ∧ Hid (∀ j, j < k → chOk j (byteAt s j) = true)) (fun i _ _ _ _ => s.size - (intOf i).toNat)
      case atStart => exact ⟨0, Nat.zero_le _, rfl, fun j hj => absurd hj (Nat.not_lt_zero _)⟩
      case round =>
        obtain ⟨k, hk, rfl, hok⟩ := hrel
        by_cases hlt : k < s.size
        · have hcell := HC.out k hlt
          have hbt := byteAt_lt s k
          obtain ⟨b, hbe⟩ : ∃ b, b = byteAt s k := ⟨_, rfl⟩
          rw [← hbe] at hcell hbt
          have HB := Lib.hid hbe; clear hbe
          have step : chOk k b = true → Hid (∀ j, j < k + 1 → chOk j (byteAt s j) = true) := fun h j hj => by
            rcases Nat.lt_or_ge j k with h' | h'
            · exact hok j h'
            · obtain rfl : j = k := by omega
              rw [← HB.out]; exact h
          have STEP := Lib.hid step; clear step
          have stop : chOk k b = false → nameB s = false := fun h => nameB_at hlt (by rw [← HB.out]; exact h)
          have STOP := Lib.hid stop; clear stop
          go_wp2
          all_goals first
            | (go_round
               case rel => exact ⟨k + 1, by omega, by go_num, STEP.out (by rw [chOk_iff]; (try simp only [Bool.not_eq_true', Bool.not_eq_false', decide_eq_true_eq, decide_eq_false_iff_not, beq_iff_eq, beq_eq_false_iff_ne, ne_eq] at *); omega)⟩
               case measure => simp [intOf]; omega)
            | (go_ret
               exact ⟨by rw [STOP.out (by rw [chOk_no]; (try simp only [Bool.not_eq_true', Bool.not_eq_false', decide_eq_true_eq, decide_eq_false_iff_not, beq_iff_eq, beq_eq_false_iff_ne, ne_eq] at *); omega)]; rfl, by assumption⟩)
        · have yes : nameB s = true := nameB_yes (by omega) (by omega) (fun j hj => hok j (by omega))
          have YES := Lib.hid yes; clear yes
          go_wp2
          go_ret
          exact ⟨by rw [YES.out]; rfl, by assumption⟩

theorem byteAt_get (s : ByteArray) (k : Nat) (h : k < s.size) : (s[k]).toNat = byteAt s k := by
  unfold byteAt
  have h' : k < s.data.toList.length := by simpa using h
  rw [List.getD_eq_getElem?_getD, List.getElem?_eq_getElem h']
  rfl
theorem rname_calls (s : ByteArray) (hs : s.size ≤ 1000000) (w : World) :
    Calls Tryz.prog 24 #[.string s] w fun e w' => e = .returned (.bool (nameB s)) ∧ w = w' := by
  go_enter Tryz.func24, Tryz.ntmps24
  go_wp2
  go_loop [3, 4] (fun i _ => ∃ k : Nat, k ≤ s.size ∧ i = .int .i64 k ∧ Hid (∀ j, j < k → chOk j (byteAt s j) = true)) (fun i _ => s.size - (intOf i).toNat)
  case atStart => exact ⟨0, Nat.zero_le _, rfl, fun j hj => absurd hj (Nat.not_lt_zero _)⟩
  case round =>
    obtain ⟨k, hk, rfl, hok⟩ := hrel
    by_cases hlt : k < s.size
    · have hbt := byteAt_lt s k
      have hx := byteAt_get s k hlt
      obtain ⟨b, hbe⟩ : ∃ b, b = byteAt s k := ⟨_, rfl⟩
      rw [← hbe] at hbt hx
      have HB := Lib.hid hbe; clear hbe
      have step : chOk k b = true → Hid (∀ j, j < k + 1 → chOk j (byteAt s j) = true) := fun h j hj => by
        rcases Nat.lt_or_ge j k with h' | h'
        · exact hok j h'
        · obtain rfl : j = k := by omega
          rw [← HB.out]; exact h
      have STEP := Lib.hid step; clear step
      have stop : chOk k b = false → nameB s = false := fun h => nameB_at hlt (by rw [← HB.out]; exact h)
      have STOP := Lib.hid stop; clear stop
      go_wp2
      all_goals first
        | (go_round
           case rel => exact ⟨k + 1, by omega, by go_num, STEP.out (by rw [chOk_iff]; (try simp only [Bool.not_eq_true', Bool.not_eq_false', decide_eq_true_eq, decide_eq_false_iff_not, beq_iff_eq, beq_eq_false_iff_ne, ne_eq] at *); omega)⟩
           case measure => simp [intOf]; omega)
        | (go_ret
           exact ⟨by rw [STOP.out (by rw [chOk_no]; (try simp only [Bool.not_eq_true', Bool.not_eq_false', decide_eq_true_eq, decide_eq_false_iff_not, beq_iff_eq, beq_eq_false_iff_ne, ne_eq] at *); omega)]; rfl, rfl⟩)
    · by_cases h1 : s.size < 1
      · have hn := nameB_no (s := s) (Or.inl h1)
        have HN := Lib.hid hn; clear hn
        have g1 : decide ((1 : Int) ≤ s.size) = false := by simp; omega
        go_wp2
        go_ret
        exact ⟨by rw [HN.out]; rfl, rfl⟩
      · have g1 : decide ((1 : Int) ≤ s.size) = true := by simp; omega
        by_cases h2 : 20 < s.size
        · have hn := nameB_no (s := s) (Or.inr h2)
          have HN := Lib.hid hn; clear hn
          have g2 : decide ((s.size : Int) ≤ 20) = false := by simp; omega
          go_wp2
          go_ret
          exact ⟨by rw [HN.out]; rfl, rfl⟩
        · have yes : nameB s = true := nameB_yes (by omega) (by omega) (fun j hj => hok.out j (by omega))
          have YES := Lib.hid yes; clear yes
          have g2 : decide ((s.size : Int) ≤ 20) = true := by simp; omega
          go_wp2
          go_ret
          exact ⟨by rw [YES.out]; rfl, rfl⟩
end Go.Proofs.YtehneliphhgegaaGreatDoor
