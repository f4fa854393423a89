/- What a text is as a ref: the document's words and the program's, each walked once; they say the same. -/
import Derived.Test.YtehneliphhgegaaGreatDoorZKDNum
import Derived.Test.YtehneliphhgegaaGreatDoorBase
import Derived.Test.YtehneliphhgegaaGreatDoorDFmt
import Derived.Test.YtehneliphhgegaaGreatDoorDName
import Derived.Test.YtehneliphhgegaaGreatDoorDRead
import Derived.Test.YtehneliphhgegaaGreatDoorZGRefGraphAll
set_option linter.unusedVariables false
set_option linter.unusedSimpArgs false
set_option maxRecDepth 100000
namespace Go.Proofs.YtehneliphhgegaaGreatDoor
open Go.RowKit Go.Apo

/-! digits, and what they are -/
theorem numRun_lt : ∀ (l : List UInt8) (n u : Nat), n < 18446744073709551616 → numRun l n = some u → u < 18446744073709551616
  | [], n, u, hn, h => by unfold numRun at h; cases h; exact hn
  | c :: l, n, u, hn, h => by
    unfold numRun at h
    split at h
    · cases h
    · exact numRun_lt l _ u (Nat.mod_lt _ (by omega)) h
theorem numV_lt (s : ByteArray) : (numV s).1 < 18446744073709551616 := by
  unfold numV
  cases h : numRun s.data.toList 0 with
  | none => show (0 : Nat) < _; omega
  | some u => exact numRun_lt _ 0 u (by omega) h
theorem numRun_of_parse : ∀ (l : List UInt8) (acc u : Nat), Lib.parseUintM 18446744073709551615 acc l = .ok u → numRun l acc = some u
  | [], acc, u, h => by unfold Lib.parseUintM at h; cases h; rfl
  | c :: l, acc, u, h => by
    unfold Lib.parseUintM at h
    split at h
    · rename_i h1
      split at h
      · cases h
      · rename_i h2
        split at h
        · cases h
        · rename_i h3
          unfold numRun
          have hst : numStop c.toNat acc = false := by
            unfold numStop
            simp
            omega
          rw [hst, if_neg (by simp)]
          have hmod : (acc * 10 + (c.toNat - 48)) % 18446744073709551616 = acc * 10 + (c.toNat - 48) := Nat.mod_eq_of_lt (by omega)
          rw [hmod]
          exact numRun_of_parse l _ u h
    · cases h
theorem parse_app (M : Nat) : ∀ (l k : List UInt8) (acc a : Nat), Lib.parseUintM M acc l = .ok a → Lib.parseUintM M acc (l ++ k) = Lib.parseUintM M a k
  | [], k, acc, a, h => by unfold Lib.parseUintM at h; cases h; rfl
  | c :: l, k, acc, a, h => by
    rw [List.cons_append]
    unfold Lib.parseUintM at h
    conv => lhs; unfold Lib.parseUintM
    split at h
    · rename_i h1
      rw [if_pos h1]
      split at h
      · cases h
      · rename_i h2
        rw [if_neg h2]
        split at h
        · cases h
        · rename_i h3
          rw [if_neg h3]
          exact parse_app M l k _ a h
    · cases h
theorem parse_one (c : UInt8) (acc d : Nat) (hc : c.toNat = 48 + d) (hd : d < 10) (h : acc * 10 + d ≤ 18446744073709551615) : Lib.parseUintM 18446744073709551615 acc [c] = .ok (acc * 10 + d) := by
  unfold Lib.parseUintM
  rw [if_pos (by omega), if_neg (by omega), if_neg (by omega)]
  unfold Lib.parseUintM
  rw [show c.toNat - 48 = d by omega]
theorem parse_dec (n : Nat) : n ≤ 18446744073709551615 → Lib.parseUintM 18446744073709551615 0 (Lib.decDigits n) = .ok n := by
  induction n using Nat.strongRecOn with
  | _ n ih =>
    intro hn
    by_cases hs : n < 10
    · rw [Lib.decDigits_one hs]
      have := parse_one (UInt8.ofNat (48 + n)) 0 n (by rw [UInt8.toNat_ofNat']; omega) hs (by omega)
      rw [this]; simp
    · rw [Lib.decDigits, dif_neg hs, parse_app _ _ _ _ _ (ih (n / 10) (by omega) (by omega))]
      rw [parse_one _ (n / 10) (n % 10) (by rw [UInt8.toNat_ofNat']; omega) (by omega) (by omega)]
      congr 1
      omega
theorem dec_ne (n : Nat) : Lib.decDigits n ≠ [] := by
  rw [Lib.decDigits]
  split
  · simp
  · simp
/-- what the program's own check comes to -/
theorem parse_iff (d : ByteArray) (u : Nat) (hu : u < 18446744073709551616) : (Lib.parseUintB 64 d.data.toList = .ok u ∧ dec u = d) ↔ numV d = (u, true) := by
  have eM : (2 : Nat) ^ 64 - 1 = 18446744073709551615 := by decide
  constructor
  · rintro ⟨h1, h2⟩
    unfold Lib.parseUintB at h1
    split at h1
    · cases h1
    · rw [eM] at h1
      unfold numV
      rw [numRun_of_parse _ _ _ h1]
      show (u, decide (dec u = d)) = _
      rw [decide_eq_true h2]
  · intro h
    unfold numV at h
    cases hr : numRun d.data.toList 0 with
    | none => rw [hr] at h; cases h
    | some n =>
      rw [hr] at h
      have h1 : (n, decide (dec n = d)) = (u, true) := h
      simp only [Prod.mk.injEq, decide_eq_true_eq] at h1
      obtain ⟨rfl, h2⟩ := h1
      refine ⟨?_, h2⟩
      have h3 : d.data.toList = Lib.decDigits n := by rw [← h2]; simp [dec]
      rw [h3]
      unfold Lib.parseUintB
      rw [if_neg (dec_ne n), eM]
      exact parse_dec n (by omega)

/-- what a text is as a ref -/
def tailS (s : ByteArray) : ByteArray := s.extract 1 s.size
def refBad : ByteArray × Nat × Bool := (⟨#[]⟩, 0, false)
def refV (s : ByteArray) : ByteArray × Nat × Bool :=
  if nameB s = true then (s, 0, true)
  else if s.size < 2 ∨ byteAt s 0 ≠ 64 then refBad
  else if (numV (tailS s)).2 = false ∨ (numV (tailS s)).1 = 0 then refBad
  else (⟨#[]⟩, (numV (tailS s)).1, true)
def refT (v : ByteArray × Nat × Bool) : Value := .tuple #[.string v.1, .int .u64 (v.2.1 : Nat), .bool v.2.2]

end Go.Proofs.YtehneliphhgegaaGreatDoor
