/- The document's Decimal and number: walked once. -/
import Derived.Test.YtehneliphhgegaaGreatDoorDFmt
import Derived.Test.YtehneliphhgegaaGreatDoorDName
set_option linter.unusedVariables false
set_option linter.unusedSimpArgs false
set_option maxRecDepth 100000
namespace Go.Proofs.YtehneliphhgegaaGreatDoor
open Go.RowKit Go.Apo Go.Sort Go.Lib

theorem dec_small {u : Nat} (h : u < 10) : dec u = ⟨#[UInt8.ofNat (48 + u)]⟩ := by
  unfold dec; rw [Lib.decDigits_one h]
theorem dec_big {u : Nat} (h : ¬ u < 10) : dec u = dec (u / 10) ++ ⟨#[UInt8.ofNat (48 + u % 10)]⟩ := by
  unfold dec
  rw [Lib.decDigits, dif_neg h]
  apply ByteArray.ext
  simp
theorem dec_size {u : Nat} (h : u < 18446744073709551616) : (dec u).size ≤ 20 := by
  unfold dec
  have := Lib.nDigits_le20 u h
  rw [← Lib.decDigits_length] at this
  simpa [ByteArray.size] using this
theorem decimal_calls (u : Nat) : ∀ (hu64 : u < 18446744073709551616) (w : World),
    Calls Tryz.prog 13 #[.int .u64 u] w fun e w' => e = .returned (.string (dec u)) ∧ Below w.heap.size w w' := by
  induction u using Nat.strongRecOn with
  | _ u ih =>
    intro hu64 w
    have hb : 0 ≤ (u : Int) ∧ (u : Int) < 18446744073709551616 := ⟨by omega, by omega⟩
    have hm : 0 ≤ (u : Int) % 10 ∧ (u : Int) % 10 < 10 := ⟨by omega, by omega⟩
    have hcv : (convert 76 9 (.slice (some ⟨w.heap.size, 0, none⟩) 1 1)).run Tryz.prog (w.alloc (.cells #[.int .u8 (48 + (u : Int) % 10)] 5)) = .ok (.string ⟨#[UInt8.ofNat (48 + u % 10)]⟩) (w.alloc (.cells #[.int .u8 (48 + (u : Int) % 10)] 5)) := by
      have h := run_convert_bytes_back (P := Tryz.prog) (w.alloc (.cells #[.int .u8 (48 + (u : Int) % 10)] 5)) 76 9 5 ⟨w.heap.size, 0, none⟩ 1 [UInt8.ofNat (48 + u % 10)] Tryz.underlying76 Tryz.underlying5 Tryz.underlying9 (fun j hj => by
        have hj0 : j = 0 := by simp at hj; exact hj
        subst hj0
        rw [Lib.add_plain]
        refine (cell_at_new w _ _ 0 (v := .int .u8 (48 + (u : Int) % 10)) rfl).trans ?_
        simp
        have : (48 + u % 10) % 256 = 48 + u % 10 := by omega
        omega)
      exact h
    by_cases hs : u < 10
    · have hd := dec_small hs
      have hme : u % 10 = u := by omega
      rw [hme] at hcv
      rw [← hd] at hcv
      have HD := Lib.hid hd
      clear ih hd hme
      go_enter Tryz.func13, Tryz.ntmps13
      go_wp2
      go_ret
      exact ⟨rfl, by (repeat (first | (with_reducible exact Below.refl _ _) | (with_reducible assumption) | (with_reducible refine bel_al0 ?_ _) | (with_reducible refine bel_set ?_ (by first | (simp; done) | (simp; omega)) _) | (with_reducible refine bel_dr ?_) | (with_reducible refine bel_drn ?_ _) | (with_reducible refine bel_tr ?_ (by assumption))))⟩
    · have IH := Lib.hid (ih (u / 10) (by omega) (by omega))
      have hd := dec_big hs
      have hsz := dec_size (u := u / 10) (by omega)
      obtain ⟨bt, hbt⟩ : ∃ bt, bt = UInt8.ofNat (48 + u % 10) := ⟨_, rfl⟩
      rw [← hbt] at hcv hd
      clear hbt
      have HD := Lib.hid hd
      have hq : (u : Int) / 10 = ((u / 10 : Nat) : Int) := by omega
      have HQ := Lib.hid hq
      clear ih hd hq
      go_enter Tryz.func13, Tryz.ntmps13
      go_wp2_with (go_at_call 13; rw [HQ.out]; refine (IH.out _).mono ?_; rintro e w1 ⟨rfl, hb1⟩)
      go_ret
      exact ⟨by rw [HD.out]; rfl, by (repeat (first | (with_reducible exact Below.refl _ _) | (with_reducible assumption) | (with_reducible refine bel_al0 ?_ _) | (with_reducible refine bel_set ?_ (by first | (simp; done) | (simp; omega)) _) | (with_reducible refine bel_dr ?_) | (with_reducible refine bel_drn ?_ _) | (with_reducible refine bel_tr ?_ (by assumption))))⟩
end Go.Proofs.YtehneliphhgegaaGreatDoor
