/- The laws CommandWords, CommandRefs: walked. -/
import Derived.Test.YtehneliphhgegaaDoorDWord
set_option linter.unusedVariables false
set_option linter.unusedSimpArgs false
set_option maxRecDepth 100000
namespace Go.Proofs.YtehneliphhgegaaDoor
open Go.RowKit Go.Apo

theorem commandWords_calls (a b : Int) (w : World) (hv : VarsOk w) :
    Calls Tryd.prog 4 #[.int .i64 a, .int .i64 b] w fun e w' => e = .returned (.bool true) ∧ Below w.heap.size w w' := by
  have HA := Lib.hid (awake19_calls w hv)
  have HX := Lib.hid (fun W => word_calls a W)
  have HY := Lib.hid (fun W => word_calls b W)
  by_cases h1 : a < 1 ∨ 20 < a
  · rw [wordB_out h1] at HX
    obtain ⟨y, hy⟩ : ∃ y, y = wordB b := ⟨_, rfl⟩
    rw [← hy] at HY
    clear hy hv
    by_cases h2 : a < 1
    · go_enter Tryd.func4, Tryd.ntmps4
      go_wp2_with (first | (go_at_call 12; refine HA.out.mono ?_; rintro e w1 ⟨rfl, hb1⟩) | (go_at_call 15; refine (HX.out _).mono ?_; clear HX; rintro e w2 ⟨rfl, hb2⟩) | (go_at_call 15; refine (HY.out _).mono ?_; rintro e w3 ⟨rfl, hb3⟩))
      go_ret
      exact ⟨rfl, bel_tr (bel_tr hb1 hb2) hb3⟩
    · have h3 : 20 < a := by omega
      have g1 : decide (a < 1) = false := by simpa using h2
      clear h1
      go_enter Tryd.func4, Tryd.ntmps4
      go_wp2_with (first | (go_at_call 12; refine HA.out.mono ?_; rintro e w1 ⟨rfl, hb1⟩) | (go_at_call 15; refine (HX.out _).mono ?_; clear HX; rintro e w2 ⟨rfl, hb2⟩) | (go_at_call 15; refine (HY.out _).mono ?_; rintro e w3 ⟨rfl, hb3⟩))
      go_ret
      exact ⟨rfl, bel_tr (bel_tr hb1 hb2) hb3⟩
  · have hbe := wordB_beq (a := a) (b := b) (by omega) (by omega)
    have hne := wordB_beq (a := a) (b := 0) (by omega) (by omega)
    have e0 : wordB 0 = ⟨#[]⟩ := rfl
    rw [e0, decide_eq_false (by omega)] at hne
    have hl1 : ¬ (wordB a).toList = [] := by
      intro e
      rw [e] at hne
      have : (([] : List UInt8) == (⟨#[]⟩ : ByteArray).toList) = true := by decide +kernel
      rw [this] at hne; cases hne
    have hl2 : (wordB a).toList.isEmpty = false := by
      cases h : (wordB a).toList with
      | nil => exact absurd h hl1
      | cons c l => rfl
    have hl3 : (!(wordB a).toList.isEmpty) = true := by rw [hl2]; rfl
    have g1 : decide (a < 1) = false := by simp; omega
    have g2 : decide (20 < a) = false := by simp; omega
    by_cases hab : a = b
    · subst hab
      obtain ⟨x, hx⟩ : ∃ x, x = wordB a := ⟨_, rfl⟩
      rw [← hx] at HX HY hl1 hl2 hl3
      clear hx hbe hne e0 h1 hv
      go_enter Tryd.func4, Tryd.ntmps4
      go_wp2_with (first | (go_at_call 12; refine HA.out.mono ?_; rintro e w1 ⟨rfl, hb1⟩) | (go_at_call 15; refine (HX.out _).mono ?_; clear HX; rintro e w2 ⟨rfl, hb2⟩) | (go_at_call 15; refine (HY.out _).mono ?_; rintro e w3 ⟨rfl, hb3⟩))
      go_ret
      exact ⟨rfl, bel_tr (bel_tr hb1 hb2) hb3⟩
    · rw [decide_eq_false hab] at hbe
      have g3 : (a == b) = false := by simpa using hab
      obtain ⟨x, hx⟩ : ∃ x, x = wordB a := ⟨_, rfl⟩
      obtain ⟨y, hy⟩ : ∃ y, y = wordB b := ⟨_, rfl⟩
      rw [← hx] at HX hbe hl1 hl2 hl3
      rw [← hy] at HY hbe
      clear hx hy hne e0 h1 hv hab
      go_enter Tryd.func4, Tryd.ntmps4
      go_wp2_with (first | (go_at_call 12; refine HA.out.mono ?_; rintro e w1 ⟨rfl, hb1⟩) | (go_at_call 15; refine (HX.out _).mono ?_; clear HX; rintro e w2 ⟨rfl, hb2⟩) | (go_at_call 15; refine (HY.out _).mono ?_; rintro e w3 ⟨rfl, hb3⟩))
      go_ret
      exact ⟨rfl, bel_tr (bel_tr hb1 hb2) hb3⟩
theorem commandRefs_calls (s : ByteArray) (w : World) (hv : VarsOk w) :
    Calls Tryd.prog 3 #[.string s] w fun e w' => e = .returned (.bool true) ∧ Below w.heap.size w w' := by
  have HA := Lib.hid (awake19_calls w hv)
  by_cases h : 60 < s.size
  · have g1 : decide ((60 : Int) < s.size) = true := by simp; omega
    clear hv
    go_enter Tryd.func3, Tryd.ntmps3
    go_wp2_with (go_at_call 12; refine HA.out.mono ?_; rintro e w1 ⟨rfl, hb1⟩)
    go_ret
    exact ⟨rfl, hb1⟩
  · have HX := Lib.hid (fun W (hW : Below w.heap.size w W) => cref_calls s (by omega) W (hv.below hW))
    have HY := Lib.hid (fun W => rref_calls s (by omega) W)
    have g1 : decide ((60 : Int) < s.size) = false := by simp; omega
    obtain ⟨v, hvv⟩ : ∃ v, v = refV s := ⟨_, rfl⟩
    rw [← hvv] at HX HY
    clear hvv hv
    obtain ⟨x, u, t⟩ := v
    unfold refT at HX HY
    go_enter Tryd.func3, Tryd.ntmps3
    go_wp2_with (first | (go_at_call 12; refine HA.out.mono ?_; rintro e w1 ⟨rfl, hb1⟩) | (go_at_call 13; refine (HX.out _ hb1).mono ?_; rintro e w2 ⟨rfl, hb2⟩) | (go_at_call 14; refine (HY.out _).mono ?_; rintro e w3 ⟨rfl, hb3⟩))
    go_ret
    exact ⟨rfl, bel_tr (bel_tr hb1 hb2) hb3⟩
end Go.Proofs.YtehneliphhgegaaDoor
namespace Go.Proofs.YtehneliphhgegaaDoor
open Go.RowKit Go.Apo
theorem commandWords_all (w : World) (a : Int) (_ : (Lit.int .i64 a).wf = true) (b : Int) (_ : (Lit.int .i64 b).wf = true) (hv : VarsOk w) :
    Calls Tryd.prog 4 #[.int .i64 a, .int .i64 b] w fun e w' => e = .returned (.bool true) ∧ Below w.heap.size w w' := commandWords_calls a b w hv
theorem commandRefs_all (w : World) (s : ByteArray) (_ : s.size ≤ 140737488351232) (hv : VarsOk w) :
    Calls Tryd.prog 3 #[.string s] w fun e w' => e = .returned (.bool true) ∧ Below w.heap.size w w' := commandRefs_calls s w hv
end Go.Proofs.YtehneliphhgegaaDoor
