/- A way from a ref to a commit: which is the better one, its text, the best of some: walked once. -/
import Derived.Test.YtehneliphhgegaaGreatDoorZKDNameG
import Derived.Test.YtehneliphhgegaaGreatDoorBase
import Derived.Test.YtehneliphhgegaaGreatDoorDDec
import Derived.Test.YtehneliphhgegaaGreatDoorDFmt
import Derived.Test.YtehneliphhgegaaGreatDoorDRead
import Derived.Test.YtehneliphhgegaaGreatDoorRows2
import Derived.Test.YtehneliphhgegaaGreatDoorZGGraphAll
import Derived.Test.YtehneliphhgegaaGreatDoorZGMadeAll
import Derived.Test.YtehneliphhgegaaGreatDoorZGRefGraphAll
import Derived.Test.YtehneliphhgegaaGreatDoorZGRest
import Derived.Test.YtehneliphhgegaaGreatDoorZKDSplit
import Derived.Test.YtehneliphhgegaaGreatDoorZKDNameV
import Derived.Deep.RegionWith
set_option linter.unusedVariables false
set_option linter.unusedSimpArgs false
set_option maxRecDepth 100000
namespace Go.Proofs.YtehneliphhgegaaGreatDoor
open Go.RowKit Go.Apo

def wayVal (a : Way) : Value := .agg #[.string a.1, .int .i64 (a.2 : Nat)]
theorem less_calls (w : World) (a b : Way) :
    Calls Tryz.prog 30 #[wayVal a, wayVal b] w fun e w' => e = .returned (.bool (wayLess a b)) ∧ Below w.heap.size w w' := by
  obtain ⟨an, ak⟩ := a
  obtain ⟨bn, bk⟩ := b
  unfold wayLess wayVal
  simp only
  by_cases h : ak = bk
  · subst h
    rw [if_pos rfl]
    go_enter Tryz.func30, Tryz.ntmps30
    go_wp2
    go_ret
    exact ⟨rfl, by (repeat (first | (with_reducible exact Below.refl _ _) | (with_reducible assumption) | (with_reducible refine bel_al0 ?_ _) | (with_reducible refine bel_set ?_ (by first | (simp; done) | (simp; omega)) _) | (with_reducible refine bel_dr ?_) | (with_reducible refine bel_drn ?_ _) | (with_reducible refine bel_tr ?_ (by assumption))))⟩
  · rw [if_neg h]
    have h1 : ((ak : Int) == (bk : Int)) = false := by simp; omega
    have h2 : decide ((ak : Int) < (bk : Int)) = decide (ak < bk) := by simp
    clear h
    go_enter Tryz.func30, Tryz.ntmps30
    go_wp2
    go_ret
    exact ⟨rfl, by (repeat (first | (with_reducible exact Below.refl _ _) | (with_reducible assumption) | (with_reducible refine bel_al0 ?_ _) | (with_reducible refine bel_set ?_ (by first | (simp; done) | (simp; omega)) _) | (with_reducible refine bel_dr ?_) | (with_reducible refine bel_drn ?_ _) | (with_reducible refine bel_tr ?_ (by assumption))))⟩

set_option maxHeartbeats 4000000 in
theorem text_calls33 (w : World) (hv : VarsOk w) (a : Way) (ha : a.2 ≤ 1000000) (hn : a.1.size ≤ 1000) (i : Nat) :
    Calls Tryz.prog 32 #[wayVal a] w fun e w' => e = .returned (.string (textW i (some a))) ∧ Below w.heap.size w w' := by
  obtain ⟨an, ak⟩ := a
  unfold textW wayVal
  simp only at ha hn ⊢
  by_cases h : ak = 0
  · subst h
    rw [if_pos rfl]
    go_enter Tryz.func32, Tryz.ntmps32
    go_wp2
    go_ret
    exact ⟨rfl, by (repeat (first | (with_reducible exact Below.refl _ _) | (with_reducible assumption) | (with_reducible refine bel_al0 ?_ _) | (with_reducible refine bel_set ?_ (by first | (simp; done) | (simp; omega)) _) | (with_reducible refine bel_dr ?_) | (with_reducible refine bel_drn ?_ _) | (with_reducible refine bel_tr ?_ (by assumption))))⟩
  · rw [if_neg h]
    have h1 : ((ak : Int) == 0) = false := by simp; omega
    have e1 : IntKind.u64.wrap ((ak : Nat) : Int) = (ak : Int) := by rw [IntKind.wrap_u64]; omega
    have HD := Lib.hid (fun W (hW : Below w.heap.size w W) => ndec_calls ak (by omega) W (hv.below hW))
    have hsz := dec_size (u := ak) (by omega)
    clear h
    go_enter Tryz.func32, Tryz.ntmps32
    go_wp2
    have hbW : Below w.heap.size w (w.alloc (.cells #[.string an, .int .i64 (ak : Int)] 70)) := by (repeat (first | (with_reducible exact Below.refl _ _) | (with_reducible assumption) | (with_reducible refine bel_al0 ?_ _) | (with_reducible refine bel_set ?_ (by first | (simp; done) | (simp; omega)) _) | (with_reducible refine bel_dr ?_) | (with_reducible refine bel_drn ?_ _) | (with_reducible refine bel_tr ?_ (by assumption))))
    have c0 : (w.alloc (.cells #[.string an, .int .i64 (ak : Int)] 70)).cell? ⟨w.heap.size, 0, none⟩ = some (.string an) := cell_at_new w _ _ 0 rfl
    have c1 : (w.alloc (.cells #[.string an, .int .i64 (ak : Int)] 70)).cell? ⟨w.heap.size, 1, none⟩ = some (.int .i64 (ak : Int)) := cell_at_new w _ _ 1 rfl
    generalize w.alloc (.cells #[.string an, .int .i64 (ak : Int)] 70) = W0 at *
    have hbW' : Below w.heap.size w W0.drew := bel_dr hbW
    have c0' : W0.drew.cell? ⟨w.heap.size, 0, none⟩ = some (.string an) := c0
    have c1' : W0.drew.cell? ⟨w.heap.size, 1, none⟩ = some (.int .i64 (ak : Int)) := c1
    go_region_with (go_at_call 31; refine (HD.out _ hbW').mono ?_; rintro e w1 ⟨rfl, hb1⟩; have d0 := cell_bel c0' hb1; have d1 := cell_bel c1' hb1)
    all_goals (go_wp2; go_ret; exact ⟨rfl, bel_tr hbW' hb1⟩)
end Go.Proofs.YtehneliphhgegaaGreatDoor
