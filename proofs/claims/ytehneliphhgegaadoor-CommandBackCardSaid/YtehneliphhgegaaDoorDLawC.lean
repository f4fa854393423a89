/- The law CommandChecks: walked; a command that is read as data. -/
import Derived.Test.YtehneliphhgegaaDoorDCheck
import Derived.Test.YtehneliphhgegaaDoorDRCheckAll
import Derived.Test.YtehneliphhgegaaDoorDWrites
import Derived.Test.YtehneliphhgegaaDoorDWord
import Derived.Test.YtehneliphhgegaaDoorDRead
set_option linter.unusedVariables false
set_option linter.unusedSimpArgs false
set_option maxRecDepth 100000
namespace Go.Proofs.YtehneliphhgegaaDoor
open Go.RowKit Go.Apo

section
variable {H : Type} {enc : TypeId × Value → H} {w : World}
theorem cells_int' : Tryd.prog.cellsOf 3 = 1 := by kernel_rfl
theorem cells_str' : Tryd.prog.cellsOf 9 = 1 := by kernel_rfl
theorem cells_cmd : Tryd.prog.cellsOf 30 = 6 := by kernel_rfl
theorem list6 {α : Type} {l : List α} (h : l.length = 6) : ∃ a b c d e f, l = [a, b, c, d, e, f] := by
  match l, h with
  | [a, b, c, d, e, f], _ => exact ⟨a, b, c, d, e, f, rfl⟩
theorem cmd_cells {cs : Array Value} (h : G enc Tryd.prog w 30 cs.toList) : ∃ k nm ot ky vl n, cs = #[.int .i64 k, .string nm, .string ot, .string ky, .string vl, .int .i64 n] ∧ n ≤ 9223372036854775807 := by
  obtain ⟨a, b, c, d, e, f, hl⟩ := list6 ((h.len Tryd.underlying30).trans cells_cmd)
  rw [hl] at h
  have f0 := h.field Tryd.underlying30 0 3 0 1 rfl cells_int'
  have f1 := h.field Tryd.underlying30 1 9 1 1 rfl cells_str'
  have f2 := h.field Tryd.underlying30 2 9 2 1 rfl cells_str'
  have f3 := h.field Tryd.underlying30 3 9 3 1 rfl cells_str'
  have f4 := h.field Tryd.underlying30 4 9 4 1 rfl cells_str'
  have f5 := h.field Tryd.underlying30 5 3 5 1 rfl cells_int'
  simp only [List.drop_zero, List.drop_succ_cons, List.take_succ_cons, List.take_zero] at f0 f1 f2 f3 f4 f5
  obtain ⟨k, e0, _⟩ := f0.int Tryd.underlying3
  obtain ⟨s1, e1, _⟩ := f1.string Tryd.underlying9
  obtain ⟨s2, e2, _⟩ := f2.string Tryd.underlying9
  obtain ⟨s3, e3, _⟩ := f3.string Tryd.underlying9
  obtain ⟨s4, e4, _⟩ := f4.string Tryd.underlying9
  obtain ⟨n, e5, wn⟩ := f5.int Tryd.underlying3
  simp only [List.cons.injEq, and_true] at e0 e1 e2 e3 e4 e5
  subst e0 e1 e2 e3 e4 e5
  refine ⟨k, s1, s2, s3, s4, n, ?_, ?_⟩
  · cases cs; simp_all
  · have hm : IntKind.i64.max = 9223372036854775807 := by decide +kernel
    simp only [Lit.wf, Bool.and_eq_true, decide_eq_true_eq] at wn
    omega
end
set_option maxHeartbeats 8000000 in
theorem commandChecks_calls (k : Int) (nm ot ky vl : ByteArray) (n : Int) (hn : n ≤ 9223372036854775807) (w : World) (hv : VarsOk w) :
    Calls Tryd.prog 5 #[.agg #[.int .i64 k, .string nm, .string ot, .string ky, .string vl, .int .i64 n]] w fun e w' => e = .returned (.bool true) ∧ Below w.heap.size w w' := by
  have hW0 := bel_al0 (Below.refl w.heap.size w) (.cells #[.int .i64 k, .string nm, .string ot, .string ky, .string vl, .int .i64 n] 30)
  have HBX := Lib.hid (blk_new w #[.int .i64 k, .string nm, .string ot, .string ky, .string vl, .int .i64 n] 30)
  have HA := Lib.hid (fun W (hW : Below w.heap.size w W) => awake19_calls W (hv.below hW))
  have HL := Lib.hid (fun W => light_calls k nm ot ky vl n W)
  by_cases hl : lightV nm ot ky vl = true
  · obtain ⟨s1, s2, s3, s4⟩ := lightV_out hl
    rw [hl] at HL
    have HC := Lib.hid (fun W (hW : Below w.heap.size w W) => check_calls k nm ot ky vl n (by omega) (by omega) (by omega) (by omega) W (hv.below hW))
    have HRC := Lib.hid (fun W => rcheck_calls k nm ot ky vl n (by omega) (by omega) (by omega) (by omega) hn W)
    have HW := Lib.hid (fun W => cwrites_calls k nm ot ky vl n W)
    have HRW := Lib.hid (fun W => rwrites_calls k nm ot ky vl n W)
    obtain ⟨r, hr⟩ : ∃ r, r = checkV k nm ot ky vl n := ⟨_, rfl⟩
    obtain ⟨b, hb⟩ : ∃ b, b = wrV k := ⟨_, rfl⟩
    rw [← hr] at HC HRC
    rw [← hb] at HW HRW
    clear hl hr hb s1 s2 s3 s4 hn hv
    go_enter Tryd.func5, Tryd.ntmps5
    go_upto_region 5 with (first
      | (go_at_call 12; refine (HA.out _ hW0).mono ?_; rintro e w1 ⟨rfl, hb1⟩; obtain ⟨x0, x1, x2, x3, x4, x5, xf⟩ := blk_six (HBX.out.below hb1); have hl0 := cell_lt x0)
      | (go_at_call 16; refine (HL.out _).mono ?_; rintro e w2 ⟨rfl, hb2⟩; clear x0 x1 x2 x3 x4 x5 xf hl0))
    have hb12 := bel_tr hb1 hb2
    have hbw2 := bel_tr hW0 hb12
    have HB2 := Lib.hid (HBX.out.below hb12)
    obtain ⟨x0, x1, x2, x3, x4, x5, xf⟩ := blk_six HB2.out
    have hl0 := cell_lt x0
    go_region_held3 (fun w' => Below w2.heap.size w2 w' ∧ w'.cell? ⟨w.heap.size, 0, none⟩ = some (.int .i64 k) ∧ w'.cell? ⟨w.heap.size, 1, none⟩ = some (.string nm) ∧ w'.cell? ⟨w.heap.size, 2, none⟩ = some (.string ot) ∧ w'.cell? ⟨w.heap.size, 3, none⟩ = some (.string ky) ∧ w'.cell? ⟨w.heap.size, 4, none⟩ = some (.string vl) ∧ w'.cell? ⟨w.heap.size, 5, none⟩ = some (.int .i64 n)) (((try dsimp only); (repeat' apply And.intro); all_goals (first | assumption | ((repeat (first | (with_reducible exact Below.refl _ _) | (with_reducible assumption) | (with_reducible refine bel_al0 ?_ _) | (with_reducible refine bel_set ?_ (by first | (simp; done) | (simp; omega)) _) | (with_reducible refine bel_dr ?_) | (with_reducible refine bel_drn ?_ _) | (with_reducible refine bel_tr ?_ (by assumption)))); done) | go_keep))) (first | (go_at_call 17; refine (HC.out _ (bel_tr hbw2 (by (repeat (first | (with_reducible exact Below.refl _ _) | (with_reducible assumption) | (with_reducible refine bel_al0 ?_ _) | (with_reducible refine bel_set ?_ (by first | (simp; done) | (simp; omega)) _) | (with_reducible refine bel_dr ?_) | (with_reducible refine bel_drn ?_ _) | (with_reducible refine bel_tr ?_ (by assumption))))))).mono ?_; rintro e w5 ⟨rfl, hb5⟩; have hb6 : Below w2.heap.size w2 w5 := bel_tr (by (repeat (first | (with_reducible exact Below.refl _ _) | (with_reducible assumption) | (with_reducible refine bel_al0 ?_ _) | (with_reducible refine bel_set ?_ (by first | (simp; done) | (simp; omega)) _) | (with_reducible refine bel_dr ?_) | (with_reducible refine bel_drn ?_ _) | (with_reducible refine bel_tr ?_ (by assumption))))) hb5; obtain ⟨q0, q1, q2, q3, q4, q5, _⟩ := blk_six (HB2.out.below hb6)) | (go_at_call 18; refine (HRC.out _).mono ?_; rintro e w6 ⟨rfl, hb7⟩; have hb8 : Below w2.heap.size w2 w6 := bel_tr (by (repeat (first | (with_reducible exact Below.refl _ _) | (with_reducible assumption) | (with_reducible refine bel_al0 ?_ _) | (with_reducible refine bel_set ?_ (by first | (simp; done) | (simp; omega)) _) | (with_reducible refine bel_dr ?_) | (with_reducible refine bel_drn ?_ _) | (with_reducible refine bel_tr ?_ (by assumption))))) hb7; obtain ⟨q0, q1, q2, q3, q4, q5, _⟩ := blk_six (HB2.out.below hb8)) | (go_at_call 19; refine (HW.out _).mono ?_; rintro e w7 ⟨rfl, hb9⟩; have hb10 : Below w2.heap.size w2 w7 := bel_tr (by (repeat (first | (with_reducible exact Below.refl _ _) | (with_reducible assumption) | (with_reducible refine bel_al0 ?_ _) | (with_reducible refine bel_set ?_ (by first | (simp; done) | (simp; omega)) _) | (with_reducible refine bel_dr ?_) | (with_reducible refine bel_drn ?_ _) | (with_reducible refine bel_tr ?_ (by assumption))))) hb9; obtain ⟨q0, q1, q2, q3, q4, q5, _⟩ := blk_six (HB2.out.below hb10)) | (go_at_call 20; refine (HRW.out _).mono ?_; rintro e w8 ⟨rfl, hb11⟩; have hb13 : Below w2.heap.size w2 w8 := bel_tr (by (repeat (first | (with_reducible exact Below.refl _ _) | (with_reducible assumption) | (with_reducible refine bel_al0 ?_ _) | (with_reducible refine bel_set ?_ (by first | (simp; done) | (simp; omega)) _) | (with_reducible refine bel_dr ?_) | (with_reducible refine bel_drn ?_ _) | (with_reducible refine bel_tr ?_ (by assumption))))) hb11; obtain ⟨q0, q1, q2, q3, q4, q5, _⟩ := blk_six (HB2.out.below hb13)))
    all_goals (
      go_wp2
      go_ret
      exact ⟨rfl, bel_tr hbw2 (by first | assumption | ((repeat (first | (with_reducible exact Below.refl _ _) | (with_reducible assumption) | (with_reducible refine bel_al0 ?_ _) | (with_reducible refine bel_set ?_ (by first | (simp; done) | (simp; omega)) _) | (with_reducible refine bel_dr ?_) | (with_reducible refine bel_drn ?_ _) | (with_reducible refine bel_tr ?_ (by assumption))))))⟩)
  · have hl' : lightV nm ot ky vl = false := by simpa using hl
    rw [hl'] at HL
    clear hl hl' hn hv
    go_enter Tryd.func5, Tryd.ntmps5
    go_wp2_with (first
      | (go_at_call 12; refine (HA.out _ hW0).mono ?_; rintro e w1 ⟨rfl, hb1⟩; obtain ⟨x0, x1, x2, x3, x4, x5, xf⟩ := blk_six (HBX.out.below hb1); have hl0 := cell_lt x0)
      | (go_at_call 16; refine (HL.out _).mono ?_; rintro e w2 ⟨rfl, hb2⟩))
    go_ret
    exact ⟨rfl, bel_tr hW0 (bel_tr hb1 hb2)⟩
theorem commandChecks_all (w : World) (k : Int) (nm ot ky vl : ByteArray) (n : Int) (hn : n ≤ 9223372036854775807) (hv : VarsOk w) :
    Calls Tryd.prog 5 #[.agg #[.int .i64 k, .string nm, .string ot, .string ky, .string vl, .int .i64 n]] w fun e w' => e = .returned (.bool true) ∧ Below w.heap.size w w' := commandChecks_calls k nm ot ky vl n hn w hv
end Go.Proofs.YtehneliphhgegaaDoor
