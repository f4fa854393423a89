/- command.Check: walked once. Written by gen-dcheck.py. -/
import Derived.Test.YtehneliphhgegaaDoorDCheckV
import Derived.Deep.CutBlock
set_option linter.unusedVariables false
set_option linter.unusedSimpArgs false
set_option maxRecDepth 100000
namespace Go.Proofs.YtehneliphhgegaaDoor
open Go.RowKit Go.Apo

set_option maxHeartbeats 40000000 in
theorem check_calls (k : Int) (nm ot ky vl : ByteArray) (n : Int) (h1 : nm.size ≤ 1000000) (h2 : ot.size ≤ 1000000) (h3 : ky.size ≤ 1000000) (h4 : vl.size ≤ 1000000) (w : World) (hv : VarsOk w) :
    Calls Tryd.prog 17 #[.agg #[.int .i64 k, .string nm, .string ot, .string ky, .string vl, .int .i64 n]] w fun e w' => e = .returned (.int .i64 (checkV k nm ot ky vl n)) ∧ Below w.heap.size w w' := by
  have HNM := Lib.hid (fun W => named_calls k W)
  unfold namedT at HNM
  have HBX := Lib.hid (blk_new w #[.int .i64 k, .string nm, .string ot, .string ky, .string vl, .int .i64 n] 30)
  have HR1 := Lib.hid (fun (W : World) (hW : Below w.heap.size w W) s hs b => cneeds_calls s hs b W (hv.below hW))
  have HNO := Lib.hid (@checkV_no k nm ot ky vl n)
  have HYES := Lib.hid (@checkV_yes k nm ot ky vl n)
  have hW0 := bel_al0 (Below.refl w.heap.size w) (.cells #[.int .i64 k, .string nm, .string ot, .string ky, .string vl, .int .i64 n] 30)
  have HK := Lib.hid (@isK_yes k)
  obtain ⟨r, hr⟩ : ∃ r, r = checkV k nm ot ky vl n := ⟨_, rfl⟩
  rw [← hr] at HNO HYES ⊢
  obtain ⟨I, hI⟩ : ∃ I, I = isK k := ⟨_, rfl⟩
  obtain ⟨Z, hZ⟩ : ∃ Z, Z = zeroV k nm ot ky vl n := ⟨_, rfl⟩
  rw [← hI] at HNO HYES HK HNM
  rw [← hZ] at HNO HYES
  have hZ2 := hZ
  unfold zeroV at hZ2
  have t1 : nm.toList.isEmpty = emptyB nm := rfl
  have t2 : ot.toList.isEmpty = emptyB ot := rfl
  have t3 : ky.toList.isEmpty = emptyB ky := rfl
  have t4 : vl.toList.isEmpty = emptyB vl := rfl
  obtain ⟨B1, hB1⟩ : ∃ b, b = bN k := ⟨_, rfl⟩
  obtain ⟨B2, hB2⟩ : ∃ b, b = bO k := ⟨_, rfl⟩
  obtain ⟨B3, hB3⟩ : ∃ b, b = bK k := ⟨_, rfl⟩
  obtain ⟨B4, hB4⟩ : ∃ b, b = bV k := ⟨_, rfl⟩
  obtain ⟨B5, hB5⟩ : ∃ b, b = bI k := ⟨_, rfl⟩
  obtain ⟨Z1, hZ1⟩ : ∃ b, b = emptyB nm := ⟨_, rfl⟩
  obtain ⟨Z2, hZ2'⟩ : ∃ b, b = emptyB ot := ⟨_, rfl⟩
  obtain ⟨Z3, hZ3⟩ : ∃ b, b = emptyB ky := ⟨_, rfl⟩
  obtain ⟨Z4, hZ4⟩ : ∃ b, b = emptyB vl := ⟨_, rfl⟩
  obtain ⟨Z5, hZ5⟩ : ∃ b, b = (n == 0) := ⟨_, rfl⟩
  rw [← hB1, ← hB2, ← hB3, ← hB4, ← hB5] at HNM hZ2
  rw [← hZ1, ← hZ2', ← hZ3, ← hZ4, ← hZ5] at hZ2
  rw [← hZ1] at t1
  rw [← hZ2'] at t2
  rw [← hZ3] at t3
  rw [← hZ4] at t4
  replace hZ5 := hZ5.symm
  have HZ := Lib.hid hZ2
  clear hr hI hZ hZ2 hB1 hB2 hB3 hB4 hB5 hZ1 hZ2' hZ3 hZ4 hv
  go_enter Tryd.func17, Tryd.ntmps17
  go_upto_region 2 with (go_at_call 43; refine (HNM.out _).mono ?_; rintro e w1 ⟨rfl, hb1⟩)
  have hbw1 := bel_tr hW0 hb1
  obtain ⟨x0, x1, x2, x3, x4, x5, xf⟩ := blk_six (HBX.out.below (bel_al0 hb1 (.cells #[.bool B1, .bool B2, .bool B3, .bool B4, .bool B5] 76)))
  obtain ⟨W2, hW2⟩ : ∃ W2, W2 = w1.alloc (.cells #[.bool B1, .bool B2, .bool B3, .bool B4, .bool B5] 76) := ⟨_, rfl⟩
  have hbw2 : Below w.heap.size w W2 := by rw [hW2]; exact bel_al0 hbw1 _
  have y0 : W2.cell? ⟨w1.heap.size, 0, none⟩ = some (.bool B1) := by rw [hW2]; exact cell_at_new w1 _ _ 0 rfl
  have y1 : W2.cell? ⟨w1.heap.size, 1, none⟩ = some (.bool B2) := by rw [hW2]; exact cell_at_new w1 _ _ 1 rfl
  have y2 : W2.cell? ⟨w1.heap.size, 2, none⟩ = some (.bool B3) := by rw [hW2]; exact cell_at_new w1 _ _ 2 rfl
  have y3 : W2.cell? ⟨w1.heap.size, 3, none⟩ = some (.bool B4) := by rw [hW2]; exact cell_at_new w1 _ _ 3 rfl
  have y4 : W2.cell? ⟨w1.heap.size, 4, none⟩ = some (.bool B5) := by rw [hW2]; exact cell_at_new w1 _ _ 4 rfl
  have hl0 := cell_lt x0
  rw [← hW2] at x0 x1 x2 x3 x4 x5 xf hl0 ⊢
  have hl1 := cell_lt y0
  clear hW2
  go_cut [5] from 12 to 54 (fun s5 wx => s5 = .bool Z ∧ Below W2.heap.size W2 wx)
  case first =>
    clear HR1 HNO HYES HK HNM HBX
    cases B1 with
    | true => (
        cases B2 with
        | true => (
            cases B3 with
            | true => (
                cases B4 with
                | true => (
                    cases B5 with
                    | true => (
                        go_wp2; go_meet; exact ⟨by rw [HZ.out]; rfl, Below.refl _ _⟩)
                    | false => (
                        cases Z5 with
                        | true => (
                            go_wp2; go_meet; exact ⟨by rw [HZ.out]; rfl, Below.refl _ _⟩)
                        | false => (go_wp2; go_meet; exact ⟨by rw [HZ.out]; rfl, Below.refl _ _⟩)))
                | false => (
                    cases Z4 with
                    | true => (
                        cases B5 with
                        | true => (
                            go_wp2; go_meet; exact ⟨by rw [HZ.out]; rfl, Below.refl _ _⟩)
                        | false => (
                            cases Z5 with
                            | true => (
                                go_wp2; go_meet; exact ⟨by rw [HZ.out]; rfl, Below.refl _ _⟩)
                            | false => (go_wp2; go_meet; exact ⟨by rw [HZ.out]; rfl, Below.refl _ _⟩)))
                    | false => (go_wp2; go_meet; exact ⟨by rw [HZ.out]; rfl, Below.refl _ _⟩)))
            | false => (
                cases Z3 with
                | true => (
                    cases B4 with
                    | true => (
                        cases B5 with
                        | true => (
                            go_wp2; go_meet; exact ⟨by rw [HZ.out]; rfl, Below.refl _ _⟩)
                        | false => (
                            cases Z5 with
                            | true => (
                                go_wp2; go_meet; exact ⟨by rw [HZ.out]; rfl, Below.refl _ _⟩)
                            | false => (go_wp2; go_meet; exact ⟨by rw [HZ.out]; rfl, Below.refl _ _⟩)))
                    | false => (
                        cases Z4 with
                        | true => (
                            cases B5 with
                            | true => (
                                go_wp2; go_meet; exact ⟨by rw [HZ.out]; rfl, Below.refl _ _⟩)
                            | false => (
                                cases Z5 with
                                | true => (
                                    go_wp2; go_meet; exact ⟨by rw [HZ.out]; rfl, Below.refl _ _⟩)
                                | false => (go_wp2; go_meet; exact ⟨by rw [HZ.out]; rfl, Below.refl _ _⟩)))
                        | false => (go_wp2; go_meet; exact ⟨by rw [HZ.out]; rfl, Below.refl _ _⟩)))
                | false => (go_wp2; go_meet; exact ⟨by rw [HZ.out]; rfl, Below.refl _ _⟩)))
        | false => (
            cases Z2 with
            | true => (
                cases B3 with
                | true => (
                    cases B4 with
                    | true => (
                        cases B5 with
                        | true => (
                            go_wp2; go_meet; exact ⟨by rw [HZ.out]; rfl, Below.refl _ _⟩)
                        | false => (
                            cases Z5 with
                            | true => (
                                go_wp2; go_meet; exact ⟨by rw [HZ.out]; rfl, Below.refl _ _⟩)
                            | false => (go_wp2; go_meet; exact ⟨by rw [HZ.out]; rfl, Below.refl _ _⟩)))
                    | false => (
                        cases Z4 with
                        | true => (
                            cases B5 with
                            | true => (
                                go_wp2; go_meet; exact ⟨by rw [HZ.out]; rfl, Below.refl _ _⟩)
                            | false => (
                                cases Z5 with
                                | true => (
                                    go_wp2; go_meet; exact ⟨by rw [HZ.out]; rfl, Below.refl _ _⟩)
                                | false => (go_wp2; go_meet; exact ⟨by rw [HZ.out]; rfl, Below.refl _ _⟩)))
                        | false => (go_wp2; go_meet; exact ⟨by rw [HZ.out]; rfl, Below.refl _ _⟩)))
                | false => (
                    cases Z3 with
                    | true => (
                        cases B4 with
                        | true => (
                            cases B5 with
                            | true => (
                                go_wp2; go_meet; exact ⟨by rw [HZ.out]; rfl, Below.refl _ _⟩)
                            | false => (
                                cases Z5 with
                                | true => (
                                    go_wp2; go_meet; exact ⟨by rw [HZ.out]; rfl, Below.refl _ _⟩)
                                | false => (go_wp2; go_meet; exact ⟨by rw [HZ.out]; rfl, Below.refl _ _⟩)))
                        | false => (
                            cases Z4 with
                            | true => (
                                cases B5 with
                                | true => (
                                    go_wp2; go_meet; exact ⟨by rw [HZ.out]; rfl, Below.refl _ _⟩)
                                | false => (
                                    cases Z5 with
                                    | true => (
                                        go_wp2; go_meet; exact ⟨by rw [HZ.out]; rfl, Below.refl _ _⟩)
                                    | false => (go_wp2; go_meet; exact ⟨by rw [HZ.out]; rfl, Below.refl _ _⟩)))
                            | false => (go_wp2; go_meet; exact ⟨by rw [HZ.out]; rfl, Below.refl _ _⟩)))
                    | false => (go_wp2; go_meet; exact ⟨by rw [HZ.out]; rfl, Below.refl _ _⟩)))
            | false => (go_wp2; go_meet; exact ⟨by rw [HZ.out]; rfl, Below.refl _ _⟩)))
    | false => (
        cases Z1 with
        | true => (
            cases B2 with
            | true => (
                cases B3 with
                | true => (
                    cases B4 with
                    | true => (
                        cases B5 with
                        | true => (
                            go_wp2; go_meet; exact ⟨by rw [HZ.out]; rfl, Below.refl _ _⟩)
                        | false => (
                            cases Z5 with
                            | true => (
                                go_wp2; go_meet; exact ⟨by rw [HZ.out]; rfl, Below.refl _ _⟩)
                            | false => (go_wp2; go_meet; exact ⟨by rw [HZ.out]; rfl, Below.refl _ _⟩)))
                    | false => (
                        cases Z4 with
                        | true => (
                            cases B5 with
                            | true => (
                                go_wp2; go_meet; exact ⟨by rw [HZ.out]; rfl, Below.refl _ _⟩)
                            | false => (
                                cases Z5 with
                                | true => (
                                    go_wp2; go_meet; exact ⟨by rw [HZ.out]; rfl, Below.refl _ _⟩)
                                | false => (go_wp2; go_meet; exact ⟨by rw [HZ.out]; rfl, Below.refl _ _⟩)))
                        | false => (go_wp2; go_meet; exact ⟨by rw [HZ.out]; rfl, Below.refl _ _⟩)))
                | false => (
                    cases Z3 with
                    | true => (
                        cases B4 with
                        | true => (
                            cases B5 with
                            | true => (
                                go_wp2; go_meet; exact ⟨by rw [HZ.out]; rfl, Below.refl _ _⟩)
                            | false => (
                                cases Z5 with
                                | true => (
                                    go_wp2; go_meet; exact ⟨by rw [HZ.out]; rfl, Below.refl _ _⟩)
                                | false => (go_wp2; go_meet; exact ⟨by rw [HZ.out]; rfl, Below.refl _ _⟩)))
                        | false => (
                            cases Z4 with
                            | true => (
                                cases B5 with
                                | true => (
                                    go_wp2; go_meet; exact ⟨by rw [HZ.out]; rfl, Below.refl _ _⟩)
                                | false => (
                                    cases Z5 with
                                    | true => (
                                        go_wp2; go_meet; exact ⟨by rw [HZ.out]; rfl, Below.refl _ _⟩)
                                    | false => (go_wp2; go_meet; exact ⟨by rw [HZ.out]; rfl, Below.refl _ _⟩)))
                            | false => (go_wp2; go_meet; exact ⟨by rw [HZ.out]; rfl, Below.refl _ _⟩)))
                    | false => (go_wp2; go_meet; exact ⟨by rw [HZ.out]; rfl, Below.refl _ _⟩)))
            | false => (
                cases Z2 with
                | true => (
                    cases B3 with
                    | true => (
                        cases B4 with
                        | true => (
                            cases B5 with
                            | true => (
                                go_wp2; go_meet; exact ⟨by rw [HZ.out]; rfl, Below.refl _ _⟩)
                            | false => (
                                cases Z5 with
                                | true => (
                                    go_wp2; go_meet; exact ⟨by rw [HZ.out]; rfl, Below.refl _ _⟩)
                                | false => (go_wp2; go_meet; exact ⟨by rw [HZ.out]; rfl, Below.refl _ _⟩)))
                        | false => (
                            cases Z4 with
                            | true => (
                                cases B5 with
                                | true => (
                                    go_wp2; go_meet; exact ⟨by rw [HZ.out]; rfl, Below.refl _ _⟩)
                                | false => (
                                    cases Z5 with
                                    | true => (
                                        go_wp2; go_meet; exact ⟨by rw [HZ.out]; rfl, Below.refl _ _⟩)
                                    | false => (go_wp2; go_meet; exact ⟨by rw [HZ.out]; rfl, Below.refl _ _⟩)))
                            | false => (go_wp2; go_meet; exact ⟨by rw [HZ.out]; rfl, Below.refl _ _⟩)))
                    | false => (
                        cases Z3 with
                        | true => (
                            cases B4 with
                            | true => (
                                cases B5 with
                                | true => (
                                    go_wp2; go_meet; exact ⟨by rw [HZ.out]; rfl, Below.refl _ _⟩)
                                | false => (
                                    cases Z5 with
                                    | true => (
                                        go_wp2; go_meet; exact ⟨by rw [HZ.out]; rfl, Below.refl _ _⟩)
                                    | false => (go_wp2; go_meet; exact ⟨by rw [HZ.out]; rfl, Below.refl _ _⟩)))
                            | false => (
                                cases Z4 with
                                | true => (
                                    cases B5 with
                                    | true => (
                                        go_wp2; go_meet; exact ⟨by rw [HZ.out]; rfl, Below.refl _ _⟩)
                                    | false => (
                                        cases Z5 with
                                        | true => (
                                            go_wp2; go_meet; exact ⟨by rw [HZ.out]; rfl, Below.refl _ _⟩)
                                        | false => (go_wp2; go_meet; exact ⟨by rw [HZ.out]; rfl, Below.refl _ _⟩)))
                                | false => (go_wp2; go_meet; exact ⟨by rw [HZ.out]; rfl, Below.refl _ _⟩)))
                        | false => (go_wp2; go_meet; exact ⟨by rw [HZ.out]; rfl, Below.refl _ _⟩)))
                | false => (go_wp2; go_meet; exact ⟨by rw [HZ.out]; rfl, Below.refl _ _⟩)))
        | false => (go_wp2; go_meet; exact ⟨by rw [HZ.out]; rfl, Below.refl _ _⟩))
  case rest =>
    obtain ⟨rfl, hbc⟩ := hcut
    have hbwc := bel_tr hbw2 hbc
    replace x0 := cell_bel x0 hbc
    replace x1 := cell_bel x1 hbc
    replace x2 := cell_bel x2 hbc
    replace x3 := cell_bel x3 hbc
    replace x4 := cell_bel x4 hbc
    replace x5 := cell_bel x5 hbc
    clear y0 y1 y2 y3 y4 xf t1 t2 t3 t4 HBX HNM
    have hl0 := cell_lt x0
    cases I with
    | false =>
      have hr := HNO.out (Or.inl rfl)
      subst hr
      clear HR1 HNO HYES HK HZ hZ5
      go_wp2
      go_ret
      exact ⟨rfl, hbwc⟩
    | true =>
      cases Z with
      | false =>
        have hr := HNO.out (Or.inr rfl)
        subst hr
        clear HR1 HNO HYES HK HZ hZ5
        go_wp2
        go_ret
        exact ⟨rfl, hbwc⟩
      | true =>
        have hr := HYES.out rfl rfl
        obtain ⟨k1, k2⟩ := HK.out rfl
        clear HNO HYES HK HZ
        go_upto_region 6 with fail
        rcases kind_cases k1 k2 with rfl | rfl | rfl | rfl | rfl | rfl | rfl | rfl | rfl | rfl | rfl | rfl | rfl | rfl | rfl | rfl | rfl | rfl | rfl | rfl
        · have hr' : r = firstV [keyE ky, valE vl] := hr.trans (by unfold bodyV; simp)
          clear hr
          subst hr'
          go_upto_region 7 with fail
          go_region_held3 (fun w' => Below wc.heap.size wc w' ∧ w'.cell? ⟨w.heap.size, 1, none⟩ = some (.string nm) ∧ w'.cell? ⟨w.heap.size, 2, none⟩ = some (.string ot) ∧ w'.cell? ⟨w.heap.size, 3, none⟩ = some (.string ky) ∧ w'.cell? ⟨w.heap.size, 4, none⟩ = some (.string vl) ∧ w'.cell? ⟨w.heap.size, 5, none⟩ = some (.int .i64 n)) (((try dsimp only); (repeat' apply And.intro); all_goals (first | assumption | ((repeat (first | (with_reducible exact Below.refl _ _) | (with_reducible assumption) | (with_reducible refine bel_al0 ?_ _) | (with_reducible refine bel_set ?_ (by first | (simp; done) | (simp; omega)) _) | (with_reducible refine bel_dr ?_) | (with_reducible refine bel_drn ?_ _) | (with_reducible refine bel_tr ?_ (by assumption)))); done) | go_keep))) (first | (go_at_call 45; refine (key_calls ky _).mono ?_; rintro e w2 ⟨rfl, rfl⟩) | (go_at_call 46; refine (val_calls vl _).mono ?_; rintro e w2 ⟨rfl, rfl⟩) | (go_at_call 44; refine (first2_calls _ _ 32 (keyE ky) (valE vl) (by first | exact blk_new _ _ _ | exact Blk.dr (blk_new _ _ _) | exact Blk.dr (Blk.dr (blk_new _ _ _)))).mono ?_; rintro e w6 ⟨rfl, rfl⟩))
          all_goals (
            go_wp2
            go_ret
            exact ⟨rfl, bel_tr hbwc (by first | assumption | ((repeat (first | (with_reducible exact Below.refl _ _) | (with_reducible assumption) | (with_reducible refine bel_al0 ?_ _) | (with_reducible refine bel_set ?_ (by first | (simp; done) | (simp; omega)) _) | (with_reducible refine bel_dr ?_) | (with_reducible refine bel_drn ?_ _) | (with_reducible refine bel_tr ?_ (by assumption))))))⟩)
        · have hr' : r = keyE ky := hr.trans (by unfold bodyV; simp)
          clear hr
          subst hr'
          go_wp2_with ((go_at_call 45; refine (key_calls ky _).mono ?_; rintro e w2 ⟨rfl, rfl⟩))
          go_ret
          exact ⟨rfl, bel_tr hbwc (by (repeat (first | (with_reducible exact Below.refl _ _) | (with_reducible assumption) | (with_reducible refine bel_al0 ?_ _) | (with_reducible refine bel_set ?_ (by first | (simp; done) | (simp; omega)) _) | (with_reducible refine bel_dr ?_) | (with_reducible refine bel_drn ?_ _) | (with_reducible refine bel_tr ?_ (by assumption)))))⟩
        · have hr' : r = keyE ky := hr.trans (by unfold bodyV; simp)
          clear hr
          subst hr'
          go_wp2_with ((go_at_call 45; refine (key_calls ky _).mono ?_; rintro e w2 ⟨rfl, rfl⟩))
          go_ret
          exact ⟨rfl, bel_tr hbwc (by (repeat (first | (with_reducible exact Below.refl _ _) | (with_reducible assumption) | (with_reducible refine bel_al0 ?_ _) | (with_reducible refine bel_set ?_ (by first | (simp; done) | (simp; omega)) _) | (with_reducible refine bel_dr ?_) | (with_reducible refine bel_drn ?_ _) | (with_reducible refine bel_tr ?_ (by assumption)))))⟩
        · have hr' : r = firstV [whenE (decide ((ky.size : Int) < 0) || decide (40 < (ky.size : Int))) 100, whenE (decide ((vl.size : Int) < 0) || decide (40 < (vl.size : Int))) 100, whenE (decide (n < 0) || decide (9223372036854775807 < n)) 1] := hr.trans (by unfold bodyV; simp)
          clear hr
          subst hr'
          go_upto_region 12 with fail
          go_region_held3 (fun w' => Below wc.heap.size wc w' ∧ w'.cell? ⟨w.heap.size, 1, none⟩ = some (.string nm) ∧ w'.cell? ⟨w.heap.size, 2, none⟩ = some (.string ot) ∧ w'.cell? ⟨w.heap.size, 3, none⟩ = some (.string ky) ∧ w'.cell? ⟨w.heap.size, 4, none⟩ = some (.string vl) ∧ w'.cell? ⟨w.heap.size, 5, none⟩ = some (.int .i64 n)) (((try dsimp only); (repeat' apply And.intro); all_goals (first | assumption | ((repeat (first | (with_reducible exact Below.refl _ _) | (with_reducible assumption) | (with_reducible refine bel_al0 ?_ _) | (with_reducible refine bel_set ?_ (by first | (simp; done) | (simp; omega)) _) | (with_reducible refine bel_dr ?_) | (with_reducible refine bel_drn ?_ _) | (with_reducible refine bel_tr ?_ (by assumption)))); done) | go_keep))) (first | (go_at_call 47; refine (within_calls _ _ _ _).mono ?_; rintro e w2 ⟨rfl, rfl⟩) | (go_at_call 44; refine (first3_calls _ _ 32 (whenE (decide ((ky.size : Int) < 0) || decide (40 < (ky.size : Int))) 100) (whenE (decide ((vl.size : Int) < 0) || decide (40 < (vl.size : Int))) 100) (whenE (decide (n < 0) || decide (9223372036854775807 < n)) 1) (by first | exact blk_new _ _ _ | exact Blk.dr (blk_new _ _ _) | exact Blk.dr (Blk.dr (blk_new _ _ _)))).mono ?_; rintro e w6 ⟨rfl, rfl⟩))
          all_goals (
            go_wp2
            go_ret
            exact ⟨rfl, bel_tr hbwc (by first | assumption | ((repeat (first | (with_reducible exact Below.refl _ _) | (with_reducible assumption) | (with_reducible refine bel_al0 ?_ _) | (with_reducible refine bel_set ?_ (by first | (simp; done) | (simp; omega)) _) | (with_reducible refine bel_dr ?_) | (with_reducible refine bel_drn ?_ _) | (with_reducible refine bel_tr ?_ (by assumption))))))⟩)
        · have hr' : r = whenE (!textB vl) 121 := hr.trans (by unfold bodyV; simp)
          clear hr
          subst hr'
          go_wp2_with (first | (go_at_call 49; refine (text_calls vl _).mono ?_; rintro e w4 ⟨rfl, hb4⟩) | (go_at_call 48; refine (holds_calls _ _ _).mono ?_; rintro e w2 ⟨rfl, rfl⟩))
          go_ret
          exact ⟨rfl, bel_tr hbwc (by (repeat (first | (with_reducible exact Below.refl _ _) | (with_reducible assumption) | (with_reducible refine bel_al0 ?_ _) | (with_reducible refine bel_set ?_ (by first | (simp; done) | (simp; omega)) _) | (with_reducible refine bel_dr ?_) | (with_reducible refine bel_drn ?_ _) | (with_reducible refine bel_tr ?_ (by assumption)))))⟩
        · have hr' : r = firstV [whenE (!nameB nm) 110, refE ot true] := hr.trans (by unfold bodyV; simp)
          clear hr
          subst hr'
          go_upto_region 17 with fail
          go_region_held3 (fun w' => Below wc.heap.size wc w' ∧ w'.cell? ⟨w.heap.size, 1, none⟩ = some (.string nm) ∧ w'.cell? ⟨w.heap.size, 2, none⟩ = some (.string ot) ∧ w'.cell? ⟨w.heap.size, 3, none⟩ = some (.string ky) ∧ w'.cell? ⟨w.heap.size, 4, none⟩ = some (.string vl) ∧ w'.cell? ⟨w.heap.size, 5, none⟩ = some (.int .i64 n)) (((try dsimp only); (repeat' apply And.intro); all_goals (first | assumption | ((repeat (first | (with_reducible exact Below.refl _ _) | (with_reducible assumption) | (with_reducible refine bel_al0 ?_ _) | (with_reducible refine bel_set ?_ (by first | (simp; done) | (simp; omega)) _) | (with_reducible refine bel_dr ?_) | (with_reducible refine bel_drn ?_ _) | (with_reducible refine bel_tr ?_ (by assumption)))); done) | go_keep))) (first | (go_at_call 37; refine (name_calls nm _).mono ?_; rintro e w4 ⟨rfl, hb4⟩; have hb6 : Below wc.heap.size wc w4 := bel_tr (by (repeat (first | (with_reducible exact Below.refl _ _) | (with_reducible assumption) | (with_reducible refine bel_al0 ?_ _) | (with_reducible refine bel_set ?_ (by first | (simp; done) | (simp; omega)) _) | (with_reducible refine bel_dr ?_) | (with_reducible refine bel_drn ?_ _) | (with_reducible refine bel_tr ?_ (by assumption))))) hb4; have q1 := cell_bel x1 hb6; have q2 := cell_bel x2 hb6; have q3 := cell_bel x3 hb6; have q4 := cell_bel x4 hb6; have q5 := cell_bel x5 hb6) | (go_at_call 48; refine (holds_calls _ _ _).mono ?_; rintro e w2 ⟨rfl, rfl⟩) | (go_at_call 50; refine (HR1.out _ (bel_tr hbwc (by (repeat (first | (with_reducible exact Below.refl _ _) | (with_reducible assumption) | (with_reducible refine bel_al0 ?_ _) | (with_reducible refine bel_set ?_ (by first | (simp; done) | (simp; omega)) _) | (with_reducible refine bel_dr ?_) | (with_reducible refine bel_drn ?_ _) | (with_reducible refine bel_tr ?_ (by assumption)))))) _ (by assumption) _).mono ?_; rintro e w5 ⟨rfl, hb5⟩; have hb6 : Below wc.heap.size wc w5 := bel_tr (by (repeat (first | (with_reducible exact Below.refl _ _) | (with_reducible assumption) | (with_reducible refine bel_al0 ?_ _) | (with_reducible refine bel_set ?_ (by first | (simp; done) | (simp; omega)) _) | (with_reducible refine bel_dr ?_) | (with_reducible refine bel_drn ?_ _) | (with_reducible refine bel_tr ?_ (by assumption))))) hb5; have q1 := cell_bel x1 hb6; have q2 := cell_bel x2 hb6; have q3 := cell_bel x3 hb6; have q4 := cell_bel x4 hb6; have q5 := cell_bel x5 hb6) | (go_at_call 44; refine (first2_calls _ _ 32 (whenE (!nameB nm) 110) (refE ot true) (by first | exact blk_new _ _ _ | exact Blk.dr (blk_new _ _ _) | exact Blk.dr (Blk.dr (blk_new _ _ _)))).mono ?_; rintro e w6 ⟨rfl, rfl⟩))
          all_goals (
            go_wp2
            go_ret
            exact ⟨rfl, bel_tr hbwc (by first | assumption | ((repeat (first | (with_reducible exact Below.refl _ _) | (with_reducible assumption) | (with_reducible refine bel_al0 ?_ _) | (with_reducible refine bel_set ?_ (by first | (simp; done) | (simp; omega)) _) | (with_reducible refine bel_dr ?_) | (with_reducible refine bel_drn ?_ _) | (with_reducible refine bel_tr ?_ (by assumption))))))⟩)
        · have hr' : r = firstV [whenE (!nameB nm) 110, refE ot true] := hr.trans (by unfold bodyV; simp)
          clear hr
          subst hr'
          go_upto_region 17 with fail
          go_region_held3 (fun w' => Below wc.heap.size wc w' ∧ w'.cell? ⟨w.heap.size, 1, none⟩ = some (.string nm) ∧ w'.cell? ⟨w.heap.size, 2, none⟩ = some (.string ot) ∧ w'.cell? ⟨w.heap.size, 3, none⟩ = some (.string ky) ∧ w'.cell? ⟨w.heap.size, 4, none⟩ = some (.string vl) ∧ w'.cell? ⟨w.heap.size, 5, none⟩ = some (.int .i64 n)) (((try dsimp only); (repeat' apply And.intro); all_goals (first | assumption | ((repeat (first | (with_reducible exact Below.refl _ _) | (with_reducible assumption) | (with_reducible refine bel_al0 ?_ _) | (with_reducible refine bel_set ?_ (by first | (simp; done) | (simp; omega)) _) | (with_reducible refine bel_dr ?_) | (with_reducible refine bel_drn ?_ _) | (with_reducible refine bel_tr ?_ (by assumption)))); done) | go_keep))) (first | (go_at_call 37; refine (name_calls nm _).mono ?_; rintro e w4 ⟨rfl, hb4⟩; have hb6 : Below wc.heap.size wc w4 := bel_tr (by (repeat (first | (with_reducible exact Below.refl _ _) | (with_reducible assumption) | (with_reducible refine bel_al0 ?_ _) | (with_reducible refine bel_set ?_ (by first | (simp; done) | (simp; omega)) _) | (with_reducible refine bel_dr ?_) | (with_reducible refine bel_drn ?_ _) | (with_reducible refine bel_tr ?_ (by assumption))))) hb4; have q1 := cell_bel x1 hb6; have q2 := cell_bel x2 hb6; have q3 := cell_bel x3 hb6; have q4 := cell_bel x4 hb6; have q5 := cell_bel x5 hb6) | (go_at_call 48; refine (holds_calls _ _ _).mono ?_; rintro e w2 ⟨rfl, rfl⟩) | (go_at_call 50; refine (HR1.out _ (bel_tr hbwc (by (repeat (first | (with_reducible exact Below.refl _ _) | (with_reducible assumption) | (with_reducible refine bel_al0 ?_ _) | (with_reducible refine bel_set ?_ (by first | (simp; done) | (simp; omega)) _) | (with_reducible refine bel_dr ?_) | (with_reducible refine bel_drn ?_ _) | (with_reducible refine bel_tr ?_ (by assumption)))))) _ (by assumption) _).mono ?_; rintro e w5 ⟨rfl, hb5⟩; have hb6 : Below wc.heap.size wc w5 := bel_tr (by (repeat (first | (with_reducible exact Below.refl _ _) | (with_reducible assumption) | (with_reducible refine bel_al0 ?_ _) | (with_reducible refine bel_set ?_ (by first | (simp; done) | (simp; omega)) _) | (with_reducible refine bel_dr ?_) | (with_reducible refine bel_drn ?_ _) | (with_reducible refine bel_tr ?_ (by assumption))))) hb5; have q1 := cell_bel x1 hb6; have q2 := cell_bel x2 hb6; have q3 := cell_bel x3 hb6; have q4 := cell_bel x4 hb6; have q5 := cell_bel x5 hb6) | (go_at_call 44; refine (first2_calls _ _ 32 (whenE (!nameB nm) 110) (refE ot true) (by first | exact blk_new _ _ _ | exact Blk.dr (blk_new _ _ _) | exact Blk.dr (Blk.dr (blk_new _ _ _)))).mono ?_; rintro e w6 ⟨rfl, rfl⟩))
          all_goals (
            go_wp2
            go_ret
            exact ⟨rfl, bel_tr hbwc (by first | assumption | ((repeat (first | (with_reducible exact Below.refl _ _) | (with_reducible assumption) | (with_reducible refine bel_al0 ?_ _) | (with_reducible refine bel_set ?_ (by first | (simp; done) | (simp; omega)) _) | (with_reducible refine bel_dr ?_) | (with_reducible refine bel_drn ?_ _) | (with_reducible refine bel_tr ?_ (by assumption))))))⟩)
        · have hr' : r = whenE (!nameB nm) 110 := hr.trans (by unfold bodyV; simp)
          clear hr
          subst hr'
          go_wp2_with (first | (go_at_call 37; refine (name_calls nm _).mono ?_; rintro e w4 ⟨rfl, hb4⟩; have hb6 : Below wc.heap.size wc w4 := bel_tr (by (repeat (first | (with_reducible exact Below.refl _ _) | (with_reducible assumption) | (with_reducible refine bel_al0 ?_ _) | (with_reducible refine bel_set ?_ (by first | (simp; done) | (simp; omega)) _) | (with_reducible refine bel_dr ?_) | (with_reducible refine bel_drn ?_ _) | (with_reducible refine bel_tr ?_ (by assumption))))) hb4; have q1 := cell_bel x1 hb6; have q2 := cell_bel x2 hb6; have q3 := cell_bel x3 hb6; have q4 := cell_bel x4 hb6; have q5 := cell_bel x5 hb6) | (go_at_call 48; refine (holds_calls _ _ _).mono ?_; rintro e w2 ⟨rfl, rfl⟩))
          go_ret
          exact ⟨rfl, bel_tr hbwc (by (repeat (first | (with_reducible exact Below.refl _ _) | (with_reducible assumption) | (with_reducible refine bel_al0 ?_ _) | (with_reducible refine bel_set ?_ (by first | (simp; done) | (simp; omega)) _) | (with_reducible refine bel_dr ?_) | (with_reducible refine bel_drn ?_ _) | (with_reducible refine bel_tr ?_ (by assumption)))))⟩
        · have hr' : r = whenE (!nameB nm) 110 := hr.trans (by unfold bodyV; simp)
          clear hr
          subst hr'
          go_wp2_with (first | (go_at_call 37; refine (name_calls nm _).mono ?_; rintro e w4 ⟨rfl, hb4⟩; have hb6 : Below wc.heap.size wc w4 := bel_tr (by (repeat (first | (with_reducible exact Below.refl _ _) | (with_reducible assumption) | (with_reducible refine bel_al0 ?_ _) | (with_reducible refine bel_set ?_ (by first | (simp; done) | (simp; omega)) _) | (with_reducible refine bel_dr ?_) | (with_reducible refine bel_drn ?_ _) | (with_reducible refine bel_tr ?_ (by assumption))))) hb4; have q1 := cell_bel x1 hb6; have q2 := cell_bel x2 hb6; have q3 := cell_bel x3 hb6; have q4 := cell_bel x4 hb6; have q5 := cell_bel x5 hb6) | (go_at_call 48; refine (holds_calls _ _ _).mono ?_; rintro e w2 ⟨rfl, rfl⟩))
          go_ret
          exact ⟨rfl, bel_tr hbwc (by (repeat (first | (with_reducible exact Below.refl _ _) | (with_reducible assumption) | (with_reducible refine bel_al0 ?_ _) | (with_reducible refine bel_set ?_ (by first | (simp; done) | (simp; omega)) _) | (with_reducible refine bel_dr ?_) | (with_reducible refine bel_drn ?_ _) | (with_reducible refine bel_tr ?_ (by assumption)))))⟩
        · have hr' : r = refE ot false := hr.trans (by unfold bodyV; simp)
          clear hr
          subst hr'
          go_wp2_with ((go_at_call 50; refine (HR1.out _ (bel_tr hbwc (by (repeat (first | (with_reducible exact Below.refl _ _) | (with_reducible assumption) | (with_reducible refine bel_al0 ?_ _) | (with_reducible refine bel_set ?_ (by first | (simp; done) | (simp; omega)) _) | (with_reducible refine bel_dr ?_) | (with_reducible refine bel_drn ?_ _) | (with_reducible refine bel_tr ?_ (by assumption)))))) _ (by assumption) _).mono ?_; rintro e w5 ⟨rfl, hb5⟩; have hb6 : Below wc.heap.size wc w5 := bel_tr (by (repeat (first | (with_reducible exact Below.refl _ _) | (with_reducible assumption) | (with_reducible refine bel_al0 ?_ _) | (with_reducible refine bel_set ?_ (by first | (simp; done) | (simp; omega)) _) | (with_reducible refine bel_dr ?_) | (with_reducible refine bel_drn ?_ _) | (with_reducible refine bel_tr ?_ (by assumption))))) hb5; have q1 := cell_bel x1 hb6; have q2 := cell_bel x2 hb6; have q3 := cell_bel x3 hb6; have q4 := cell_bel x4 hb6; have q5 := cell_bel x5 hb6))
          go_ret
          exact ⟨rfl, bel_tr hbwc (by (repeat (first | (with_reducible exact Below.refl _ _) | (with_reducible assumption) | (with_reducible refine bel_al0 ?_ _) | (with_reducible refine bel_set ?_ (by first | (simp; done) | (simp; omega)) _) | (with_reducible refine bel_dr ?_) | (with_reducible refine bel_drn ?_ _) | (with_reducible refine bel_tr ?_ (by assumption)))))⟩
        · have hr' : r = firstV [refE ot false, whenE (decide (n < 0) || decide (2 < n)) 137] := hr.trans (by unfold bodyV; simp)
          clear hr
          subst hr'
          go_upto_region 26 with fail
          go_region_held3 (fun w' => Below wc.heap.size wc w' ∧ w'.cell? ⟨w.heap.size, 1, none⟩ = some (.string nm) ∧ w'.cell? ⟨w.heap.size, 2, none⟩ = some (.string ot) ∧ w'.cell? ⟨w.heap.size, 3, none⟩ = some (.string ky) ∧ w'.cell? ⟨w.heap.size, 4, none⟩ = some (.string vl) ∧ w'.cell? ⟨w.heap.size, 5, none⟩ = some (.int .i64 n)) (((try dsimp only); (repeat' apply And.intro); all_goals (first | assumption | ((repeat (first | (with_reducible exact Below.refl _ _) | (with_reducible assumption) | (with_reducible refine bel_al0 ?_ _) | (with_reducible refine bel_set ?_ (by first | (simp; done) | (simp; omega)) _) | (with_reducible refine bel_dr ?_) | (with_reducible refine bel_drn ?_ _) | (with_reducible refine bel_tr ?_ (by assumption)))); done) | go_keep))) (first | (go_at_call 50; refine (HR1.out _ (bel_tr hbwc (by (repeat (first | (with_reducible exact Below.refl _ _) | (with_reducible assumption) | (with_reducible refine bel_al0 ?_ _) | (with_reducible refine bel_set ?_ (by first | (simp; done) | (simp; omega)) _) | (with_reducible refine bel_dr ?_) | (with_reducible refine bel_drn ?_ _) | (with_reducible refine bel_tr ?_ (by assumption)))))) _ (by assumption) _).mono ?_; rintro e w5 ⟨rfl, hb5⟩; have hb6 : Below wc.heap.size wc w5 := bel_tr (by (repeat (first | (with_reducible exact Below.refl _ _) | (with_reducible assumption) | (with_reducible refine bel_al0 ?_ _) | (with_reducible refine bel_set ?_ (by first | (simp; done) | (simp; omega)) _) | (with_reducible refine bel_dr ?_) | (with_reducible refine bel_drn ?_ _) | (with_reducible refine bel_tr ?_ (by assumption))))) hb5; have q1 := cell_bel x1 hb6; have q2 := cell_bel x2 hb6; have q3 := cell_bel x3 hb6; have q4 := cell_bel x4 hb6; have q5 := cell_bel x5 hb6) | (go_at_call 47; refine (within_calls _ _ _ _).mono ?_; rintro e w2 ⟨rfl, rfl⟩) | (go_at_call 44; refine (first2_calls _ _ 32 (refE ot false) (whenE (decide (n < 0) || decide (2 < n)) 137) (by first | exact blk_new _ _ _ | exact Blk.dr (blk_new _ _ _) | exact Blk.dr (Blk.dr (blk_new _ _ _)))).mono ?_; rintro e w6 ⟨rfl, rfl⟩))
          all_goals (
            go_wp2
            go_ret
            exact ⟨rfl, bel_tr hbwc (by first | assumption | ((repeat (first | (with_reducible exact Below.refl _ _) | (with_reducible assumption) | (with_reducible refine bel_al0 ?_ _) | (with_reducible refine bel_set ?_ (by first | (simp; done) | (simp; omega)) _) | (with_reducible refine bel_dr ?_) | (with_reducible refine bel_drn ?_ _) | (with_reducible refine bel_tr ?_ (by assumption))))))⟩)
        · go_upto_region 28 with fail
          cases Z5 with
          | true =>
            have hr' : r = firstV [keyE ky, whenE (decide (n < 0) || decide (3 < n)) 137, valE vl, whenE false 160] := hr.trans (by unfold bodyV; rw [hZ5]; rfl)
            clear hr
            subst hr'
            refine wp_region_held_drew (S := (fun w' => Below wc.heap.size wc w' ∧ w'.cell? ⟨w.heap.size, 1, none⟩ = some (.string nm) ∧ w'.cell? ⟨w.heap.size, 2, none⟩ = some (.string ot) ∧ w'.cell? ⟨w.heap.size, 3, none⟩ = some (.string ky) ∧ w'.cell? ⟨w.heap.size, 4, none⟩ = some (.string vl) ∧ w'.cell? ⟨w.heap.size, 5, none⟩ = some (.int .i64 n))) (by kernel_rfl) ?_ (fun hHeld => ?_)
            · (((try dsimp only); (repeat' apply And.intro); all_goals (first | assumption | ((repeat (first | (with_reducible exact Below.refl _ _) | (with_reducible assumption) | (with_reducible refine bel_al0 ?_ _) | (with_reducible refine bel_set ?_ (by first | (simp; done) | (simp; omega)) _) | (with_reducible refine bel_dr ?_) | (with_reducible refine bel_drn ?_ _) | (with_reducible refine bel_tr ?_ (by assumption)))); done) | go_keep)))
            refine wpAnyH_take (i := 0) (oi := _) (v := ?_) rfl (by kernel_rfl) (by kernel_rfl) (by kernel_rfl) (fun _ _ _ h => h) (Or.inl ⟨by rfl, ?_⟩) hHeld ?_
            rotate_left
            · intro W hSw; (try dsimp only at hSw); go_simp; (try with_reducible rfl)
            (try simp only [Act.put, List.setIfInBounds_toArray, List.set_cons_zero, List.set_cons_succ])
            refine wpAnyH_take (i := 1) (oi := _) (v := ?_) rfl (by kernel_rfl) (by kernel_rfl) (by kernel_rfl) (fun _ _ _ h => h) (Or.inl ⟨by rfl, ?_⟩) hHeld ?_
            rotate_left
            · intro W hSw; (try dsimp only at hSw); go_simp; (try with_reducible rfl)
            (try simp only [Act.put, List.setIfInBounds_toArray, List.set_cons_zero, List.set_cons_succ])
            refine wpAnyH_take (i := 3) (oi := _) (v := ?_) rfl (by kernel_rfl) (by kernel_rfl) (by kernel_rfl) (fun _ _ _ h => h) (Or.inl ⟨by rfl, ?_⟩) hHeld ?_
            rotate_left
            · intro W hSw; (try dsimp only at hSw); go_simp; (try with_reducible rfl)
            (try simp only [Act.put, List.setIfInBounds_toArray, List.set_cons_zero, List.set_cons_succ])
            refine wpAnyH_take (i := 4) (oi := _) (v := ?_) rfl (by kernel_rfl) (by kernel_rfl) (by kernel_rfl) (fun _ _ _ h => h) (Or.inl ⟨by rfl, ?_⟩) hHeld ?_
            rotate_left
            · intro W hSw; (try dsimp only at hSw); go_simp; (try with_reducible rfl)
            (try simp only [Act.put, List.setIfInBounds_toArray, List.set_cons_zero, List.set_cons_succ])
            refine wpAnyH_take (i := 6) (oi := _) (v := ?_) rfl (by kernel_rfl) (by kernel_rfl) (by kernel_rfl) (fun _ _ _ h => h) (Or.inl ⟨by rfl, ?_⟩) hHeld ?_
            rotate_left
            · intro W hSw; (try dsimp only at hSw); go_simp; (try with_reducible rfl)
            (try simp only [Act.put, List.setIfInBounds_toArray, List.set_cons_zero, List.set_cons_succ])
            refine wpAnyH_take (i := 7) (oi := _) (v := ?_) rfl (by kernel_rfl) (by kernel_rfl) (by kernel_rfl) (fun _ _ _ h => h) (Or.inl ⟨by rfl, ?_⟩) hHeld ?_
            rotate_left
            · intro W hSw; (try dsimp only at hSw); go_simp; (try with_reducible rfl)
            (try simp only [Act.put, List.setIfInBounds_toArray, List.set_cons_zero, List.set_cons_succ])
            refine wpAnyH_take (i := 9) (oi := _) (v := ?_) rfl (by kernel_rfl) (by kernel_rfl) (by kernel_rfl) (fun _ _ _ h => h) (Or.inl ⟨by rfl, ?_⟩) hHeld ?_
            rotate_left
            · intro W hSw; (try dsimp only at hSw); go_simp; (try with_reducible rfl)
            (try simp only [Act.put, List.setIfInBounds_toArray, List.set_cons_zero, List.set_cons_succ])
            refine wpAnyH_take (i := 10) (oi := _) (v := ?_) rfl (by kernel_rfl) (by kernel_rfl) (by kernel_rfl) (fun _ _ _ h => h) (Or.inl ⟨by rfl, ?_⟩) hHeld ?_
            rotate_left
            · intro W hSw; (try dsimp only at hSw); go_simp; (try with_reducible rfl)
            (try simp only [Act.put, List.setIfInBounds_toArray, List.set_cons_zero, List.set_cons_succ])
            refine wpAnyH_take (i := 11) (oi := _) (v := ?_) rfl (by kernel_rfl) (by kernel_rfl) (by kernel_rfl) (fun _ _ _ h => h) (Or.inl ⟨by rfl, ?_⟩) hHeld ?_
            rotate_left
            · intro W hSw; (try dsimp only at hSw); go_simp; (try with_reducible rfl)
            (try simp only [Act.put, List.setIfInBounds_toArray, List.set_cons_zero, List.set_cons_succ])
            refine wpAnyH_ready (rs := [2]) (by kernel_rfl) (by simp) ?_
            refine AllReadyH.cons (o := _) rfl (fun K hK => ?_) AllReadyH.nil
            go_simp
            refine (key_calls ky _).mono ?_; rintro e w2 ⟨rfl, rfl⟩
            go_wp2_with fail
            refine hK.out _ _ ?_ (fun hHeld => ?_)
            · (((try dsimp only); (repeat' apply And.intro); all_goals (first | assumption | ((repeat (first | (with_reducible exact Below.refl _ _) | (with_reducible assumption) | (with_reducible refine bel_al0 ?_ _) | (with_reducible refine bel_set ?_ (by first | (simp; done) | (simp; omega)) _) | (with_reducible refine bel_dr ?_) | (with_reducible refine bel_drn ?_ _) | (with_reducible refine bel_tr ?_ (by assumption)))); done) | go_keep)))
            clear hK K
            (try simp only [Act.put, List.setIfInBounds_toArray, List.set_cons_zero, List.set_cons_succ])
            refine wpAnyH_ready (rs := [5]) (by kernel_rfl) (by simp) ?_
            refine AllReadyH.cons (o := _) rfl (fun K hK => ?_) AllReadyH.nil
            go_simp
            refine (within_calls _ _ _ _).mono ?_; rintro e w2 ⟨rfl, rfl⟩
            go_wp2_with fail
            refine hK.out _ _ ?_ (fun hHeld => ?_)
            · (((try dsimp only); (repeat' apply And.intro); all_goals (first | assumption | ((repeat (first | (with_reducible exact Below.refl _ _) | (with_reducible assumption) | (with_reducible refine bel_al0 ?_ _) | (with_reducible refine bel_set ?_ (by first | (simp; done) | (simp; omega)) _) | (with_reducible refine bel_dr ?_) | (with_reducible refine bel_drn ?_ _) | (with_reducible refine bel_tr ?_ (by assumption)))); done) | go_keep)))
            clear hK K
            (try simp only [Act.put, List.setIfInBounds_toArray, List.set_cons_zero, List.set_cons_succ])
            refine wpAnyH_ready (rs := [8]) (by kernel_rfl) (by simp) ?_
            refine AllReadyH.cons (o := _) rfl (fun K hK => ?_) AllReadyH.nil
            go_simp
            refine (val_calls vl _).mono ?_; rintro e w2 ⟨rfl, rfl⟩
            go_wp2_with fail
            refine hK.out _ _ ?_ (fun hHeld => ?_)
            · (((try dsimp only); (repeat' apply And.intro); all_goals (first | assumption | ((repeat (first | (with_reducible exact Below.refl _ _) | (with_reducible assumption) | (with_reducible refine bel_al0 ?_ _) | (with_reducible refine bel_set ?_ (by first | (simp; done) | (simp; omega)) _) | (with_reducible refine bel_dr ?_) | (with_reducible refine bel_drn ?_ _) | (with_reducible refine bel_tr ?_ (by assumption)))); done) | go_keep)))
            clear hK K
            (try simp only [Act.put, List.setIfInBounds_toArray, List.set_cons_zero, List.set_cons_succ])
            refine wpAnyH_take (i := 12) (oi := _) (v := ?_) rfl (by kernel_rfl) (by kernel_rfl) (by kernel_rfl) (fun _ _ _ h => h) (Or.inl ⟨by rfl, ?_⟩) hHeld ?_
            rotate_left
            · intro W hSw; (try dsimp only at hSw); go_simp; (try with_reducible rfl)
            (try simp only [Act.put, List.setIfInBounds_toArray, List.set_cons_zero, List.set_cons_succ])
            refine wpAnyH_take (i := 13) (oi := _) (v := undef) rfl (by kernel_rfl) (by kernel_rfl) (by kernel_rfl) (fun _ _ _ h => h) (Or.inr ⟨by rfl, rfl⟩) hHeld ?_
            (try simp only [Act.put, List.setIfInBounds_toArray, List.set_cons_zero, List.set_cons_succ])
            refine wpAnyH_take (i := 14) (oi := _) (v := undef) rfl (by kernel_rfl) (by kernel_rfl) (by kernel_rfl) (fun _ _ _ h => h) (Or.inr ⟨by rfl, rfl⟩) hHeld ?_
            (try simp only [Act.put, List.setIfInBounds_toArray, List.set_cons_zero, List.set_cons_succ])
            refine wpAnyH_take (i := 15) (oi := _) (v := undef) rfl (by kernel_rfl) (by kernel_rfl) (by kernel_rfl) (fun _ _ _ h => h) (Or.inr ⟨by rfl, rfl⟩) hHeld ?_
            (try simp only [Act.put, List.setIfInBounds_toArray, List.set_cons_zero, List.set_cons_succ])
            refine wpAnyH_take (i := 16) (oi := _) (v := ?_) rfl (by kernel_rfl) (by kernel_rfl) (by kernel_rfl) (fun _ _ _ h => h) (Or.inl ⟨by rfl, ?_⟩) hHeld ?_
            rotate_left
            · intro W hSw; (try dsimp only at hSw); go_simp; (try with_reducible rfl)
            (try simp only [Act.put, List.setIfInBounds_toArray, List.set_cons_zero, List.set_cons_succ])
            refine wpAnyH_ready (rs := [17]) (by kernel_rfl) (by simp) ?_
            refine AllReadyH.cons (o := _) rfl (fun K hK => ?_) AllReadyH.nil
            go_simp
            refine (holds_calls _ _ _).mono ?_; rintro e w2 ⟨rfl, rfl⟩
            go_wp2_with fail
            refine hK.out _ _ ?_ (fun hHeld => ?_)
            · (((try dsimp only); (repeat' apply And.intro); all_goals (first | assumption | ((repeat (first | (with_reducible exact Below.refl _ _) | (with_reducible assumption) | (with_reducible refine bel_al0 ?_ _) | (with_reducible refine bel_set ?_ (by first | (simp; done) | (simp; omega)) _) | (with_reducible refine bel_dr ?_) | (with_reducible refine bel_drn ?_ _) | (with_reducible refine bel_tr ?_ (by assumption)))); done) | go_keep)))
            clear hK K
            (try simp only [Act.put, List.setIfInBounds_toArray, List.set_cons_zero, List.set_cons_succ])
            refine wpAnyH_ready (rs := [18]) (by kernel_rfl) (by simp) ?_
            refine AllReadyH.cons (o := _) rfl (fun K hK => ?_) AllReadyH.nil
            go_simp
            refine hK.out _ _ ?_ (fun hHeld => ?_)
            · (((try dsimp only); (repeat' apply And.intro); all_goals (first | assumption | ((repeat (first | (with_reducible exact Below.refl _ _) | (with_reducible assumption) | (with_reducible refine bel_al0 ?_ _) | (with_reducible refine bel_set ?_ (by first | (simp; done) | (simp; omega)) _) | (with_reducible refine bel_dr ?_) | (with_reducible refine bel_drn ?_ _) | (with_reducible refine bel_tr ?_ (by assumption)))); done) | go_keep)))
            clear hK K
            (try simp only [Act.put, List.setIfInBounds_toArray, List.set_cons_zero, List.set_cons_succ])
            refine wpAnyH_ready (rs := [19]) (by kernel_rfl) (by simp) ?_
            refine AllReadyH.cons (o := _) rfl (fun K hK => ?_) AllReadyH.nil
            go_simp
            refine (first4_calls _ _ 32 (keyE ky) (whenE (decide (n < 0) || decide (3 < n)) 137) (valE vl) (whenE false 160) (by first | exact blk_new _ _ _ | exact Blk.dr (blk_new _ _ _) | exact Blk.dr (Blk.dr (blk_new _ _ _)))).mono ?_; rintro e w6 ⟨rfl, rfl⟩
            go_wp2_with fail
            refine hK.out _ _ ?_ (fun hHeld => ?_)
            · (((try dsimp only); (repeat' apply And.intro); all_goals (first | assumption | ((repeat (first | (with_reducible exact Below.refl _ _) | (with_reducible assumption) | (with_reducible refine bel_al0 ?_ _) | (with_reducible refine bel_set ?_ (by first | (simp; done) | (simp; omega)) _) | (with_reducible refine bel_dr ?_) | (with_reducible refine bel_drn ?_ _) | (with_reducible refine bel_tr ?_ (by assumption)))); done) | go_keep)))
            clear hK K
            (try simp only [Act.put, List.setIfInBounds_toArray, List.set_cons_zero, List.set_cons_succ])
            refine wpAnyH_ready (rs := [20]) (by kernel_rfl) (by simp) ?_
            refine AllReadyH.cons (o := _) rfl (fun K hK => ?_) AllReadyH.nil
            go_simp
            refine hK.out _ _ ?_ (fun hHeld => ?_)
            · (((try dsimp only); (repeat' apply And.intro); all_goals (first | assumption | ((repeat (first | (with_reducible exact Below.refl _ _) | (with_reducible assumption) | (with_reducible refine bel_al0 ?_ _) | (with_reducible refine bel_set ?_ (by first | (simp; done) | (simp; omega)) _) | (with_reducible refine bel_dr ?_) | (with_reducible refine bel_drn ?_ _) | (with_reducible refine bel_tr ?_ (by assumption)))); done) | go_keep)))
            clear hK K
            (try simp only [Act.put, List.setIfInBounds_toArray, List.set_cons_zero, List.set_cons_succ])
            refine wpAnyH_done (by kernel_rfl) ?_ _
            go_wp2
            go_ret
            exact ⟨rfl, bel_tr hbwc (by first | assumption | ((repeat (first | (with_reducible exact Below.refl _ _) | (with_reducible assumption) | (with_reducible refine bel_al0 ?_ _) | (with_reducible refine bel_set ?_ (by first | (simp; done) | (simp; omega)) _) | (with_reducible refine bel_dr ?_) | (with_reducible refine bel_drn ?_ _) | (with_reducible refine bel_tr ?_ (by assumption))))))⟩
          | false =>
            have hr' : r = firstV [keyE ky, whenE (decide (n < 0) || decide (3 < n)) 137, valE vl, whenE (!vl.toList.isEmpty) 160] := hr.trans (by unfold bodyV; rw [hZ5]; rfl)
            clear hr
            subst hr'
            refine wp_region_held_drew (S := (fun w' => Below wc.heap.size wc w' ∧ w'.cell? ⟨w.heap.size, 1, none⟩ = some (.string nm) ∧ w'.cell? ⟨w.heap.size, 2, none⟩ = some (.string ot) ∧ w'.cell? ⟨w.heap.size, 3, none⟩ = some (.string ky) ∧ w'.cell? ⟨w.heap.size, 4, none⟩ = some (.string vl) ∧ w'.cell? ⟨w.heap.size, 5, none⟩ = some (.int .i64 n))) (by kernel_rfl) ?_ (fun hHeld => ?_)
            · (((try dsimp only); (repeat' apply And.intro); all_goals (first | assumption | ((repeat (first | (with_reducible exact Below.refl _ _) | (with_reducible assumption) | (with_reducible refine bel_al0 ?_ _) | (with_reducible refine bel_set ?_ (by first | (simp; done) | (simp; omega)) _) | (with_reducible refine bel_dr ?_) | (with_reducible refine bel_drn ?_ _) | (with_reducible refine bel_tr ?_ (by assumption)))); done) | go_keep)))
            refine wpAnyH_take (i := 0) (oi := _) (v := ?_) rfl (by kernel_rfl) (by kernel_rfl) (by kernel_rfl) (fun _ _ _ h => h) (Or.inl ⟨by rfl, ?_⟩) hHeld ?_
            rotate_left
            · intro W hSw; (try dsimp only at hSw); go_simp; (try with_reducible rfl)
            (try simp only [Act.put, List.setIfInBounds_toArray, List.set_cons_zero, List.set_cons_succ])
            refine wpAnyH_take (i := 1) (oi := _) (v := ?_) rfl (by kernel_rfl) (by kernel_rfl) (by kernel_rfl) (fun _ _ _ h => h) (Or.inl ⟨by rfl, ?_⟩) hHeld ?_
            rotate_left
            · intro W hSw; (try dsimp only at hSw); go_simp; (try with_reducible rfl)
            (try simp only [Act.put, List.setIfInBounds_toArray, List.set_cons_zero, List.set_cons_succ])
            refine wpAnyH_take (i := 3) (oi := _) (v := ?_) rfl (by kernel_rfl) (by kernel_rfl) (by kernel_rfl) (fun _ _ _ h => h) (Or.inl ⟨by rfl, ?_⟩) hHeld ?_
            rotate_left
            · intro W hSw; (try dsimp only at hSw); go_simp; (try with_reducible rfl)
            (try simp only [Act.put, List.setIfInBounds_toArray, List.set_cons_zero, List.set_cons_succ])
            refine wpAnyH_take (i := 4) (oi := _) (v := ?_) rfl (by kernel_rfl) (by kernel_rfl) (by kernel_rfl) (fun _ _ _ h => h) (Or.inl ⟨by rfl, ?_⟩) hHeld ?_
            rotate_left
            · intro W hSw; (try dsimp only at hSw); go_simp; (try with_reducible rfl)
            (try simp only [Act.put, List.setIfInBounds_toArray, List.set_cons_zero, List.set_cons_succ])
            refine wpAnyH_take (i := 6) (oi := _) (v := ?_) rfl (by kernel_rfl) (by kernel_rfl) (by kernel_rfl) (fun _ _ _ h => h) (Or.inl ⟨by rfl, ?_⟩) hHeld ?_
            rotate_left
            · intro W hSw; (try dsimp only at hSw); go_simp; (try with_reducible rfl)
            (try simp only [Act.put, List.setIfInBounds_toArray, List.set_cons_zero, List.set_cons_succ])
            refine wpAnyH_take (i := 7) (oi := _) (v := ?_) rfl (by kernel_rfl) (by kernel_rfl) (by kernel_rfl) (fun _ _ _ h => h) (Or.inl ⟨by rfl, ?_⟩) hHeld ?_
            rotate_left
            · intro W hSw; (try dsimp only at hSw); go_simp; (try with_reducible rfl)
            (try simp only [Act.put, List.setIfInBounds_toArray, List.set_cons_zero, List.set_cons_succ])
            refine wpAnyH_take (i := 9) (oi := _) (v := ?_) rfl (by kernel_rfl) (by kernel_rfl) (by kernel_rfl) (fun _ _ _ h => h) (Or.inl ⟨by rfl, ?_⟩) hHeld ?_
            rotate_left
            · intro W hSw; (try dsimp only at hSw); go_simp; (try with_reducible rfl)
            (try simp only [Act.put, List.setIfInBounds_toArray, List.set_cons_zero, List.set_cons_succ])
            refine wpAnyH_take (i := 10) (oi := _) (v := ?_) rfl (by kernel_rfl) (by kernel_rfl) (by kernel_rfl) (fun _ _ _ h => h) (Or.inl ⟨by rfl, ?_⟩) hHeld ?_
            rotate_left
            · intro W hSw; (try dsimp only at hSw); go_simp; (try with_reducible rfl)
            (try simp only [Act.put, List.setIfInBounds_toArray, List.set_cons_zero, List.set_cons_succ])
            refine wpAnyH_take (i := 11) (oi := _) (v := ?_) rfl (by kernel_rfl) (by kernel_rfl) (by kernel_rfl) (fun _ _ _ h => h) (Or.inl ⟨by rfl, ?_⟩) hHeld ?_
            rotate_left
            · intro W hSw; (try dsimp only at hSw); go_simp; (try with_reducible rfl)
            (try simp only [Act.put, List.setIfInBounds_toArray, List.set_cons_zero, List.set_cons_succ])
            refine wpAnyH_ready (rs := [2]) (by kernel_rfl) (by simp) ?_
            refine AllReadyH.cons (o := _) rfl (fun K hK => ?_) AllReadyH.nil
            go_simp
            refine (key_calls ky _).mono ?_; rintro e w2 ⟨rfl, rfl⟩
            go_wp2_with fail
            refine hK.out _ _ ?_ (fun hHeld => ?_)
            · (((try dsimp only); (repeat' apply And.intro); all_goals (first | assumption | ((repeat (first | (with_reducible exact Below.refl _ _) | (with_reducible assumption) | (with_reducible refine bel_al0 ?_ _) | (with_reducible refine bel_set ?_ (by first | (simp; done) | (simp; omega)) _) | (with_reducible refine bel_dr ?_) | (with_reducible refine bel_drn ?_ _) | (with_reducible refine bel_tr ?_ (by assumption)))); done) | go_keep)))
            clear hK K
            (try simp only [Act.put, List.setIfInBounds_toArray, List.set_cons_zero, List.set_cons_succ])
            refine wpAnyH_ready (rs := [5]) (by kernel_rfl) (by simp) ?_
            refine AllReadyH.cons (o := _) rfl (fun K hK => ?_) AllReadyH.nil
            go_simp
            refine (within_calls _ _ _ _).mono ?_; rintro e w2 ⟨rfl, rfl⟩
            go_wp2_with fail
            refine hK.out _ _ ?_ (fun hHeld => ?_)
            · (((try dsimp only); (repeat' apply And.intro); all_goals (first | assumption | ((repeat (first | (with_reducible exact Below.refl _ _) | (with_reducible assumption) | (with_reducible refine bel_al0 ?_ _) | (with_reducible refine bel_set ?_ (by first | (simp; done) | (simp; omega)) _) | (with_reducible refine bel_dr ?_) | (with_reducible refine bel_drn ?_ _) | (with_reducible refine bel_tr ?_ (by assumption)))); done) | go_keep)))
            clear hK K
            (try simp only [Act.put, List.setIfInBounds_toArray, List.set_cons_zero, List.set_cons_succ])
            refine wpAnyH_ready (rs := [8]) (by kernel_rfl) (by simp) ?_
            refine AllReadyH.cons (o := _) rfl (fun K hK => ?_) AllReadyH.nil
            go_simp
            refine (val_calls vl _).mono ?_; rintro e w2 ⟨rfl, rfl⟩
            go_wp2_with fail
            refine hK.out _ _ ?_ (fun hHeld => ?_)
            · (((try dsimp only); (repeat' apply And.intro); all_goals (first | assumption | ((repeat (first | (with_reducible exact Below.refl _ _) | (with_reducible assumption) | (with_reducible refine bel_al0 ?_ _) | (with_reducible refine bel_set ?_ (by first | (simp; done) | (simp; omega)) _) | (with_reducible refine bel_dr ?_) | (with_reducible refine bel_drn ?_ _) | (with_reducible refine bel_tr ?_ (by assumption)))); done) | go_keep)))
            clear hK K
            (try simp only [Act.put, List.setIfInBounds_toArray, List.set_cons_zero, List.set_cons_succ])
            refine wpAnyH_take (i := 12) (oi := _) (v := ?_) rfl (by kernel_rfl) (by kernel_rfl) (by kernel_rfl) (fun _ _ _ h => h) (Or.inl ⟨by rfl, ?_⟩) hHeld ?_
            rotate_left
            · intro W hSw; (try dsimp only at hSw); go_simp; (try with_reducible rfl)
            (try simp only [Act.put, List.setIfInBounds_toArray, List.set_cons_zero, List.set_cons_succ])
            refine wpAnyH_take (i := 13) (oi := _) (v := ?_) rfl (by kernel_rfl) (by kernel_rfl) (by kernel_rfl) (fun _ _ _ h => h) (Or.inl ⟨by rfl, ?_⟩) hHeld ?_
            rotate_left
            · intro W hSw; (try dsimp only at hSw); go_simp; (try with_reducible rfl)
            (try simp only [Act.put, List.setIfInBounds_toArray, List.set_cons_zero, List.set_cons_succ])
            refine wpAnyH_take (i := 14) (oi := _) (v := ?_) rfl (by kernel_rfl) (by kernel_rfl) (by kernel_rfl) (fun _ _ _ h => h) (Or.inl ⟨by rfl, ?_⟩) hHeld ?_
            rotate_left
            · intro W hSw; (try dsimp only at hSw); go_simp; (try with_reducible rfl)
            (try simp only [Act.put, List.setIfInBounds_toArray, List.set_cons_zero, List.set_cons_succ])
            refine wpAnyH_take (i := 15) (oi := _) (v := ?_) rfl (by kernel_rfl) (by kernel_rfl) (by kernel_rfl) (fun _ _ _ h => h) (Or.inl ⟨by rfl, ?_⟩) hHeld ?_
            rotate_left
            · intro W hSw; (try dsimp only at hSw); go_simp; (try with_reducible rfl)
            (try simp only [Act.put, List.setIfInBounds_toArray, List.set_cons_zero, List.set_cons_succ])
            refine wpAnyH_take (i := 16) (oi := _) (v := ?_) rfl (by kernel_rfl) (by kernel_rfl) (by kernel_rfl) (fun _ _ _ h => h) (Or.inl ⟨by rfl, ?_⟩) hHeld ?_
            rotate_left
            · intro W hSw; (try dsimp only at hSw); go_simp; (try with_reducible rfl)
            (try simp only [Act.put, List.setIfInBounds_toArray, List.set_cons_zero, List.set_cons_succ])
            refine wpAnyH_ready (rs := [17]) (by kernel_rfl) (by simp) ?_
            refine AllReadyH.cons (o := _) rfl (fun K hK => ?_) AllReadyH.nil
            go_simp
            refine (holds_calls _ _ _).mono ?_; rintro e w2 ⟨rfl, rfl⟩
            go_wp2_with fail
            refine hK.out _ _ ?_ (fun hHeld => ?_)
            · (((try dsimp only); (repeat' apply And.intro); all_goals (first | assumption | ((repeat (first | (with_reducible exact Below.refl _ _) | (with_reducible assumption) | (with_reducible refine bel_al0 ?_ _) | (with_reducible refine bel_set ?_ (by first | (simp; done) | (simp; omega)) _) | (with_reducible refine bel_dr ?_) | (with_reducible refine bel_drn ?_ _) | (with_reducible refine bel_tr ?_ (by assumption)))); done) | go_keep)))
            clear hK K
            (try simp only [Act.put, List.setIfInBounds_toArray, List.set_cons_zero, List.set_cons_succ])
            refine wpAnyH_ready (rs := [18]) (by kernel_rfl) (by simp) ?_
            refine AllReadyH.cons (o := _) rfl (fun K hK => ?_) AllReadyH.nil
            go_simp
            refine hK.out _ _ ?_ (fun hHeld => ?_)
            · (((try dsimp only); (repeat' apply And.intro); all_goals (first | assumption | ((repeat (first | (with_reducible exact Below.refl _ _) | (with_reducible assumption) | (with_reducible refine bel_al0 ?_ _) | (with_reducible refine bel_set ?_ (by first | (simp; done) | (simp; omega)) _) | (with_reducible refine bel_dr ?_) | (with_reducible refine bel_drn ?_ _) | (with_reducible refine bel_tr ?_ (by assumption)))); done) | go_keep)))
            clear hK K
            (try simp only [Act.put, List.setIfInBounds_toArray, List.set_cons_zero, List.set_cons_succ])
            refine wpAnyH_ready (rs := [19]) (by kernel_rfl) (by simp) ?_
            refine AllReadyH.cons (o := _) rfl (fun K hK => ?_) AllReadyH.nil
            go_simp
            refine (first4_calls _ _ 32 (keyE ky) (whenE (decide (n < 0) || decide (3 < n)) 137) (valE vl) (whenE (!vl.toList.isEmpty) 160) (by first | exact blk_new _ _ _ | exact Blk.dr (blk_new _ _ _) | exact Blk.dr (Blk.dr (blk_new _ _ _)))).mono ?_; rintro e w6 ⟨rfl, rfl⟩
            go_wp2_with fail
            refine hK.out _ _ ?_ (fun hHeld => ?_)
            · (((try dsimp only); (repeat' apply And.intro); all_goals (first | assumption | ((repeat (first | (with_reducible exact Below.refl _ _) | (with_reducible assumption) | (with_reducible refine bel_al0 ?_ _) | (with_reducible refine bel_set ?_ (by first | (simp; done) | (simp; omega)) _) | (with_reducible refine bel_dr ?_) | (with_reducible refine bel_drn ?_ _) | (with_reducible refine bel_tr ?_ (by assumption)))); done) | go_keep)))
            clear hK K
            (try simp only [Act.put, List.setIfInBounds_toArray, List.set_cons_zero, List.set_cons_succ])
            refine wpAnyH_ready (rs := [20]) (by kernel_rfl) (by simp) ?_
            refine AllReadyH.cons (o := _) rfl (fun K hK => ?_) AllReadyH.nil
            go_simp
            refine hK.out _ _ ?_ (fun hHeld => ?_)
            · (((try dsimp only); (repeat' apply And.intro); all_goals (first | assumption | ((repeat (first | (with_reducible exact Below.refl _ _) | (with_reducible assumption) | (with_reducible refine bel_al0 ?_ _) | (with_reducible refine bel_set ?_ (by first | (simp; done) | (simp; omega)) _) | (with_reducible refine bel_dr ?_) | (with_reducible refine bel_drn ?_ _) | (with_reducible refine bel_tr ?_ (by assumption)))); done) | go_keep)))
            clear hK K
            (try simp only [Act.put, List.setIfInBounds_toArray, List.set_cons_zero, List.set_cons_succ])
            refine wpAnyH_done (by kernel_rfl) ?_ _
            go_wp2
            go_ret
            exact ⟨rfl, bel_tr hbwc (by first | assumption | ((repeat (first | (with_reducible exact Below.refl _ _) | (with_reducible assumption) | (with_reducible refine bel_al0 ?_ _) | (with_reducible refine bel_set ?_ (by first | (simp; done) | (simp; omega)) _) | (with_reducible refine bel_dr ?_) | (with_reducible refine bel_drn ?_ _) | (with_reducible refine bel_tr ?_ (by assumption))))))⟩
        · have hr' : r = 0 := hr.trans (by unfold bodyV; simp)
          clear hr
          subst hr'
          go_wp2_with fail
          go_ret
          exact ⟨rfl, bel_tr hbwc (by (repeat (first | (with_reducible exact Below.refl _ _) | (with_reducible assumption) | (with_reducible refine bel_al0 ?_ _) | (with_reducible refine bel_set ?_ (by first | (simp; done) | (simp; omega)) _) | (with_reducible refine bel_dr ?_) | (with_reducible refine bel_drn ?_ _) | (with_reducible refine bel_tr ?_ (by assumption)))))⟩
        · have hr' : r = refE ot false := hr.trans (by unfold bodyV; simp)
          clear hr
          subst hr'
          go_wp2_with ((go_at_call 50; refine (HR1.out _ (bel_tr hbwc (by (repeat (first | (with_reducible exact Below.refl _ _) | (with_reducible assumption) | (with_reducible refine bel_al0 ?_ _) | (with_reducible refine bel_set ?_ (by first | (simp; done) | (simp; omega)) _) | (with_reducible refine bel_dr ?_) | (with_reducible refine bel_drn ?_ _) | (with_reducible refine bel_tr ?_ (by assumption)))))) _ (by assumption) _).mono ?_; rintro e w5 ⟨rfl, hb5⟩; have hb6 : Below wc.heap.size wc w5 := bel_tr (by (repeat (first | (with_reducible exact Below.refl _ _) | (with_reducible assumption) | (with_reducible refine bel_al0 ?_ _) | (with_reducible refine bel_set ?_ (by first | (simp; done) | (simp; omega)) _) | (with_reducible refine bel_dr ?_) | (with_reducible refine bel_drn ?_ _) | (with_reducible refine bel_tr ?_ (by assumption))))) hb5; have q1 := cell_bel x1 hb6; have q2 := cell_bel x2 hb6; have q3 := cell_bel x3 hb6; have q4 := cell_bel x4 hb6; have q5 := cell_bel x5 hb6))
          go_ret
          exact ⟨rfl, bel_tr hbwc (by (repeat (first | (with_reducible exact Below.refl _ _) | (with_reducible assumption) | (with_reducible refine bel_al0 ?_ _) | (with_reducible refine bel_set ?_ (by first | (simp; done) | (simp; omega)) _) | (with_reducible refine bel_dr ?_) | (with_reducible refine bel_drn ?_ _) | (with_reducible refine bel_tr ?_ (by assumption)))))⟩
        · have hr' : r = refE ot false := hr.trans (by unfold bodyV; simp)
          clear hr
          subst hr'
          go_wp2_with ((go_at_call 50; refine (HR1.out _ (bel_tr hbwc (by (repeat (first | (with_reducible exact Below.refl _ _) | (with_reducible assumption) | (with_reducible refine bel_al0 ?_ _) | (with_reducible refine bel_set ?_ (by first | (simp; done) | (simp; omega)) _) | (with_reducible refine bel_dr ?_) | (with_reducible refine bel_drn ?_ _) | (with_reducible refine bel_tr ?_ (by assumption)))))) _ (by assumption) _).mono ?_; rintro e w5 ⟨rfl, hb5⟩; have hb6 : Below wc.heap.size wc w5 := bel_tr (by (repeat (first | (with_reducible exact Below.refl _ _) | (with_reducible assumption) | (with_reducible refine bel_al0 ?_ _) | (with_reducible refine bel_set ?_ (by first | (simp; done) | (simp; omega)) _) | (with_reducible refine bel_dr ?_) | (with_reducible refine bel_drn ?_ _) | (with_reducible refine bel_tr ?_ (by assumption))))) hb5; have q1 := cell_bel x1 hb6; have q2 := cell_bel x2 hb6; have q3 := cell_bel x3 hb6; have q4 := cell_bel x4 hb6; have q5 := cell_bel x5 hb6))
          go_ret
          exact ⟨rfl, bel_tr hbwc (by (repeat (first | (with_reducible exact Below.refl _ _) | (with_reducible assumption) | (with_reducible refine bel_al0 ?_ _) | (with_reducible refine bel_set ?_ (by first | (simp; done) | (simp; omega)) _) | (with_reducible refine bel_dr ?_) | (with_reducible refine bel_drn ?_ _) | (with_reducible refine bel_tr ?_ (by assumption)))))⟩
        · have hr' : r = firstV [refE nm true, refE ot true] := hr.trans (by unfold bodyV; simp)
          clear hr
          subst hr'
          go_upto_region 31 with fail
          go_region_held3 (fun w' => Below wc.heap.size wc w' ∧ w'.cell? ⟨w.heap.size, 1, none⟩ = some (.string nm) ∧ w'.cell? ⟨w.heap.size, 2, none⟩ = some (.string ot) ∧ w'.cell? ⟨w.heap.size, 3, none⟩ = some (.string ky) ∧ w'.cell? ⟨w.heap.size, 4, none⟩ = some (.string vl) ∧ w'.cell? ⟨w.heap.size, 5, none⟩ = some (.int .i64 n)) (((try dsimp only); (repeat' apply And.intro); all_goals (first | assumption | ((repeat (first | (with_reducible exact Below.refl _ _) | (with_reducible assumption) | (with_reducible refine bel_al0 ?_ _) | (with_reducible refine bel_set ?_ (by first | (simp; done) | (simp; omega)) _) | (with_reducible refine bel_dr ?_) | (with_reducible refine bel_drn ?_ _) | (with_reducible refine bel_tr ?_ (by assumption)))); done) | go_keep))) (first | (go_at_call 50; refine (HR1.out _ (bel_tr hbwc (by (repeat (first | (with_reducible exact Below.refl _ _) | (with_reducible assumption) | (with_reducible refine bel_al0 ?_ _) | (with_reducible refine bel_set ?_ (by first | (simp; done) | (simp; omega)) _) | (with_reducible refine bel_dr ?_) | (with_reducible refine bel_drn ?_ _) | (with_reducible refine bel_tr ?_ (by assumption)))))) _ (by assumption) _).mono ?_; rintro e w5 ⟨rfl, hb5⟩; have hb6 : Below wc.heap.size wc w5 := bel_tr (by (repeat (first | (with_reducible exact Below.refl _ _) | (with_reducible assumption) | (with_reducible refine bel_al0 ?_ _) | (with_reducible refine bel_set ?_ (by first | (simp; done) | (simp; omega)) _) | (with_reducible refine bel_dr ?_) | (with_reducible refine bel_drn ?_ _) | (with_reducible refine bel_tr ?_ (by assumption))))) hb5; have q1 := cell_bel x1 hb6; have q2 := cell_bel x2 hb6; have q3 := cell_bel x3 hb6; have q4 := cell_bel x4 hb6; have q5 := cell_bel x5 hb6) | (go_at_call 44; refine (first2_calls _ _ 32 (refE nm true) (refE ot true) (by first | exact blk_new _ _ _ | exact Blk.dr (blk_new _ _ _) | exact Blk.dr (Blk.dr (blk_new _ _ _)))).mono ?_; rintro e w6 ⟨rfl, rfl⟩))
          all_goals (
            go_wp2
            go_ret
            exact ⟨rfl, bel_tr hbwc (by first | assumption | ((repeat (first | (with_reducible exact Below.refl _ _) | (with_reducible assumption) | (with_reducible refine bel_al0 ?_ _) | (with_reducible refine bel_set ?_ (by first | (simp; done) | (simp; omega)) _) | (with_reducible refine bel_dr ?_) | (with_reducible refine bel_drn ?_ _) | (with_reducible refine bel_tr ?_ (by assumption))))))⟩)
        · have hr' : r = firstV [refE ot true, whenE (decide (n < 0) || decide (9223372036854775807 < n)) 1] := hr.trans (by unfold bodyV; simp)
          clear hr
          subst hr'
          go_upto_region 33 with fail
          go_region_held3 (fun w' => Below wc.heap.size wc w' ∧ w'.cell? ⟨w.heap.size, 1, none⟩ = some (.string nm) ∧ w'.cell? ⟨w.heap.size, 2, none⟩ = some (.string ot) ∧ w'.cell? ⟨w.heap.size, 3, none⟩ = some (.string ky) ∧ w'.cell? ⟨w.heap.size, 4, none⟩ = some (.string vl) ∧ w'.cell? ⟨w.heap.size, 5, none⟩ = some (.int .i64 n)) (((try dsimp only); (repeat' apply And.intro); all_goals (first | assumption | ((repeat (first | (with_reducible exact Below.refl _ _) | (with_reducible assumption) | (with_reducible refine bel_al0 ?_ _) | (with_reducible refine bel_set ?_ (by first | (simp; done) | (simp; omega)) _) | (with_reducible refine bel_dr ?_) | (with_reducible refine bel_drn ?_ _) | (with_reducible refine bel_tr ?_ (by assumption)))); done) | go_keep))) (first | (go_at_call 50; refine (HR1.out _ (bel_tr hbwc (by (repeat (first | (with_reducible exact Below.refl _ _) | (with_reducible assumption) | (with_reducible refine bel_al0 ?_ _) | (with_reducible refine bel_set ?_ (by first | (simp; done) | (simp; omega)) _) | (with_reducible refine bel_dr ?_) | (with_reducible refine bel_drn ?_ _) | (with_reducible refine bel_tr ?_ (by assumption)))))) _ (by assumption) _).mono ?_; rintro e w5 ⟨rfl, hb5⟩; have hb6 : Below wc.heap.size wc w5 := bel_tr (by (repeat (first | (with_reducible exact Below.refl _ _) | (with_reducible assumption) | (with_reducible refine bel_al0 ?_ _) | (with_reducible refine bel_set ?_ (by first | (simp; done) | (simp; omega)) _) | (with_reducible refine bel_dr ?_) | (with_reducible refine bel_drn ?_ _) | (with_reducible refine bel_tr ?_ (by assumption))))) hb5; have q1 := cell_bel x1 hb6; have q2 := cell_bel x2 hb6; have q3 := cell_bel x3 hb6; have q4 := cell_bel x4 hb6; have q5 := cell_bel x5 hb6) | (go_at_call 47; refine (within_calls _ _ _ _).mono ?_; rintro e w2 ⟨rfl, rfl⟩) | (go_at_call 44; refine (first2_calls _ _ 32 (refE ot true) (whenE (decide (n < 0) || decide (9223372036854775807 < n)) 1) (by first | exact blk_new _ _ _ | exact Blk.dr (blk_new _ _ _) | exact Blk.dr (Blk.dr (blk_new _ _ _)))).mono ?_; rintro e w6 ⟨rfl, rfl⟩))
          all_goals (
            go_wp2
            go_ret
            exact ⟨rfl, bel_tr hbwc (by first | assumption | ((repeat (first | (with_reducible exact Below.refl _ _) | (with_reducible assumption) | (with_reducible refine bel_al0 ?_ _) | (with_reducible refine bel_set ?_ (by first | (simp; done) | (simp; omega)) _) | (with_reducible refine bel_dr ?_) | (with_reducible refine bel_drn ?_ _) | (with_reducible refine bel_tr ?_ (by assumption))))))⟩)
        · have hr' : r = firstV [refE nm true, refE ot true] := hr.trans (by unfold bodyV; simp)
          clear hr
          subst hr'
          go_upto_region 31 with fail
          go_region_held3 (fun w' => Below wc.heap.size wc w' ∧ w'.cell? ⟨w.heap.size, 1, none⟩ = some (.string nm) ∧ w'.cell? ⟨w.heap.size, 2, none⟩ = some (.string ot) ∧ w'.cell? ⟨w.heap.size, 3, none⟩ = some (.string ky) ∧ w'.cell? ⟨w.heap.size, 4, none⟩ = some (.string vl) ∧ w'.cell? ⟨w.heap.size, 5, none⟩ = some (.int .i64 n)) (((try dsimp only); (repeat' apply And.intro); all_goals (first | assumption | ((repeat (first | (with_reducible exact Below.refl _ _) | (with_reducible assumption) | (with_reducible refine bel_al0 ?_ _) | (with_reducible refine bel_set ?_ (by first | (simp; done) | (simp; omega)) _) | (with_reducible refine bel_dr ?_) | (with_reducible refine bel_drn ?_ _) | (with_reducible refine bel_tr ?_ (by assumption)))); done) | go_keep))) (first | (go_at_call 50; refine (HR1.out _ (bel_tr hbwc (by (repeat (first | (with_reducible exact Below.refl _ _) | (with_reducible assumption) | (with_reducible refine bel_al0 ?_ _) | (with_reducible refine bel_set ?_ (by first | (simp; done) | (simp; omega)) _) | (with_reducible refine bel_dr ?_) | (with_reducible refine bel_drn ?_ _) | (with_reducible refine bel_tr ?_ (by assumption)))))) _ (by assumption) _).mono ?_; rintro e w5 ⟨rfl, hb5⟩; have hb6 : Below wc.heap.size wc w5 := bel_tr (by (repeat (first | (with_reducible exact Below.refl _ _) | (with_reducible assumption) | (with_reducible refine bel_al0 ?_ _) | (with_reducible refine bel_set ?_ (by first | (simp; done) | (simp; omega)) _) | (with_reducible refine bel_dr ?_) | (with_reducible refine bel_drn ?_ _) | (with_reducible refine bel_tr ?_ (by assumption))))) hb5; have q1 := cell_bel x1 hb6; have q2 := cell_bel x2 hb6; have q3 := cell_bel x3 hb6; have q4 := cell_bel x4 hb6; have q5 := cell_bel x5 hb6) | (go_at_call 44; refine (first2_calls _ _ 32 (refE nm true) (refE ot true) (by first | exact blk_new _ _ _ | exact Blk.dr (blk_new _ _ _) | exact Blk.dr (Blk.dr (blk_new _ _ _)))).mono ?_; rintro e w6 ⟨rfl, rfl⟩))
          all_goals (
            go_wp2
            go_ret
            exact ⟨rfl, bel_tr hbwc (by first | assumption | ((repeat (first | (with_reducible exact Below.refl _ _) | (with_reducible assumption) | (with_reducible refine bel_al0 ?_ _) | (with_reducible refine bel_set ?_ (by first | (simp; done) | (simp; omega)) _) | (with_reducible refine bel_dr ?_) | (with_reducible refine bel_drn ?_ _) | (with_reducible refine bel_tr ?_ (by assumption))))))⟩)
        · have hr' : r = 0 := hr.trans (by unfold bodyV; simp)
          clear hr
          subst hr'
          go_wp2_with fail
          go_ret
          exact ⟨rfl, bel_tr hbwc (by (repeat (first | (with_reducible exact Below.refl _ _) | (with_reducible assumption) | (with_reducible refine bel_al0 ?_ _) | (with_reducible refine bel_set ?_ (by first | (simp; done) | (simp; omega)) _) | (with_reducible refine bel_dr ?_) | (with_reducible refine bel_drn ?_ _) | (with_reducible refine bel_tr ?_ (by assumption)))))⟩
        · have hr' : r = 0 := hr.trans (by unfold bodyV; simp)
          clear hr
          subst hr'
          go_wp2_with fail
          go_ret
          exact ⟨rfl, bel_tr hbwc (by (repeat (first | (with_reducible exact Below.refl _ _) | (with_reducible assumption) | (with_reducible refine bel_al0 ?_ _) | (with_reducible refine bel_set ?_ (by first | (simp; done) | (simp; omega)) _) | (with_reducible refine bel_dr ?_) | (with_reducible refine bel_drn ?_ _) | (with_reducible refine bel_tr ?_ (by assumption)))))⟩
end Go.Proofs.YtehneliphhgegaaDoor
