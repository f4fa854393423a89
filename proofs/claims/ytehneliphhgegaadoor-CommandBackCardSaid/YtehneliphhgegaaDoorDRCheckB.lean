/- The document's Check (chapter 19): walked, a theorem for each kind. Written by gen-drcheck.py. -/
import Derived.Test.YtehneliphhgegaaDoorDCheckV
import Derived.Deep.CutBlock
set_option linter.unusedVariables false
set_option linter.unusedSimpArgs false
set_option maxRecDepth 100000
namespace Go.Proofs.YtehneliphhgegaaDoor
open Go.RowKit Go.Apo

set_option maxHeartbeats 16000000 in
theorem rcheck_6 (nm ot ky vl : ByteArray) (n : Int) (h1 : nm.size ≤ 1000000) (h2 : ot.size ≤ 1000000) (h3 : ky.size ≤ 1000000) (h4 : vl.size ≤ 1000000) (hn : n ≤ 9223372036854775807) (w : World) :
    Calls Tryd.prog 18 #[.agg #[.int .i64 6, .string nm, .string ot, .string ky, .string vl, .int .i64 n]] w fun e w' => e = .returned (.int .i64 (checkV 6 nm ot ky vl n)) ∧ Below w.heap.size w w' := by
  have HNO := Lib.hid (@checkV_no 6 nm ot ky vl n)
  have HBY := Lib.hid (fun h => @checkV_yes 6 nm ot ky vl n rfl h)
  have HZ : Hid (zeroV 6 nm ot ky vl n = ((bN 6 || nm.toList.isEmpty) && ((bO 6 || ot.toList.isEmpty) && ((bK 6 || ky.toList.isEmpty) && ((bV 6 || vl.toList.isEmpty) && (bI 6 || (n == 0))))))) := rfl
  obtain ⟨r, hr⟩ : ∃ r, r = checkV 6 nm ot ky vl n := ⟨_, rfl⟩
  rw [← hr] at HNO HBY ⊢
  clear hr
  have HC0 := Lib.hid (blk_new w #[.int .i64 6, .string nm, .string ot, .string ky, .string vl, .int .i64 n] 30)
  have HB : Hid (bodyV 6 nm ot ky vl n = firstV [whenE (!nameB nm) 110, refE ot true]) := by show _ = _; exact by unfold bodyV; simp [firstV_one, firstV]
  go_enter Tryd.func18, Tryd.ntmps18
  go_upto_region 20 with fail
  have X0 := blk_new (w.alloc (.cells #[.int .i64 6, .string nm, .string ot, .string ky, .string vl, .int .i64 n] 30)) #[.int .i64 6, .string ⟨#[]⟩, .string ⟨#[]⟩, .string ⟨#[]⟩, .string ⟨#[]⟩, .int .i64 0] 30
  rw [World.size_alloc] at X0
  have C0 := HC0.out.al (.cells #[.int .i64 6, .string ⟨#[]⟩, .string ⟨#[]⟩, .string ⟨#[]⟩, .string ⟨#[]⟩, .int .i64 0] 30)
  obtain ⟨W2, hW2⟩ : ∃ W2, W2 = (w.alloc (.cells #[.int .i64 6, .string nm, .string ot, .string ky, .string vl, .int .i64 n] 30)).alloc (.cells #[.int .i64 6, .string ⟨#[]⟩, .string ⟨#[]⟩, .string ⟨#[]⟩, .string ⟨#[]⟩, .int .i64 0] 30) := ⟨_, rfl⟩
  have hbw2 : Below w.heap.size w W2 := by rw [hW2]; (repeat (first | (with_reducible exact Below.refl _ _) | (with_reducible assumption) | (with_reducible refine bel_al0 ?_ _) | (with_reducible refine bel_set ?_ (by first | (simp; done) | (simp; omega)) _) | (with_reducible refine bel_dr ?_) | (with_reducible refine bel_drn ?_ _) | (with_reducible refine bel_tr ?_ (by assumption))))
  rw [← hW2] at X0 C0 ⊢
  clear hW2
  obtain ⟨q0, q1, q2, q3, q4, q5, qf⟩ := blk_six C0
  obtain ⟨p0, p1, p2, p3, p4, p5, pf⟩ := blk_six X0
  have hl6 := cell_lt q0
  have hl7 := cell_lt p0
  have HX0 := Lib.hid X0; clear X0
  have HC1 := Lib.hid C0; clear C0
  go_cut [76] from 76 to 81 (fun _ wx => Hid (Blk wx (w.heap.size + 1) #[.int .i64 6, .string nm, .string ot, .string ⟨#[]⟩, .string ⟨#[]⟩, .int .i64 0] 30) ∧ Hid (Blk wx w.heap.size #[.int .i64 6, .string nm, .string ot, .string ky, .string vl, .int .i64 n] 30) ∧ Below w.heap.size w wx)
  case first =>
    go_region
    all_goals (
      go_wp2
      go_meet
      exact ⟨((HX0.out.set 1 (.string nm)).set 2 (.string ot)), ((HC1.out.other (by omega) 1 (.string nm)).other (by omega) 2 (.string ot)), by (repeat (first | (with_reducible exact Below.refl _ _) | (with_reducible assumption) | (with_reducible refine bel_al0 ?_ _) | (with_reducible refine bel_set ?_ (by first | (simp; done) | (simp; omega)) _) | (with_reducible refine bel_dr ?_) | (with_reducible refine bel_drn ?_ _) | (with_reducible refine bel_tr ?_ (by assumption))))⟩)
  case rest =>
    obtain ⟨HX, HC, hbwc⟩ := hcut
    clear q0 q1 q2 q3 q4 q5 p0 p1 p2 p3 p4 p5 qf pf hl6 hl7 HX0 HC1 HC0 hbw2
    obtain ⟨q0, q1, q2, q3, q4, q5, qf⟩ := blk_six HC.out
    obtain ⟨p0, p1, p2, p3, p4, p5, pf⟩ := blk_six HX.out
    have hl6 := cell_lt q0
    have hl7 := cell_lt p0
    go_upto_region 21 with fail
    go_region_held3 (fun w' => Below wc.heap.size wc w' ∧ w'.cell? ⟨w.heap.size, 1, none⟩ = some (.string nm) ∧ w'.cell? ⟨w.heap.size, 2, none⟩ = some (.string ot) ∧ w'.cell? ⟨w.heap.size, 3, none⟩ = some (.string ky) ∧ w'.cell? ⟨w.heap.size, 4, none⟩ = some (.string vl) ∧ w'.cell? ⟨w.heap.size, 5, none⟩ = some (.int .i64 n)) (((try dsimp only); (repeat' apply And.intro); all_goals (first | assumption | ((repeat (first | (with_reducible exact Below.refl _ _) | (with_reducible assumption) | (with_reducible refine bel_al0 ?_ _) | (with_reducible refine bel_set ?_ (by first | (simp; done) | (simp; omega)) _) | (with_reducible refine bel_dr ?_) | (with_reducible refine bel_drn ?_ _) | (with_reducible refine bel_tr ?_ (by assumption)))); done) | go_keep))) (first | (go_at_call 41; refine (rname_calls nm h1 _).mono ?_; rintro e w2 ⟨rfl, rfl⟩) | (go_at_call 53; refine (when_calls _ _ _).mono ?_; rintro e w2 ⟨rfl, rfl⟩) | (go_at_call 55; refine (rneeds_calls _ (by assumption) _ _).mono ?_; rintro e w5 ⟨rfl, hb5⟩; have hb6 : Below wc.heap.size wc w5 := bel_tr (by (repeat (first | (with_reducible exact Below.refl _ _) | (with_reducible assumption) | (with_reducible refine bel_al0 ?_ _) | (with_reducible refine bel_set ?_ (by first | (simp; done) | (simp; omega)) _) | (with_reducible refine bel_dr ?_) | (with_reducible refine bel_drn ?_ _) | (with_reducible refine bel_tr ?_ (by assumption))))) hb5; obtain ⟨q0, q1, q2, q3, q4, q5, _⟩ := blk_six (HC.out.below hb6); obtain ⟨p0, p1, p2, p3, p4, p5, _⟩ := blk_six (HX.out.below hb6); have hl6 := cell_lt q0; have hl7 := cell_lt p0))
    go_upto_region 47 with fail
    obtain ⟨z_ky, hz_ky⟩ : ∃ b, b = ky.toList.isEmpty := ⟨_, rfl⟩
    replace hz_ky := hz_ky.symm
    cases z_ky with
    | false =>
      have hr := HNO.out (Or.inr (by rw [HZ.out, hz_ky]; rfl))
      subst hr
      clear HNO HBY HZ HB
      go_wp2
      go_ret
      exact ⟨rfl, bel_tr hbwc (by (repeat (first | (with_reducible exact Below.refl _ _) | (with_reducible assumption) | (with_reducible refine bel_al0 ?_ _) | (with_reducible refine bel_set ?_ (by first | (simp; done) | (simp; omega)) _) | (with_reducible refine bel_dr ?_) | (with_reducible refine bel_drn ?_ _) | (with_reducible refine bel_tr ?_ (by assumption)))))⟩
    | true =>
      obtain ⟨z_vl, hz_vl⟩ : ∃ b, b = vl.toList.isEmpty := ⟨_, rfl⟩
      replace hz_vl := hz_vl.symm
      cases z_vl with
      | false =>
        have hr := HNO.out (Or.inr (by rw [HZ.out, hz_ky, hz_vl]; rfl))
        subst hr
        clear HNO HBY HZ HB
        go_wp2
        go_ret
        exact ⟨rfl, bel_tr hbwc (by (repeat (first | (with_reducible exact Below.refl _ _) | (with_reducible assumption) | (with_reducible refine bel_al0 ?_ _) | (with_reducible refine bel_set ?_ (by first | (simp; done) | (simp; omega)) _) | (with_reducible refine bel_dr ?_) | (with_reducible refine bel_drn ?_ _) | (with_reducible refine bel_tr ?_ (by assumption)))))⟩
      | true =>
        obtain ⟨z_n, hz_n⟩ : ∃ b, b = (n == 0) := ⟨_, rfl⟩
        replace hz_n := hz_n.symm
        have hz_m : ((0 : Int) == n) = z_n := by rw [← hz_n, Bool.eq_iff_iff]; simp; exact eq_comm
        cases z_n with
        | false =>
          have hr := HNO.out (Or.inr (by rw [HZ.out, hz_ky, hz_vl, hz_n]; rfl))
          subst hr
          clear HNO HBY HZ HB
          go_wp2
          go_ret
          exact ⟨rfl, bel_tr hbwc (by (repeat (first | (with_reducible exact Below.refl _ _) | (with_reducible assumption) | (with_reducible refine bel_al0 ?_ _) | (with_reducible refine bel_set ?_ (by first | (simp; done) | (simp; omega)) _) | (with_reducible refine bel_dr ?_) | (with_reducible refine bel_drn ?_ _) | (with_reducible refine bel_tr ?_ (by assumption)))))⟩
        | true =>
          have hr := (HBY.out (by rw [HZ.out, hz_ky, hz_vl, hz_n]; rfl)).trans HB.out
          subst hr
          clear HNO HBY HZ HB
          go_wp2_with (go_at_call 56; refine (rfirst2_calls _ _ 3 (whenE (!nameB nm) 110) (refE ot true) (by first | exact blk_new _ _ _ | exact Blk.dr (blk_new _ _ _) | exact Blk.dr (Blk.dr (blk_new _ _ _)))).mono ?_; rintro e w6 ⟨rfl, rfl⟩)
          go_ret
          exact ⟨rfl, bel_tr hbwc (by (repeat (first | (with_reducible exact Below.refl _ _) | (with_reducible assumption) | (with_reducible refine bel_al0 ?_ _) | (with_reducible refine bel_set ?_ (by first | (simp; done) | (simp; omega)) _) | (with_reducible refine bel_dr ?_) | (with_reducible refine bel_drn ?_ _) | (with_reducible refine bel_tr ?_ (by assumption)))))⟩
set_option maxHeartbeats 16000000 in
theorem rcheck_7 (nm ot ky vl : ByteArray) (n : Int) (h1 : nm.size ≤ 1000000) (h2 : ot.size ≤ 1000000) (h3 : ky.size ≤ 1000000) (h4 : vl.size ≤ 1000000) (hn : n ≤ 9223372036854775807) (w : World) :
    Calls Tryd.prog 18 #[.agg #[.int .i64 7, .string nm, .string ot, .string ky, .string vl, .int .i64 n]] w fun e w' => e = .returned (.int .i64 (checkV 7 nm ot ky vl n)) ∧ Below w.heap.size w w' := by
  have HNO := Lib.hid (@checkV_no 7 nm ot ky vl n)
  have HBY := Lib.hid (fun h => @checkV_yes 7 nm ot ky vl n rfl h)
  have HZ : Hid (zeroV 7 nm ot ky vl n = ((bN 7 || nm.toList.isEmpty) && ((bO 7 || ot.toList.isEmpty) && ((bK 7 || ky.toList.isEmpty) && ((bV 7 || vl.toList.isEmpty) && (bI 7 || (n == 0))))))) := rfl
  obtain ⟨r, hr⟩ : ∃ r, r = checkV 7 nm ot ky vl n := ⟨_, rfl⟩
  rw [← hr] at HNO HBY ⊢
  clear hr
  have HC0 := Lib.hid (blk_new w #[.int .i64 7, .string nm, .string ot, .string ky, .string vl, .int .i64 n] 30)
  have HB : Hid (bodyV 7 nm ot ky vl n = firstV [whenE (!nameB nm) 110, refE ot true]) := by show _ = _; exact by unfold bodyV; simp [firstV_one, firstV]
  go_enter Tryd.func18, Tryd.ntmps18
  go_upto_region 20 with fail
  have X0 := blk_new (w.alloc (.cells #[.int .i64 7, .string nm, .string ot, .string ky, .string vl, .int .i64 n] 30)) #[.int .i64 7, .string ⟨#[]⟩, .string ⟨#[]⟩, .string ⟨#[]⟩, .string ⟨#[]⟩, .int .i64 0] 30
  rw [World.size_alloc] at X0
  have C0 := HC0.out.al (.cells #[.int .i64 7, .string ⟨#[]⟩, .string ⟨#[]⟩, .string ⟨#[]⟩, .string ⟨#[]⟩, .int .i64 0] 30)
  obtain ⟨W2, hW2⟩ : ∃ W2, W2 = (w.alloc (.cells #[.int .i64 7, .string nm, .string ot, .string ky, .string vl, .int .i64 n] 30)).alloc (.cells #[.int .i64 7, .string ⟨#[]⟩, .string ⟨#[]⟩, .string ⟨#[]⟩, .string ⟨#[]⟩, .int .i64 0] 30) := ⟨_, rfl⟩
  have hbw2 : Below w.heap.size w W2 := by rw [hW2]; (repeat (first | (with_reducible exact Below.refl _ _) | (with_reducible assumption) | (with_reducible refine bel_al0 ?_ _) | (with_reducible refine bel_set ?_ (by first | (simp; done) | (simp; omega)) _) | (with_reducible refine bel_dr ?_) | (with_reducible refine bel_drn ?_ _) | (with_reducible refine bel_tr ?_ (by assumption))))
  rw [← hW2] at X0 C0 ⊢
  clear hW2
  obtain ⟨q0, q1, q2, q3, q4, q5, qf⟩ := blk_six C0
  obtain ⟨p0, p1, p2, p3, p4, p5, pf⟩ := blk_six X0
  have hl6 := cell_lt q0
  have hl7 := cell_lt p0
  have HX0 := Lib.hid X0; clear X0
  have HC1 := Lib.hid C0; clear C0
  go_cut [76] from 76 to 81 (fun _ wx => Hid (Blk wx (w.heap.size + 1) #[.int .i64 7, .string nm, .string ot, .string ⟨#[]⟩, .string ⟨#[]⟩, .int .i64 0] 30) ∧ Hid (Blk wx w.heap.size #[.int .i64 7, .string nm, .string ot, .string ky, .string vl, .int .i64 n] 30) ∧ Below w.heap.size w wx)
  case first =>
    go_region
    all_goals (
      go_wp2
      go_meet
      exact ⟨((HX0.out.set 1 (.string nm)).set 2 (.string ot)), ((HC1.out.other (by omega) 1 (.string nm)).other (by omega) 2 (.string ot)), by (repeat (first | (with_reducible exact Below.refl _ _) | (with_reducible assumption) | (with_reducible refine bel_al0 ?_ _) | (with_reducible refine bel_set ?_ (by first | (simp; done) | (simp; omega)) _) | (with_reducible refine bel_dr ?_) | (with_reducible refine bel_drn ?_ _) | (with_reducible refine bel_tr ?_ (by assumption))))⟩)
  case rest =>
    obtain ⟨HX, HC, hbwc⟩ := hcut
    clear q0 q1 q2 q3 q4 q5 p0 p1 p2 p3 p4 p5 qf pf hl6 hl7 HX0 HC1 HC0 hbw2
    obtain ⟨q0, q1, q2, q3, q4, q5, qf⟩ := blk_six HC.out
    obtain ⟨p0, p1, p2, p3, p4, p5, pf⟩ := blk_six HX.out
    have hl6 := cell_lt q0
    have hl7 := cell_lt p0
    go_upto_region 21 with fail
    go_region_held3 (fun w' => Below wc.heap.size wc w' ∧ w'.cell? ⟨w.heap.size, 1, none⟩ = some (.string nm) ∧ w'.cell? ⟨w.heap.size, 2, none⟩ = some (.string ot) ∧ w'.cell? ⟨w.heap.size, 3, none⟩ = some (.string ky) ∧ w'.cell? ⟨w.heap.size, 4, none⟩ = some (.string vl) ∧ w'.cell? ⟨w.heap.size, 5, none⟩ = some (.int .i64 n)) (((try dsimp only); (repeat' apply And.intro); all_goals (first | assumption | ((repeat (first | (with_reducible exact Below.refl _ _) | (with_reducible assumption) | (with_reducible refine bel_al0 ?_ _) | (with_reducible refine bel_set ?_ (by first | (simp; done) | (simp; omega)) _) | (with_reducible refine bel_dr ?_) | (with_reducible refine bel_drn ?_ _) | (with_reducible refine bel_tr ?_ (by assumption)))); done) | go_keep))) (first | (go_at_call 41; refine (rname_calls nm h1 _).mono ?_; rintro e w2 ⟨rfl, rfl⟩) | (go_at_call 53; refine (when_calls _ _ _).mono ?_; rintro e w2 ⟨rfl, rfl⟩) | (go_at_call 55; refine (rneeds_calls _ (by assumption) _ _).mono ?_; rintro e w5 ⟨rfl, hb5⟩; have hb6 : Below wc.heap.size wc w5 := bel_tr (by (repeat (first | (with_reducible exact Below.refl _ _) | (with_reducible assumption) | (with_reducible refine bel_al0 ?_ _) | (with_reducible refine bel_set ?_ (by first | (simp; done) | (simp; omega)) _) | (with_reducible refine bel_dr ?_) | (with_reducible refine bel_drn ?_ _) | (with_reducible refine bel_tr ?_ (by assumption))))) hb5; obtain ⟨q0, q1, q2, q3, q4, q5, _⟩ := blk_six (HC.out.below hb6); obtain ⟨p0, p1, p2, p3, p4, p5, _⟩ := blk_six (HX.out.below hb6); have hl6 := cell_lt q0; have hl7 := cell_lt p0))
    go_upto_region 47 with fail
    obtain ⟨z_ky, hz_ky⟩ : ∃ b, b = ky.toList.isEmpty := ⟨_, rfl⟩
    replace hz_ky := hz_ky.symm
    cases z_ky with
    | false =>
      have hr := HNO.out (Or.inr (by rw [HZ.out, hz_ky]; rfl))
      subst hr
      clear HNO HBY HZ HB
      go_wp2
      go_ret
      exact ⟨rfl, bel_tr hbwc (by (repeat (first | (with_reducible exact Below.refl _ _) | (with_reducible assumption) | (with_reducible refine bel_al0 ?_ _) | (with_reducible refine bel_set ?_ (by first | (simp; done) | (simp; omega)) _) | (with_reducible refine bel_dr ?_) | (with_reducible refine bel_drn ?_ _) | (with_reducible refine bel_tr ?_ (by assumption)))))⟩
    | true =>
      obtain ⟨z_vl, hz_vl⟩ : ∃ b, b = vl.toList.isEmpty := ⟨_, rfl⟩
      replace hz_vl := hz_vl.symm
      cases z_vl with
      | false =>
        have hr := HNO.out (Or.inr (by rw [HZ.out, hz_ky, hz_vl]; rfl))
        subst hr
        clear HNO HBY HZ HB
        go_wp2
        go_ret
        exact ⟨rfl, bel_tr hbwc (by (repeat (first | (with_reducible exact Below.refl _ _) | (with_reducible assumption) | (with_reducible refine bel_al0 ?_ _) | (with_reducible refine bel_set ?_ (by first | (simp; done) | (simp; omega)) _) | (with_reducible refine bel_dr ?_) | (with_reducible refine bel_drn ?_ _) | (with_reducible refine bel_tr ?_ (by assumption)))))⟩
      | true =>
        obtain ⟨z_n, hz_n⟩ : ∃ b, b = (n == 0) := ⟨_, rfl⟩
        replace hz_n := hz_n.symm
        have hz_m : ((0 : Int) == n) = z_n := by rw [← hz_n, Bool.eq_iff_iff]; simp; exact eq_comm
        cases z_n with
        | false =>
          have hr := HNO.out (Or.inr (by rw [HZ.out, hz_ky, hz_vl, hz_n]; rfl))
          subst hr
          clear HNO HBY HZ HB
          go_wp2
          go_ret
          exact ⟨rfl, bel_tr hbwc (by (repeat (first | (with_reducible exact Below.refl _ _) | (with_reducible assumption) | (with_reducible refine bel_al0 ?_ _) | (with_reducible refine bel_set ?_ (by first | (simp; done) | (simp; omega)) _) | (with_reducible refine bel_dr ?_) | (with_reducible refine bel_drn ?_ _) | (with_reducible refine bel_tr ?_ (by assumption)))))⟩
        | true =>
          have hr := (HBY.out (by rw [HZ.out, hz_ky, hz_vl, hz_n]; rfl)).trans HB.out
          subst hr
          clear HNO HBY HZ HB
          go_wp2_with (go_at_call 56; refine (rfirst2_calls _ _ 3 (whenE (!nameB nm) 110) (refE ot true) (by first | exact blk_new _ _ _ | exact Blk.dr (blk_new _ _ _) | exact Blk.dr (Blk.dr (blk_new _ _ _)))).mono ?_; rintro e w6 ⟨rfl, rfl⟩)
          go_ret
          exact ⟨rfl, bel_tr hbwc (by (repeat (first | (with_reducible exact Below.refl _ _) | (with_reducible assumption) | (with_reducible refine bel_al0 ?_ _) | (with_reducible refine bel_set ?_ (by first | (simp; done) | (simp; omega)) _) | (with_reducible refine bel_dr ?_) | (with_reducible refine bel_drn ?_ _) | (with_reducible refine bel_tr ?_ (by assumption)))))⟩
set_option maxHeartbeats 16000000 in
theorem rcheck_8 (nm ot ky vl : ByteArray) (n : Int) (h1 : nm.size ≤ 1000000) (h2 : ot.size ≤ 1000000) (h3 : ky.size ≤ 1000000) (h4 : vl.size ≤ 1000000) (hn : n ≤ 9223372036854775807) (w : World) :
    Calls Tryd.prog 18 #[.agg #[.int .i64 8, .string nm, .string ot, .string ky, .string vl, .int .i64 n]] w fun e w' => e = .returned (.int .i64 (checkV 8 nm ot ky vl n)) ∧ Below w.heap.size w w' := by
  have HNO := Lib.hid (@checkV_no 8 nm ot ky vl n)
  have HBY := Lib.hid (fun h => @checkV_yes 8 nm ot ky vl n rfl h)
  have HZ : Hid (zeroV 8 nm ot ky vl n = ((bN 8 || nm.toList.isEmpty) && ((bO 8 || ot.toList.isEmpty) && ((bK 8 || ky.toList.isEmpty) && ((bV 8 || vl.toList.isEmpty) && (bI 8 || (n == 0))))))) := rfl
  obtain ⟨r, hr⟩ : ∃ r, r = checkV 8 nm ot ky vl n := ⟨_, rfl⟩
  rw [← hr] at HNO HBY ⊢
  clear hr
  have HC0 := Lib.hid (blk_new w #[.int .i64 8, .string nm, .string ot, .string ky, .string vl, .int .i64 n] 30)
  have HB : Hid (bodyV 8 nm ot ky vl n = firstV [whenE (!nameB nm) 110]) := by show _ = _; exact by unfold bodyV; simp [firstV_one, firstV]
  go_enter Tryd.func18, Tryd.ntmps18
  go_upto_region 24 with fail
  have X0 := blk_new (w.alloc (.cells #[.int .i64 8, .string nm, .string ot, .string ky, .string vl, .int .i64 n] 30)) #[.int .i64 8, .string ⟨#[]⟩, .string ⟨#[]⟩, .string ⟨#[]⟩, .string ⟨#[]⟩, .int .i64 0] 30
  rw [World.size_alloc] at X0
  have C0 := HC0.out.al (.cells #[.int .i64 8, .string ⟨#[]⟩, .string ⟨#[]⟩, .string ⟨#[]⟩, .string ⟨#[]⟩, .int .i64 0] 30)
  obtain ⟨W2, hW2⟩ : ∃ W2, W2 = (w.alloc (.cells #[.int .i64 8, .string nm, .string ot, .string ky, .string vl, .int .i64 n] 30)).alloc (.cells #[.int .i64 8, .string ⟨#[]⟩, .string ⟨#[]⟩, .string ⟨#[]⟩, .string ⟨#[]⟩, .int .i64 0] 30) := ⟨_, rfl⟩
  have hbw2 : Below w.heap.size w W2 := by rw [hW2]; (repeat (first | (with_reducible exact Below.refl _ _) | (with_reducible assumption) | (with_reducible refine bel_al0 ?_ _) | (with_reducible refine bel_set ?_ (by first | (simp; done) | (simp; omega)) _) | (with_reducible refine bel_dr ?_) | (with_reducible refine bel_drn ?_ _) | (with_reducible refine bel_tr ?_ (by assumption))))
  rw [← hW2] at X0 C0 ⊢
  clear hW2
  obtain ⟨q0, q1, q2, q3, q4, q5, qf⟩ := blk_six C0
  obtain ⟨p0, p1, p2, p3, p4, p5, pf⟩ := blk_six X0
  have hl6 := cell_lt q0
  have hl7 := cell_lt p0
  have HX0 := Lib.hid X0; clear X0
  have HC1 := Lib.hid C0; clear C0
  go_cut [94] from 94 to 96 (fun _ wx => Hid (Blk wx (w.heap.size + 1) #[.int .i64 8, .string nm, .string ⟨#[]⟩, .string ⟨#[]⟩, .string ⟨#[]⟩, .int .i64 0] 30) ∧ Hid (Blk wx w.heap.size #[.int .i64 8, .string nm, .string ot, .string ky, .string vl, .int .i64 n] 30) ∧ Below w.heap.size w wx)
  case first =>
    all_goals (
      go_wp2
      go_meet
      exact ⟨(HX0.out.set 1 (.string nm)), (HC1.out.other (by omega) 1 (.string nm)), by (repeat (first | (with_reducible exact Below.refl _ _) | (with_reducible assumption) | (with_reducible refine bel_al0 ?_ _) | (with_reducible refine bel_set ?_ (by first | (simp; done) | (simp; omega)) _) | (with_reducible refine bel_dr ?_) | (with_reducible refine bel_drn ?_ _) | (with_reducible refine bel_tr ?_ (by assumption))))⟩)
  case rest =>
    obtain ⟨HX, HC, hbwc⟩ := hcut
    clear q0 q1 q2 q3 q4 q5 p0 p1 p2 p3 p4 p5 qf pf hl6 hl7 HX0 HC1 HC0 hbw2
    obtain ⟨q0, q1, q2, q3, q4, q5, qf⟩ := blk_six HC.out
    obtain ⟨p0, p1, p2, p3, p4, p5, pf⟩ := blk_six HX.out
    have hl6 := cell_lt q0
    have hl7 := cell_lt p0
    go_upto_region 47 with (first | (go_at_call 41; refine (rname_calls nm h1 _).mono ?_; rintro e w2 ⟨rfl, rfl⟩) | (go_at_call 53; refine (when_calls _ _ _).mono ?_; rintro e w2 ⟨rfl, rfl⟩))
    obtain ⟨z_ot, hz_ot⟩ : ∃ b, b = ot.toList.isEmpty := ⟨_, rfl⟩
    replace hz_ot := hz_ot.symm
    cases z_ot with
    | false =>
      have hr := HNO.out (Or.inr (by rw [HZ.out, hz_ot]; rfl))
      subst hr
      clear HNO HBY HZ HB
      go_wp2
      go_ret
      exact ⟨rfl, bel_tr hbwc (by (repeat (first | (with_reducible exact Below.refl _ _) | (with_reducible assumption) | (with_reducible refine bel_al0 ?_ _) | (with_reducible refine bel_set ?_ (by first | (simp; done) | (simp; omega)) _) | (with_reducible refine bel_dr ?_) | (with_reducible refine bel_drn ?_ _) | (with_reducible refine bel_tr ?_ (by assumption)))))⟩
    | true =>
      obtain ⟨z_ky, hz_ky⟩ : ∃ b, b = ky.toList.isEmpty := ⟨_, rfl⟩
      replace hz_ky := hz_ky.symm
      cases z_ky with
      | false =>
        have hr := HNO.out (Or.inr (by rw [HZ.out, hz_ot, hz_ky]; rfl))
        subst hr
        clear HNO HBY HZ HB
        go_wp2
        go_ret
        exact ⟨rfl, bel_tr hbwc (by (repeat (first | (with_reducible exact Below.refl _ _) | (with_reducible assumption) | (with_reducible refine bel_al0 ?_ _) | (with_reducible refine bel_set ?_ (by first | (simp; done) | (simp; omega)) _) | (with_reducible refine bel_dr ?_) | (with_reducible refine bel_drn ?_ _) | (with_reducible refine bel_tr ?_ (by assumption)))))⟩
      | true =>
        obtain ⟨z_vl, hz_vl⟩ : ∃ b, b = vl.toList.isEmpty := ⟨_, rfl⟩
        replace hz_vl := hz_vl.symm
        cases z_vl with
        | false =>
          have hr := HNO.out (Or.inr (by rw [HZ.out, hz_ot, hz_ky, hz_vl]; rfl))
          subst hr
          clear HNO HBY HZ HB
          go_wp2
          go_ret
          exact ⟨rfl, bel_tr hbwc (by (repeat (first | (with_reducible exact Below.refl _ _) | (with_reducible assumption) | (with_reducible refine bel_al0 ?_ _) | (with_reducible refine bel_set ?_ (by first | (simp; done) | (simp; omega)) _) | (with_reducible refine bel_dr ?_) | (with_reducible refine bel_drn ?_ _) | (with_reducible refine bel_tr ?_ (by assumption)))))⟩
        | true =>
          obtain ⟨z_n, hz_n⟩ : ∃ b, b = (n == 0) := ⟨_, rfl⟩
          replace hz_n := hz_n.symm
          have hz_m : ((0 : Int) == n) = z_n := by rw [← hz_n, Bool.eq_iff_iff]; simp; exact eq_comm
          cases z_n with
          | false =>
            have hr := HNO.out (Or.inr (by rw [HZ.out, hz_ot, hz_ky, hz_vl, hz_n]; rfl))
            subst hr
            clear HNO HBY HZ HB
            go_wp2
            go_ret
            exact ⟨rfl, bel_tr hbwc (by (repeat (first | (with_reducible exact Below.refl _ _) | (with_reducible assumption) | (with_reducible refine bel_al0 ?_ _) | (with_reducible refine bel_set ?_ (by first | (simp; done) | (simp; omega)) _) | (with_reducible refine bel_dr ?_) | (with_reducible refine bel_drn ?_ _) | (with_reducible refine bel_tr ?_ (by assumption)))))⟩
          | true =>
            have hr := (HBY.out (by rw [HZ.out, hz_ot, hz_ky, hz_vl, hz_n]; rfl)).trans HB.out
            subst hr
            clear HNO HBY HZ HB
            go_wp2_with (go_at_call 56; refine (rfirst1_calls _ _ 3 (whenE (!nameB nm) 110) (by first | exact blk_new _ _ _ | exact Blk.dr (blk_new _ _ _) | exact Blk.dr (Blk.dr (blk_new _ _ _)))).mono ?_; rintro e w6 ⟨rfl, rfl⟩)
            go_ret
            exact ⟨rfl, bel_tr hbwc (by (repeat (first | (with_reducible exact Below.refl _ _) | (with_reducible assumption) | (with_reducible refine bel_al0 ?_ _) | (with_reducible refine bel_set ?_ (by first | (simp; done) | (simp; omega)) _) | (with_reducible refine bel_dr ?_) | (with_reducible refine bel_drn ?_ _) | (with_reducible refine bel_tr ?_ (by assumption)))))⟩
set_option maxHeartbeats 16000000 in
theorem rcheck_9 (nm ot ky vl : ByteArray) (n : Int) (h1 : nm.size ≤ 1000000) (h2 : ot.size ≤ 1000000) (h3 : ky.size ≤ 1000000) (h4 : vl.size ≤ 1000000) (hn : n ≤ 9223372036854775807) (w : World) :
    Calls Tryd.prog 18 #[.agg #[.int .i64 9, .string nm, .string ot, .string ky, .string vl, .int .i64 n]] w fun e w' => e = .returned (.int .i64 (checkV 9 nm ot ky vl n)) ∧ Below w.heap.size w w' := by
  have HNO := Lib.hid (@checkV_no 9 nm ot ky vl n)
  have HBY := Lib.hid (fun h => @checkV_yes 9 nm ot ky vl n rfl h)
  have HZ : Hid (zeroV 9 nm ot ky vl n = ((bN 9 || nm.toList.isEmpty) && ((bO 9 || ot.toList.isEmpty) && ((bK 9 || ky.toList.isEmpty) && ((bV 9 || vl.toList.isEmpty) && (bI 9 || (n == 0))))))) := rfl
  obtain ⟨r, hr⟩ : ∃ r, r = checkV 9 nm ot ky vl n := ⟨_, rfl⟩
  rw [← hr] at HNO HBY ⊢
  clear hr
  have HC0 := Lib.hid (blk_new w #[.int .i64 9, .string nm, .string ot, .string ky, .string vl, .int .i64 n] 30)
  have HB : Hid (bodyV 9 nm ot ky vl n = firstV [whenE (!nameB nm) 110]) := by show _ = _; exact by unfold bodyV; simp [firstV_one, firstV]
  go_enter Tryd.func18, Tryd.ntmps18
  go_upto_region 24 with fail
  have X0 := blk_new (w.alloc (.cells #[.int .i64 9, .string nm, .string ot, .string ky, .string vl, .int .i64 n] 30)) #[.int .i64 9, .string ⟨#[]⟩, .string ⟨#[]⟩, .string ⟨#[]⟩, .string ⟨#[]⟩, .int .i64 0] 30
  rw [World.size_alloc] at X0
  have C0 := HC0.out.al (.cells #[.int .i64 9, .string ⟨#[]⟩, .string ⟨#[]⟩, .string ⟨#[]⟩, .string ⟨#[]⟩, .int .i64 0] 30)
  obtain ⟨W2, hW2⟩ : ∃ W2, W2 = (w.alloc (.cells #[.int .i64 9, .string nm, .string ot, .string ky, .string vl, .int .i64 n] 30)).alloc (.cells #[.int .i64 9, .string ⟨#[]⟩, .string ⟨#[]⟩, .string ⟨#[]⟩, .string ⟨#[]⟩, .int .i64 0] 30) := ⟨_, rfl⟩
  have hbw2 : Below w.heap.size w W2 := by rw [hW2]; (repeat (first | (with_reducible exact Below.refl _ _) | (with_reducible assumption) | (with_reducible refine bel_al0 ?_ _) | (with_reducible refine bel_set ?_ (by first | (simp; done) | (simp; omega)) _) | (with_reducible refine bel_dr ?_) | (with_reducible refine bel_drn ?_ _) | (with_reducible refine bel_tr ?_ (by assumption))))
  rw [← hW2] at X0 C0 ⊢
  clear hW2
  obtain ⟨q0, q1, q2, q3, q4, q5, qf⟩ := blk_six C0
  obtain ⟨p0, p1, p2, p3, p4, p5, pf⟩ := blk_six X0
  have hl6 := cell_lt q0
  have hl7 := cell_lt p0
  have HX0 := Lib.hid X0; clear X0
  have HC1 := Lib.hid C0; clear C0
  go_cut [94] from 94 to 96 (fun _ wx => Hid (Blk wx (w.heap.size + 1) #[.int .i64 9, .string nm, .string ⟨#[]⟩, .string ⟨#[]⟩, .string ⟨#[]⟩, .int .i64 0] 30) ∧ Hid (Blk wx w.heap.size #[.int .i64 9, .string nm, .string ot, .string ky, .string vl, .int .i64 n] 30) ∧ Below w.heap.size w wx)
  case first =>
    all_goals (
      go_wp2
      go_meet
      exact ⟨(HX0.out.set 1 (.string nm)), (HC1.out.other (by omega) 1 (.string nm)), by (repeat (first | (with_reducible exact Below.refl _ _) | (with_reducible assumption) | (with_reducible refine bel_al0 ?_ _) | (with_reducible refine bel_set ?_ (by first | (simp; done) | (simp; omega)) _) | (with_reducible refine bel_dr ?_) | (with_reducible refine bel_drn ?_ _) | (with_reducible refine bel_tr ?_ (by assumption))))⟩)
  case rest =>
    obtain ⟨HX, HC, hbwc⟩ := hcut
    clear q0 q1 q2 q3 q4 q5 p0 p1 p2 p3 p4 p5 qf pf hl6 hl7 HX0 HC1 HC0 hbw2
    obtain ⟨q0, q1, q2, q3, q4, q5, qf⟩ := blk_six HC.out
    obtain ⟨p0, p1, p2, p3, p4, p5, pf⟩ := blk_six HX.out
    have hl6 := cell_lt q0
    have hl7 := cell_lt p0
    go_upto_region 47 with (first | (go_at_call 41; refine (rname_calls nm h1 _).mono ?_; rintro e w2 ⟨rfl, rfl⟩) | (go_at_call 53; refine (when_calls _ _ _).mono ?_; rintro e w2 ⟨rfl, rfl⟩))
    obtain ⟨z_ot, hz_ot⟩ : ∃ b, b = ot.toList.isEmpty := ⟨_, rfl⟩
    replace hz_ot := hz_ot.symm
    cases z_ot with
    | false =>
      have hr := HNO.out (Or.inr (by rw [HZ.out, hz_ot]; rfl))
      subst hr
      clear HNO HBY HZ HB
      go_wp2
      go_ret
      exact ⟨rfl, bel_tr hbwc (by (repeat (first | (with_reducible exact Below.refl _ _) | (with_reducible assumption) | (with_reducible refine bel_al0 ?_ _) | (with_reducible refine bel_set ?_ (by first | (simp; done) | (simp; omega)) _) | (with_reducible refine bel_dr ?_) | (with_reducible refine bel_drn ?_ _) | (with_reducible refine bel_tr ?_ (by assumption)))))⟩
    | true =>
      obtain ⟨z_ky, hz_ky⟩ : ∃ b, b = ky.toList.isEmpty := ⟨_, rfl⟩
      replace hz_ky := hz_ky.symm
      cases z_ky with
      | false =>
        have hr := HNO.out (Or.inr (by rw [HZ.out, hz_ot, hz_ky]; rfl))
        subst hr
        clear HNO HBY HZ HB
        go_wp2
        go_ret
        exact ⟨rfl, bel_tr hbwc (by (repeat (first | (with_reducible exact Below.refl _ _) | (with_reducible assumption) | (with_reducible refine bel_al0 ?_ _) | (with_reducible refine bel_set ?_ (by first | (simp; done) | (simp; omega)) _) | (with_reducible refine bel_dr ?_) | (with_reducible refine bel_drn ?_ _) | (with_reducible refine bel_tr ?_ (by assumption)))))⟩
      | true =>
        obtain ⟨z_vl, hz_vl⟩ : ∃ b, b = vl.toList.isEmpty := ⟨_, rfl⟩
        replace hz_vl := hz_vl.symm
        cases z_vl with
        | false =>
          have hr := HNO.out (Or.inr (by rw [HZ.out, hz_ot, hz_ky, hz_vl]; rfl))
          subst hr
          clear HNO HBY HZ HB
          go_wp2
          go_ret
          exact ⟨rfl, bel_tr hbwc (by (repeat (first | (with_reducible exact Below.refl _ _) | (with_reducible assumption) | (with_reducible refine bel_al0 ?_ _) | (with_reducible refine bel_set ?_ (by first | (simp; done) | (simp; omega)) _) | (with_reducible refine bel_dr ?_) | (with_reducible refine bel_drn ?_ _) | (with_reducible refine bel_tr ?_ (by assumption)))))⟩
        | true =>
          obtain ⟨z_n, hz_n⟩ : ∃ b, b = (n == 0) := ⟨_, rfl⟩
          replace hz_n := hz_n.symm
          have hz_m : ((0 : Int) == n) = z_n := by rw [← hz_n, Bool.eq_iff_iff]; simp; exact eq_comm
          cases z_n with
          | false =>
            have hr := HNO.out (Or.inr (by rw [HZ.out, hz_ot, hz_ky, hz_vl, hz_n]; rfl))
            subst hr
            clear HNO HBY HZ HB
            go_wp2
            go_ret
            exact ⟨rfl, bel_tr hbwc (by (repeat (first | (with_reducible exact Below.refl _ _) | (with_reducible assumption) | (with_reducible refine bel_al0 ?_ _) | (with_reducible refine bel_set ?_ (by first | (simp; done) | (simp; omega)) _) | (with_reducible refine bel_dr ?_) | (with_reducible refine bel_drn ?_ _) | (with_reducible refine bel_tr ?_ (by assumption)))))⟩
          | true =>
            have hr := (HBY.out (by rw [HZ.out, hz_ot, hz_ky, hz_vl, hz_n]; rfl)).trans HB.out
            subst hr
            clear HNO HBY HZ HB
            go_wp2_with (go_at_call 56; refine (rfirst1_calls _ _ 3 (whenE (!nameB nm) 110) (by first | exact blk_new _ _ _ | exact Blk.dr (blk_new _ _ _) | exact Blk.dr (Blk.dr (blk_new _ _ _)))).mono ?_; rintro e w6 ⟨rfl, rfl⟩)
            go_ret
            exact ⟨rfl, bel_tr hbwc (by (repeat (first | (with_reducible exact Below.refl _ _) | (with_reducible assumption) | (with_reducible refine bel_al0 ?_ _) | (with_reducible refine bel_set ?_ (by first | (simp; done) | (simp; omega)) _) | (with_reducible refine bel_dr ?_) | (with_reducible refine bel_drn ?_ _) | (with_reducible refine bel_tr ?_ (by assumption)))))⟩
end Go.Proofs.YtehneliphhgegaaDoor
