/- The document's Check (chapter 19): walked, a theorem for each kind. Written by gen-drcheck.py. -/
import Derived.Test.YtehneliphhgegaaDoorDCheckV
import Derived.Deep.CutBlock
set_option linter.unusedVariables false
set_option linter.unusedSimpArgs false
set_option maxRecDepth 100000
namespace Go.Proofs.YtehneliphhgegaaDoor
open Go.RowKit Go.Apo

set_option maxHeartbeats 16000000 in
theorem rcheck_10 (nm ot ky vl : ByteArray) (n : Int) (h1 : nm.size ≤ 1000000) (h2 : ot.size ≤ 1000000) (h3 : ky.size ≤ 1000000) (h4 : vl.size ≤ 1000000) (hn : n ≤ 9223372036854775807) (w : World) :
    Calls Tryd.prog 18 #[.agg #[.int .i64 10, .string nm, .string ot, .string ky, .string vl, .int .i64 n]] w fun e w' => e = .returned (.int .i64 (checkV 10 nm ot ky vl n)) ∧ Below w.heap.size w w' := by
  have HNO := Lib.hid (@checkV_no 10 nm ot ky vl n)
  have HBY := Lib.hid (fun h => @checkV_yes 10 nm ot ky vl n rfl h)
  have HZ : Hid (zeroV 10 nm ot ky vl n = ((bN 10 || nm.toList.isEmpty) && ((bO 10 || ot.toList.isEmpty) && ((bK 10 || ky.toList.isEmpty) && ((bV 10 || vl.toList.isEmpty) && (bI 10 || (n == 0))))))) := rfl
  obtain ⟨r, hr⟩ : ∃ r, r = checkV 10 nm ot ky vl n := ⟨_, rfl⟩
  rw [← hr] at HNO HBY ⊢
  clear hr
  have HC0 := Lib.hid (blk_new w #[.int .i64 10, .string nm, .string ot, .string ky, .string vl, .int .i64 n] 30)
  have HB : Hid (bodyV 10 nm ot ky vl n = firstV [refE ot false]) := by show _ = _; exact by unfold bodyV; simp [firstV_one, firstV]
  go_enter Tryd.func18, Tryd.ntmps18
  go_upto_region 29 with fail
  have X0 := blk_new (w.alloc (.cells #[.int .i64 10, .string nm, .string ot, .string ky, .string vl, .int .i64 n] 30)) #[.int .i64 10, .string ⟨#[]⟩, .string ⟨#[]⟩, .string ⟨#[]⟩, .string ⟨#[]⟩, .int .i64 0] 30
  rw [World.size_alloc] at X0
  have C0 := HC0.out.al (.cells #[.int .i64 10, .string ⟨#[]⟩, .string ⟨#[]⟩, .string ⟨#[]⟩, .string ⟨#[]⟩, .int .i64 0] 30)
  obtain ⟨W2, hW2⟩ : ∃ W2, W2 = (w.alloc (.cells #[.int .i64 10, .string nm, .string ot, .string ky, .string vl, .int .i64 n] 30)).alloc (.cells #[.int .i64 10, .string ⟨#[]⟩, .string ⟨#[]⟩, .string ⟨#[]⟩, .string ⟨#[]⟩, .int .i64 0] 30) := ⟨_, rfl⟩
  have hbw2 : Below w.heap.size w W2 := by rw [hW2]; (repeat (first | (with_reducible exact Below.refl _ _) | (with_reducible assumption) | (with_reducible refine bel_al0 ?_ _) | (with_reducible refine bel_set ?_ (by first | (simp; done) | (simp; omega)) _) | (with_reducible refine bel_dr ?_) | (with_reducible refine bel_drn ?_ _) | (with_reducible refine bel_tr ?_ (by assumption))))
  rw [← hW2] at X0 C0 ⊢
  clear hW2
  obtain ⟨q0, q1, q2, q3, q4, q5, qf⟩ := blk_six C0
  obtain ⟨p0, p1, p2, p3, p4, p5, pf⟩ := blk_six X0
  have hl6 := cell_lt q0
  have hl7 := cell_lt p0
  have HX0 := Lib.hid X0; clear X0
  have HC1 := Lib.hid C0; clear C0
  go_cut [107] from 107 to 109 (fun _ wx => Hid (Blk wx (w.heap.size + 1) #[.int .i64 10, .string ⟨#[]⟩, .string ot, .string ⟨#[]⟩, .string ⟨#[]⟩, .int .i64 0] 30) ∧ Hid (Blk wx w.heap.size #[.int .i64 10, .string nm, .string ot, .string ky, .string vl, .int .i64 n] 30) ∧ Below w.heap.size w wx)
  case first =>
    all_goals (
      go_wp2
      go_meet
      exact ⟨(HX0.out.set 2 (.string ot)), (HC1.out.other (by omega) 2 (.string ot)), by (repeat (first | (with_reducible exact Below.refl _ _) | (with_reducible assumption) | (with_reducible refine bel_al0 ?_ _) | (with_reducible refine bel_set ?_ (by first | (simp; done) | (simp; omega)) _) | (with_reducible refine bel_dr ?_) | (with_reducible refine bel_drn ?_ _) | (with_reducible refine bel_tr ?_ (by assumption))))⟩)
  case rest =>
    obtain ⟨HX, HC, hbwc⟩ := hcut
    clear q0 q1 q2 q3 q4 q5 p0 p1 p2 p3 p4 p5 qf pf hl6 hl7 HX0 HC1 HC0 hbw2
    obtain ⟨q0, q1, q2, q3, q4, q5, qf⟩ := blk_six HC.out
    obtain ⟨p0, p1, p2, p3, p4, p5, pf⟩ := blk_six HX.out
    have hl6 := cell_lt q0
    have hl7 := cell_lt p0
    go_upto_region 47 with ((go_at_call 55; refine (rneeds_calls _ (by assumption) _ _).mono ?_; rintro e w5 ⟨rfl, hb5⟩; have hb6 : Below wc.heap.size wc w5 := bel_tr (by (repeat (first | (with_reducible exact Below.refl _ _) | (with_reducible assumption) | (with_reducible refine bel_al0 ?_ _) | (with_reducible refine bel_set ?_ (by first | (simp; done) | (simp; omega)) _) | (with_reducible refine bel_dr ?_) | (with_reducible refine bel_drn ?_ _) | (with_reducible refine bel_tr ?_ (by assumption))))) hb5; obtain ⟨q0, q1, q2, q3, q4, q5, _⟩ := blk_six (HC.out.below hb6); obtain ⟨p0, p1, p2, p3, p4, p5, _⟩ := blk_six (HX.out.below hb6); have hl6 := cell_lt q0; have hl7 := cell_lt p0))
    obtain ⟨z_nm, hz_nm⟩ : ∃ b, b = nm.toList.isEmpty := ⟨_, rfl⟩
    replace hz_nm := hz_nm.symm
    cases z_nm with
    | false =>
      have hr := HNO.out (Or.inr (by rw [HZ.out, hz_nm]; rfl))
      subst hr
      clear HNO HBY HZ HB
      go_wp2
      go_ret
      exact ⟨rfl, bel_tr hbwc (by (repeat (first | (with_reducible exact Below.refl _ _) | (with_reducible assumption) | (with_reducible refine bel_al0 ?_ _) | (with_reducible refine bel_set ?_ (by first | (simp; done) | (simp; omega)) _) | (with_reducible refine bel_dr ?_) | (with_reducible refine bel_drn ?_ _) | (with_reducible refine bel_tr ?_ (by assumption)))))⟩
    | true =>
      obtain ⟨z_ky, hz_ky⟩ : ∃ b, b = ky.toList.isEmpty := ⟨_, rfl⟩
      replace hz_ky := hz_ky.symm
      cases z_ky with
      | false =>
        have hr := HNO.out (Or.inr (by rw [HZ.out, hz_nm, hz_ky]; rfl))
        subst hr
        clear HNO HBY HZ HB
        go_wp2
        go_ret
        exact ⟨rfl, bel_tr hbwc (by (repeat (first | (with_reducible exact Below.refl _ _) | (with_reducible assumption) | (with_reducible refine bel_al0 ?_ _) | (with_reducible refine bel_set ?_ (by first | (simp; done) | (simp; omega)) _) | (with_reducible refine bel_dr ?_) | (with_reducible refine bel_drn ?_ _) | (with_reducible refine bel_tr ?_ (by assumption)))))⟩
      | true =>
        obtain ⟨z_vl, hz_vl⟩ : ∃ b, b = vl.toList.isEmpty := ⟨_, rfl⟩
        replace hz_vl := hz_vl.symm
        cases z_vl with
        | false =>
          have hr := HNO.out (Or.inr (by rw [HZ.out, hz_nm, hz_ky, hz_vl]; rfl))
          subst hr
          clear HNO HBY HZ HB
          go_wp2
          go_ret
          exact ⟨rfl, bel_tr hbwc (by (repeat (first | (with_reducible exact Below.refl _ _) | (with_reducible assumption) | (with_reducible refine bel_al0 ?_ _) | (with_reducible refine bel_set ?_ (by first | (simp; done) | (simp; omega)) _) | (with_reducible refine bel_dr ?_) | (with_reducible refine bel_drn ?_ _) | (with_reducible refine bel_tr ?_ (by assumption)))))⟩
        | true =>
          obtain ⟨z_n, hz_n⟩ : ∃ b, b = (n == 0) := ⟨_, rfl⟩
          replace hz_n := hz_n.symm
          have hz_m : ((0 : Int) == n) = z_n := by rw [← hz_n, Bool.eq_iff_iff]; simp; exact eq_comm
          cases z_n with
          | false =>
            have hr := HNO.out (Or.inr (by rw [HZ.out, hz_nm, hz_ky, hz_vl, hz_n]; rfl))
            subst hr
            clear HNO HBY HZ HB
            go_wp2
            go_ret
            exact ⟨rfl, bel_tr hbwc (by (repeat (first | (with_reducible exact Below.refl _ _) | (with_reducible assumption) | (with_reducible refine bel_al0 ?_ _) | (with_reducible refine bel_set ?_ (by first | (simp; done) | (simp; omega)) _) | (with_reducible refine bel_dr ?_) | (with_reducible refine bel_drn ?_ _) | (with_reducible refine bel_tr ?_ (by assumption)))))⟩
          | true =>
            have hr := (HBY.out (by rw [HZ.out, hz_nm, hz_ky, hz_vl, hz_n]; rfl)).trans HB.out
            subst hr
            clear HNO HBY HZ HB
            go_wp2_with (go_at_call 56; refine (rfirst1_calls _ _ 3 (refE ot false) (by first | exact blk_new _ _ _ | exact Blk.dr (blk_new _ _ _) | exact Blk.dr (Blk.dr (blk_new _ _ _)))).mono ?_; rintro e w6 ⟨rfl, rfl⟩)
            go_ret
            exact ⟨rfl, bel_tr hbwc (by (repeat (first | (with_reducible exact Below.refl _ _) | (with_reducible assumption) | (with_reducible refine bel_al0 ?_ _) | (with_reducible refine bel_set ?_ (by first | (simp; done) | (simp; omega)) _) | (with_reducible refine bel_dr ?_) | (with_reducible refine bel_drn ?_ _) | (with_reducible refine bel_tr ?_ (by assumption)))))⟩
set_option maxHeartbeats 16000000 in
theorem rcheck_14 (nm ot ky vl : ByteArray) (n : Int) (h1 : nm.size ≤ 1000000) (h2 : ot.size ≤ 1000000) (h3 : ky.size ≤ 1000000) (h4 : vl.size ≤ 1000000) (hn : n ≤ 9223372036854775807) (w : World) :
    Calls Tryd.prog 18 #[.agg #[.int .i64 14, .string nm, .string ot, .string ky, .string vl, .int .i64 n]] w fun e w' => e = .returned (.int .i64 (checkV 14 nm ot ky vl n)) ∧ Below w.heap.size w w' := by
  have HNO := Lib.hid (@checkV_no 14 nm ot ky vl n)
  have HBY := Lib.hid (fun h => @checkV_yes 14 nm ot ky vl n rfl h)
  have HZ : Hid (zeroV 14 nm ot ky vl n = ((bN 14 || nm.toList.isEmpty) && ((bO 14 || ot.toList.isEmpty) && ((bK 14 || ky.toList.isEmpty) && ((bV 14 || vl.toList.isEmpty) && (bI 14 || (n == 0))))))) := rfl
  obtain ⟨r, hr⟩ : ∃ r, r = checkV 14 nm ot ky vl n := ⟨_, rfl⟩
  rw [← hr] at HNO HBY ⊢
  clear hr
  have HC0 := Lib.hid (blk_new w #[.int .i64 14, .string nm, .string ot, .string ky, .string vl, .int .i64 n] 30)
  have HB : Hid (bodyV 14 nm ot ky vl n = firstV [refE ot false]) := by show _ = _; exact by unfold bodyV; simp [firstV_one, firstV]
  go_enter Tryd.func18, Tryd.ntmps18
  go_upto_region 29 with fail
  have X0 := blk_new (w.alloc (.cells #[.int .i64 14, .string nm, .string ot, .string ky, .string vl, .int .i64 n] 30)) #[.int .i64 14, .string ⟨#[]⟩, .string ⟨#[]⟩, .string ⟨#[]⟩, .string ⟨#[]⟩, .int .i64 0] 30
  rw [World.size_alloc] at X0
  have C0 := HC0.out.al (.cells #[.int .i64 14, .string ⟨#[]⟩, .string ⟨#[]⟩, .string ⟨#[]⟩, .string ⟨#[]⟩, .int .i64 0] 30)
  obtain ⟨W2, hW2⟩ : ∃ W2, W2 = (w.alloc (.cells #[.int .i64 14, .string nm, .string ot, .string ky, .string vl, .int .i64 n] 30)).alloc (.cells #[.int .i64 14, .string ⟨#[]⟩, .string ⟨#[]⟩, .string ⟨#[]⟩, .string ⟨#[]⟩, .int .i64 0] 30) := ⟨_, rfl⟩
  have hbw2 : Below w.heap.size w W2 := by rw [hW2]; (repeat (first | (with_reducible exact Below.refl _ _) | (with_reducible assumption) | (with_reducible refine bel_al0 ?_ _) | (with_reducible refine bel_set ?_ (by first | (simp; done) | (simp; omega)) _) | (with_reducible refine bel_dr ?_) | (with_reducible refine bel_drn ?_ _) | (with_reducible refine bel_tr ?_ (by assumption))))
  rw [← hW2] at X0 C0 ⊢
  clear hW2
  obtain ⟨q0, q1, q2, q3, q4, q5, qf⟩ := blk_six C0
  obtain ⟨p0, p1, p2, p3, p4, p5, pf⟩ := blk_six X0
  have hl6 := cell_lt q0
  have hl7 := cell_lt p0
  have HX0 := Lib.hid X0; clear X0
  have HC1 := Lib.hid C0; clear C0
  go_cut [107] from 107 to 109 (fun _ wx => Hid (Blk wx (w.heap.size + 1) #[.int .i64 14, .string ⟨#[]⟩, .string ot, .string ⟨#[]⟩, .string ⟨#[]⟩, .int .i64 0] 30) ∧ Hid (Blk wx w.heap.size #[.int .i64 14, .string nm, .string ot, .string ky, .string vl, .int .i64 n] 30) ∧ Below w.heap.size w wx)
  case first =>
    all_goals (
      go_wp2
      go_meet
      exact ⟨(HX0.out.set 2 (.string ot)), (HC1.out.other (by omega) 2 (.string ot)), by (repeat (first | (with_reducible exact Below.refl _ _) | (with_reducible assumption) | (with_reducible refine bel_al0 ?_ _) | (with_reducible refine bel_set ?_ (by first | (simp; done) | (simp; omega)) _) | (with_reducible refine bel_dr ?_) | (with_reducible refine bel_drn ?_ _) | (with_reducible refine bel_tr ?_ (by assumption))))⟩)
  case rest =>
    obtain ⟨HX, HC, hbwc⟩ := hcut
    clear q0 q1 q2 q3 q4 q5 p0 p1 p2 p3 p4 p5 qf pf hl6 hl7 HX0 HC1 HC0 hbw2
    obtain ⟨q0, q1, q2, q3, q4, q5, qf⟩ := blk_six HC.out
    obtain ⟨p0, p1, p2, p3, p4, p5, pf⟩ := blk_six HX.out
    have hl6 := cell_lt q0
    have hl7 := cell_lt p0
    go_upto_region 47 with ((go_at_call 55; refine (rneeds_calls _ (by assumption) _ _).mono ?_; rintro e w5 ⟨rfl, hb5⟩; have hb6 : Below wc.heap.size wc w5 := bel_tr (by (repeat (first | (with_reducible exact Below.refl _ _) | (with_reducible assumption) | (with_reducible refine bel_al0 ?_ _) | (with_reducible refine bel_set ?_ (by first | (simp; done) | (simp; omega)) _) | (with_reducible refine bel_dr ?_) | (with_reducible refine bel_drn ?_ _) | (with_reducible refine bel_tr ?_ (by assumption))))) hb5; obtain ⟨q0, q1, q2, q3, q4, q5, _⟩ := blk_six (HC.out.below hb6); obtain ⟨p0, p1, p2, p3, p4, p5, _⟩ := blk_six (HX.out.below hb6); have hl6 := cell_lt q0; have hl7 := cell_lt p0))
    obtain ⟨z_nm, hz_nm⟩ : ∃ b, b = nm.toList.isEmpty := ⟨_, rfl⟩
    replace hz_nm := hz_nm.symm
    cases z_nm with
    | false =>
      have hr := HNO.out (Or.inr (by rw [HZ.out, hz_nm]; rfl))
      subst hr
      clear HNO HBY HZ HB
      go_wp2
      go_ret
      exact ⟨rfl, bel_tr hbwc (by (repeat (first | (with_reducible exact Below.refl _ _) | (with_reducible assumption) | (with_reducible refine bel_al0 ?_ _) | (with_reducible refine bel_set ?_ (by first | (simp; done) | (simp; omega)) _) | (with_reducible refine bel_dr ?_) | (with_reducible refine bel_drn ?_ _) | (with_reducible refine bel_tr ?_ (by assumption)))))⟩
    | true =>
      obtain ⟨z_ky, hz_ky⟩ : ∃ b, b = ky.toList.isEmpty := ⟨_, rfl⟩
      replace hz_ky := hz_ky.symm
      cases z_ky with
      | false =>
        have hr := HNO.out (Or.inr (by rw [HZ.out, hz_nm, hz_ky]; rfl))
        subst hr
        clear HNO HBY HZ HB
        go_wp2
        go_ret
        exact ⟨rfl, bel_tr hbwc (by (repeat (first | (with_reducible exact Below.refl _ _) | (with_reducible assumption) | (with_reducible refine bel_al0 ?_ _) | (with_reducible refine bel_set ?_ (by first | (simp; done) | (simp; omega)) _) | (with_reducible refine bel_dr ?_) | (with_reducible refine bel_drn ?_ _) | (with_reducible refine bel_tr ?_ (by assumption)))))⟩
      | true =>
        obtain ⟨z_vl, hz_vl⟩ : ∃ b, b = vl.toList.isEmpty := ⟨_, rfl⟩
        replace hz_vl := hz_vl.symm
        cases z_vl with
        | false =>
          have hr := HNO.out (Or.inr (by rw [HZ.out, hz_nm, hz_ky, hz_vl]; rfl))
          subst hr
          clear HNO HBY HZ HB
          go_wp2
          go_ret
          exact ⟨rfl, bel_tr hbwc (by (repeat (first | (with_reducible exact Below.refl _ _) | (with_reducible assumption) | (with_reducible refine bel_al0 ?_ _) | (with_reducible refine bel_set ?_ (by first | (simp; done) | (simp; omega)) _) | (with_reducible refine bel_dr ?_) | (with_reducible refine bel_drn ?_ _) | (with_reducible refine bel_tr ?_ (by assumption)))))⟩
        | true =>
          obtain ⟨z_n, hz_n⟩ : ∃ b, b = (n == 0) := ⟨_, rfl⟩
          replace hz_n := hz_n.symm
          have hz_m : ((0 : Int) == n) = z_n := by rw [← hz_n, Bool.eq_iff_iff]; simp; exact eq_comm
          cases z_n with
          | false =>
            have hr := HNO.out (Or.inr (by rw [HZ.out, hz_nm, hz_ky, hz_vl, hz_n]; rfl))
            subst hr
            clear HNO HBY HZ HB
            go_wp2
            go_ret
            exact ⟨rfl, bel_tr hbwc (by (repeat (first | (with_reducible exact Below.refl _ _) | (with_reducible assumption) | (with_reducible refine bel_al0 ?_ _) | (with_reducible refine bel_set ?_ (by first | (simp; done) | (simp; omega)) _) | (with_reducible refine bel_dr ?_) | (with_reducible refine bel_drn ?_ _) | (with_reducible refine bel_tr ?_ (by assumption)))))⟩
          | true =>
            have hr := (HBY.out (by rw [HZ.out, hz_nm, hz_ky, hz_vl, hz_n]; rfl)).trans HB.out
            subst hr
            clear HNO HBY HZ HB
            go_wp2_with (go_at_call 56; refine (rfirst1_calls _ _ 3 (refE ot false) (by first | exact blk_new _ _ _ | exact Blk.dr (blk_new _ _ _) | exact Blk.dr (Blk.dr (blk_new _ _ _)))).mono ?_; rintro e w6 ⟨rfl, rfl⟩)
            go_ret
            exact ⟨rfl, bel_tr hbwc (by (repeat (first | (with_reducible exact Below.refl _ _) | (with_reducible assumption) | (with_reducible refine bel_al0 ?_ _) | (with_reducible refine bel_set ?_ (by first | (simp; done) | (simp; omega)) _) | (with_reducible refine bel_dr ?_) | (with_reducible refine bel_drn ?_ _) | (with_reducible refine bel_tr ?_ (by assumption)))))⟩
set_option maxHeartbeats 16000000 in
theorem rcheck_15 (nm ot ky vl : ByteArray) (n : Int) (h1 : nm.size ≤ 1000000) (h2 : ot.size ≤ 1000000) (h3 : ky.size ≤ 1000000) (h4 : vl.size ≤ 1000000) (hn : n ≤ 9223372036854775807) (w : World) :
    Calls Tryd.prog 18 #[.agg #[.int .i64 15, .string nm, .string ot, .string ky, .string vl, .int .i64 n]] w fun e w' => e = .returned (.int .i64 (checkV 15 nm ot ky vl n)) ∧ Below w.heap.size w w' := by
  have HNO := Lib.hid (@checkV_no 15 nm ot ky vl n)
  have HBY := Lib.hid (fun h => @checkV_yes 15 nm ot ky vl n rfl h)
  have HZ : Hid (zeroV 15 nm ot ky vl n = ((bN 15 || nm.toList.isEmpty) && ((bO 15 || ot.toList.isEmpty) && ((bK 15 || ky.toList.isEmpty) && ((bV 15 || vl.toList.isEmpty) && (bI 15 || (n == 0))))))) := rfl
  obtain ⟨r, hr⟩ : ∃ r, r = checkV 15 nm ot ky vl n := ⟨_, rfl⟩
  rw [← hr] at HNO HBY ⊢
  clear hr
  have HC0 := Lib.hid (blk_new w #[.int .i64 15, .string nm, .string ot, .string ky, .string vl, .int .i64 n] 30)
  have HB : Hid (bodyV 15 nm ot ky vl n = firstV [refE ot false]) := by show _ = _; exact by unfold bodyV; simp [firstV_one, firstV]
  go_enter Tryd.func18, Tryd.ntmps18
  go_upto_region 29 with fail
  have X0 := blk_new (w.alloc (.cells #[.int .i64 15, .string nm, .string ot, .string ky, .string vl, .int .i64 n] 30)) #[.int .i64 15, .string ⟨#[]⟩, .string ⟨#[]⟩, .string ⟨#[]⟩, .string ⟨#[]⟩, .int .i64 0] 30
  rw [World.size_alloc] at X0
  have C0 := HC0.out.al (.cells #[.int .i64 15, .string ⟨#[]⟩, .string ⟨#[]⟩, .string ⟨#[]⟩, .string ⟨#[]⟩, .int .i64 0] 30)
  obtain ⟨W2, hW2⟩ : ∃ W2, W2 = (w.alloc (.cells #[.int .i64 15, .string nm, .string ot, .string ky, .string vl, .int .i64 n] 30)).alloc (.cells #[.int .i64 15, .string ⟨#[]⟩, .string ⟨#[]⟩, .string ⟨#[]⟩, .string ⟨#[]⟩, .int .i64 0] 30) := ⟨_, rfl⟩
  have hbw2 : Below w.heap.size w W2 := by rw [hW2]; (repeat (first | (with_reducible exact Below.refl _ _) | (with_reducible assumption) | (with_reducible refine bel_al0 ?_ _) | (with_reducible refine bel_set ?_ (by first | (simp; done) | (simp; omega)) _) | (with_reducible refine bel_dr ?_) | (with_reducible refine bel_drn ?_ _) | (with_reducible refine bel_tr ?_ (by assumption))))
  rw [← hW2] at X0 C0 ⊢
  clear hW2
  obtain ⟨q0, q1, q2, q3, q4, q5, qf⟩ := blk_six C0
  obtain ⟨p0, p1, p2, p3, p4, p5, pf⟩ := blk_six X0
  have hl6 := cell_lt q0
  have hl7 := cell_lt p0
  have HX0 := Lib.hid X0; clear X0
  have HC1 := Lib.hid C0; clear C0
  go_cut [107] from 107 to 109 (fun _ wx => Hid (Blk wx (w.heap.size + 1) #[.int .i64 15, .string ⟨#[]⟩, .string ot, .string ⟨#[]⟩, .string ⟨#[]⟩, .int .i64 0] 30) ∧ Hid (Blk wx w.heap.size #[.int .i64 15, .string nm, .string ot, .string ky, .string vl, .int .i64 n] 30) ∧ Below w.heap.size w wx)
  case first =>
    all_goals (
      go_wp2
      go_meet
      exact ⟨(HX0.out.set 2 (.string ot)), (HC1.out.other (by omega) 2 (.string ot)), by (repeat (first | (with_reducible exact Below.refl _ _) | (with_reducible assumption) | (with_reducible refine bel_al0 ?_ _) | (with_reducible refine bel_set ?_ (by first | (simp; done) | (simp; omega)) _) | (with_reducible refine bel_dr ?_) | (with_reducible refine bel_drn ?_ _) | (with_reducible refine bel_tr ?_ (by assumption))))⟩)
  case rest =>
    obtain ⟨HX, HC, hbwc⟩ := hcut
    clear q0 q1 q2 q3 q4 q5 p0 p1 p2 p3 p4 p5 qf pf hl6 hl7 HX0 HC1 HC0 hbw2
    obtain ⟨q0, q1, q2, q3, q4, q5, qf⟩ := blk_six HC.out
    obtain ⟨p0, p1, p2, p3, p4, p5, pf⟩ := blk_six HX.out
    have hl6 := cell_lt q0
    have hl7 := cell_lt p0
    go_upto_region 47 with ((go_at_call 55; refine (rneeds_calls _ (by assumption) _ _).mono ?_; rintro e w5 ⟨rfl, hb5⟩; have hb6 : Below wc.heap.size wc w5 := bel_tr (by (repeat (first | (with_reducible exact Below.refl _ _) | (with_reducible assumption) | (with_reducible refine bel_al0 ?_ _) | (with_reducible refine bel_set ?_ (by first | (simp; done) | (simp; omega)) _) | (with_reducible refine bel_dr ?_) | (with_reducible refine bel_drn ?_ _) | (with_reducible refine bel_tr ?_ (by assumption))))) hb5; obtain ⟨q0, q1, q2, q3, q4, q5, _⟩ := blk_six (HC.out.below hb6); obtain ⟨p0, p1, p2, p3, p4, p5, _⟩ := blk_six (HX.out.below hb6); have hl6 := cell_lt q0; have hl7 := cell_lt p0))
    obtain ⟨z_nm, hz_nm⟩ : ∃ b, b = nm.toList.isEmpty := ⟨_, rfl⟩
    replace hz_nm := hz_nm.symm
    cases z_nm with
    | false =>
      have hr := HNO.out (Or.inr (by rw [HZ.out, hz_nm]; rfl))
      subst hr
      clear HNO HBY HZ HB
      go_wp2
      go_ret
      exact ⟨rfl, bel_tr hbwc (by (repeat (first | (with_reducible exact Below.refl _ _) | (with_reducible assumption) | (with_reducible refine bel_al0 ?_ _) | (with_reducible refine bel_set ?_ (by first | (simp; done) | (simp; omega)) _) | (with_reducible refine bel_dr ?_) | (with_reducible refine bel_drn ?_ _) | (with_reducible refine bel_tr ?_ (by assumption)))))⟩
    | true =>
      obtain ⟨z_ky, hz_ky⟩ : ∃ b, b = ky.toList.isEmpty := ⟨_, rfl⟩
      replace hz_ky := hz_ky.symm
      cases z_ky with
      | false =>
        have hr := HNO.out (Or.inr (by rw [HZ.out, hz_nm, hz_ky]; rfl))
        subst hr
        clear HNO HBY HZ HB
        go_wp2
        go_ret
        exact ⟨rfl, bel_tr hbwc (by (repeat (first | (with_reducible exact Below.refl _ _) | (with_reducible assumption) | (with_reducible refine bel_al0 ?_ _) | (with_reducible refine bel_set ?_ (by first | (simp; done) | (simp; omega)) _) | (with_reducible refine bel_dr ?_) | (with_reducible refine bel_drn ?_ _) | (with_reducible refine bel_tr ?_ (by assumption)))))⟩
      | true =>
        obtain ⟨z_vl, hz_vl⟩ : ∃ b, b = vl.toList.isEmpty := ⟨_, rfl⟩
        replace hz_vl := hz_vl.symm
        cases z_vl with
        | false =>
          have hr := HNO.out (Or.inr (by rw [HZ.out, hz_nm, hz_ky, hz_vl]; rfl))
          subst hr
          clear HNO HBY HZ HB
          go_wp2
          go_ret
          exact ⟨rfl, bel_tr hbwc (by (repeat (first | (with_reducible exact Below.refl _ _) | (with_reducible assumption) | (with_reducible refine bel_al0 ?_ _) | (with_reducible refine bel_set ?_ (by first | (simp; done) | (simp; omega)) _) | (with_reducible refine bel_dr ?_) | (with_reducible refine bel_drn ?_ _) | (with_reducible refine bel_tr ?_ (by assumption)))))⟩
        | true =>
          obtain ⟨z_n, hz_n⟩ : ∃ b, b = (n == 0) := ⟨_, rfl⟩
          replace hz_n := hz_n.symm
          have hz_m : ((0 : Int) == n) = z_n := by rw [← hz_n, Bool.eq_iff_iff]; simp; exact eq_comm
          cases z_n with
          | false =>
            have hr := HNO.out (Or.inr (by rw [HZ.out, hz_nm, hz_ky, hz_vl, hz_n]; rfl))
            subst hr
            clear HNO HBY HZ HB
            go_wp2
            go_ret
            exact ⟨rfl, bel_tr hbwc (by (repeat (first | (with_reducible exact Below.refl _ _) | (with_reducible assumption) | (with_reducible refine bel_al0 ?_ _) | (with_reducible refine bel_set ?_ (by first | (simp; done) | (simp; omega)) _) | (with_reducible refine bel_dr ?_) | (with_reducible refine bel_drn ?_ _) | (with_reducible refine bel_tr ?_ (by assumption)))))⟩
          | true =>
            have hr := (HBY.out (by rw [HZ.out, hz_nm, hz_ky, hz_vl, hz_n]; rfl)).trans HB.out
            subst hr
            clear HNO HBY HZ HB
            go_wp2_with (go_at_call 56; refine (rfirst1_calls _ _ 3 (refE ot false) (by first | exact blk_new _ _ _ | exact Blk.dr (blk_new _ _ _) | exact Blk.dr (Blk.dr (blk_new _ _ _)))).mono ?_; rintro e w6 ⟨rfl, rfl⟩)
            go_ret
            exact ⟨rfl, bel_tr hbwc (by (repeat (first | (with_reducible exact Below.refl _ _) | (with_reducible assumption) | (with_reducible refine bel_al0 ?_ _) | (with_reducible refine bel_set ?_ (by first | (simp; done) | (simp; omega)) _) | (with_reducible refine bel_dr ?_) | (with_reducible refine bel_drn ?_ _) | (with_reducible refine bel_tr ?_ (by assumption)))))⟩
set_option maxHeartbeats 16000000 in
theorem rcheck_11 (nm ot ky vl : ByteArray) (n : Int) (h1 : nm.size ≤ 1000000) (h2 : ot.size ≤ 1000000) (h3 : ky.size ≤ 1000000) (h4 : vl.size ≤ 1000000) (hn : n ≤ 9223372036854775807) (w : World) :
    Calls Tryd.prog 18 #[.agg #[.int .i64 11, .string nm, .string ot, .string ky, .string vl, .int .i64 n]] w fun e w' => e = .returned (.int .i64 (checkV 11 nm ot ky vl n)) ∧ Below w.heap.size w w' := by
  have HNO := Lib.hid (@checkV_no 11 nm ot ky vl n)
  have HBY := Lib.hid (fun h => @checkV_yes 11 nm ot ky vl n rfl h)
  have HZ : Hid (zeroV 11 nm ot ky vl n = ((bN 11 || nm.toList.isEmpty) && ((bO 11 || ot.toList.isEmpty) && ((bK 11 || ky.toList.isEmpty) && ((bV 11 || vl.toList.isEmpty) && (bI 11 || (n == 0))))))) := rfl
  obtain ⟨r, hr⟩ : ∃ r, r = checkV 11 nm ot ky vl n := ⟨_, rfl⟩
  rw [← hr] at HNO HBY ⊢
  clear hr
  have HC0 := Lib.hid (blk_new w #[.int .i64 11, .string nm, .string ot, .string ky, .string vl, .int .i64 n] 30)
  obtain ⟨c2, hc2⟩ : ∃ b, b = decide (n < 0) := ⟨_, rfl⟩
  replace hc2 := hc2.symm
  cases c2 with
  | true =>
    have HB : Hid (bodyV 11 nm ot ky vl n = firstV [refE ot false, whenE true 137]) := by show _ = _; exact eq11_t nm ot ky vl n hc2
    go_enter Tryd.func18, Tryd.ntmps18
    go_upto_region 32 with fail
    have X0 := blk_new (w.alloc (.cells #[.int .i64 11, .string nm, .string ot, .string ky, .string vl, .int .i64 n] 30)) #[.int .i64 11, .string ⟨#[]⟩, .string ⟨#[]⟩, .string ⟨#[]⟩, .string ⟨#[]⟩, .int .i64 0] 30
    rw [World.size_alloc] at X0
    have C0 := HC0.out.al (.cells #[.int .i64 11, .string ⟨#[]⟩, .string ⟨#[]⟩, .string ⟨#[]⟩, .string ⟨#[]⟩, .int .i64 0] 30)
    obtain ⟨W2, hW2⟩ : ∃ W2, W2 = (w.alloc (.cells #[.int .i64 11, .string nm, .string ot, .string ky, .string vl, .int .i64 n] 30)).alloc (.cells #[.int .i64 11, .string ⟨#[]⟩, .string ⟨#[]⟩, .string ⟨#[]⟩, .string ⟨#[]⟩, .int .i64 0] 30) := ⟨_, rfl⟩
    have hbw2 : Below w.heap.size w W2 := by rw [hW2]; (repeat (first | (with_reducible exact Below.refl _ _) | (with_reducible assumption) | (with_reducible refine bel_al0 ?_ _) | (with_reducible refine bel_set ?_ (by first | (simp; done) | (simp; omega)) _) | (with_reducible refine bel_dr ?_) | (with_reducible refine bel_drn ?_ _) | (with_reducible refine bel_tr ?_ (by assumption))))
    rw [← hW2] at X0 C0 ⊢
    clear hW2
    obtain ⟨q0, q1, q2, q3, q4, q5, qf⟩ := blk_six C0
    obtain ⟨p0, p1, p2, p3, p4, p5, pf⟩ := blk_six X0
    have hl6 := cell_lt q0
    have hl7 := cell_lt p0
    have HX0 := Lib.hid X0; clear X0
    have HC1 := Lib.hid C0; clear C0
    go_cut [116] from 116 to 121 (fun _ wx => Hid (Blk wx (w.heap.size + 1) #[.int .i64 11, .string ⟨#[]⟩, .string ot, .string ⟨#[]⟩, .string ⟨#[]⟩, .int .i64 n] 30) ∧ Hid (Blk wx w.heap.size #[.int .i64 11, .string nm, .string ot, .string ky, .string vl, .int .i64 n] 30) ∧ Below w.heap.size w wx)
    case first =>
      go_region
      all_goals (
        go_wp2
        go_meet
        exact ⟨((HX0.out.set 2 (.string ot)).set 5 (.int .i64 n)), ((HC1.out.other (by omega) 2 (.string ot)).other (by omega) 5 (.int .i64 n)), by (repeat (first | (with_reducible exact Below.refl _ _) | (with_reducible assumption) | (with_reducible refine bel_al0 ?_ _) | (with_reducible refine bel_set ?_ (by first | (simp; done) | (simp; omega)) _) | (with_reducible refine bel_dr ?_) | (with_reducible refine bel_drn ?_ _) | (with_reducible refine bel_tr ?_ (by assumption))))⟩)
    case rest =>
      obtain ⟨HX, HC, hbwc⟩ := hcut
      clear q0 q1 q2 q3 q4 q5 p0 p1 p2 p3 p4 p5 qf pf hl6 hl7 HX0 HC1 HC0 hbw2
      obtain ⟨q0, q1, q2, q3, q4, q5, qf⟩ := blk_six HC.out
      obtain ⟨p0, p1, p2, p3, p4, p5, pf⟩ := blk_six HX.out
      have hl6 := cell_lt q0
      have hl7 := cell_lt p0
      go_upto_region 33 with fail
      refine wp_region_held_drew (S := (fun w' => Below wc.heap.size wc w' ∧ w'.cell? ⟨w.heap.size, 1, none⟩ = some (.string nm) ∧ w'.cell? ⟨w.heap.size, 2, none⟩ = some (.string ot) ∧ w'.cell? ⟨w.heap.size, 3, none⟩ = some (.string ky) ∧ w'.cell? ⟨w.heap.size, 4, none⟩ = some (.string vl) ∧ w'.cell? ⟨w.heap.size, 5, none⟩ = some (.int .i64 n))) (by kernel_rfl) ?_ (fun hHeld => ?_)
      · (((try dsimp only); (repeat' apply And.intro); all_goals (first | assumption | ((repeat (first | (with_reducible exact Below.refl _ _) | (with_reducible assumption) | (with_reducible refine bel_al0 ?_ _) | (with_reducible refine bel_set ?_ (by first | (simp; done) | (simp; omega)) _) | (with_reducible refine bel_dr ?_) | (with_reducible refine bel_drn ?_ _) | (with_reducible refine bel_tr ?_ (by assumption)))); done) | go_keep)))
      refine wpAnyH_take (i := 0) (oi := _) (v := ?_) rfl (by kernel_rfl) (by kernel_rfl) (by kernel_rfl) (fun _ _ _ h => h) (Or.inl ⟨by rfl, ?_⟩) hHeld ?_
      rotate_left
      · intro W hSw; (try dsimp only at hSw); go_simp; (try with_reducible rfl)
      (try simp only [Act.put, List.setIfInBounds_toArray, List.set_cons_zero, List.set_cons_succ])
      refine wpAnyH_take (i := 1) (oi := _) (v := ?_) rfl (by kernel_rfl) (by kernel_rfl) (by kernel_rfl) (fun _ _ _ h => h) (Or.inl ⟨by rfl, ?_⟩) hHeld ?_
      rotate_left
      · intro W hSw; (try dsimp only at hSw); go_simp; (try with_reducible rfl)
      (try simp only [Act.put, List.setIfInBounds_toArray, List.set_cons_zero, List.set_cons_succ])
      refine wpAnyH_take (i := 3) (oi := _) (v := ?_) rfl (by kernel_rfl) (by kernel_rfl) (by kernel_rfl) (fun _ _ _ h => h) (Or.inl ⟨by rfl, ?_⟩) hHeld ?_
      rotate_left
      · intro W hSw; (try dsimp only at hSw); go_simp; (try with_reducible rfl)
      (try simp only [Act.put, List.setIfInBounds_toArray, List.set_cons_zero, List.set_cons_succ])
      refine wpAnyH_take (i := 4) (oi := _) (v := ?_) rfl (by kernel_rfl) (by kernel_rfl) (by kernel_rfl) (fun _ _ _ h => h) (Or.inl ⟨by rfl, ?_⟩) hHeld ?_
      rotate_left
      · intro W hSw; (try dsimp only at hSw); go_simp; (try with_reducible rfl)
      (try simp only [Act.put, List.setIfInBounds_toArray, List.set_cons_zero, List.set_cons_succ])
      refine wpAnyH_take (i := 5) (oi := _) (v := ?_) rfl (by kernel_rfl) (by kernel_rfl) (by kernel_rfl) (fun _ _ _ h => h) (Or.inl ⟨by rfl, ?_⟩) hHeld ?_
      rotate_left
      · intro W hSw; (try dsimp only at hSw); go_simp; (try with_reducible rfl)
      (try simp only [Act.put, List.setIfInBounds_toArray, List.set_cons_zero, List.set_cons_succ])
      refine wpAnyH_ready (rs := [2]) (by kernel_rfl) (by simp) ?_
      refine AllReadyH.cons (o := _) rfl (fun K hK => ?_) AllReadyH.nil
      go_simp
      refine (rneeds_calls _ (by assumption) _ _).mono ?_; rintro e w5 ⟨rfl, hb5⟩; have hb6 : Below wc.heap.size wc w5 := bel_tr (by (repeat (first | (with_reducible exact Below.refl _ _) | (with_reducible assumption) | (with_reducible refine bel_al0 ?_ _) | (with_reducible refine bel_set ?_ (by first | (simp; done) | (simp; omega)) _) | (with_reducible refine bel_dr ?_) | (with_reducible refine bel_drn ?_ _) | (with_reducible refine bel_tr ?_ (by assumption))))) hb5; obtain ⟨q0, q1, q2, q3, q4, q5, _⟩ := blk_six (HC.out.below hb6); obtain ⟨p0, p1, p2, p3, p4, p5, _⟩ := blk_six (HX.out.below hb6); have hl6 := cell_lt q0; have hl7 := cell_lt p0
      go_wp2_with fail
      refine hK.out _ _ ?_ (fun hHeld => ?_)
      · (((try dsimp only); (repeat' apply And.intro); all_goals (first | assumption | ((repeat (first | (with_reducible exact Below.refl _ _) | (with_reducible assumption) | (with_reducible refine bel_al0 ?_ _) | (with_reducible refine bel_set ?_ (by first | (simp; done) | (simp; omega)) _) | (with_reducible refine bel_dr ?_) | (with_reducible refine bel_drn ?_ _) | (with_reducible refine bel_tr ?_ (by assumption)))); done) | go_keep)))
      clear hK K
      (try simp only [Act.put, List.setIfInBounds_toArray, List.set_cons_zero, List.set_cons_succ])
      refine wpAnyH_take (i := 6) (oi := _) (v := ?_) rfl (by kernel_rfl) (by kernel_rfl) (by kernel_rfl) (fun _ _ _ h => h) (Or.inl ⟨by rfl, ?_⟩) hHeld ?_
      rotate_left
      · intro W hSw; (try dsimp only at hSw); go_simp; (try with_reducible rfl)
      (try simp only [Act.put, List.setIfInBounds_toArray, List.set_cons_zero, List.set_cons_succ])
      refine wpAnyH_take (i := 7) (oi := _) (v := undef) rfl (by kernel_rfl) (by kernel_rfl) (by kernel_rfl) (fun _ _ _ h => h) (Or.inr ⟨by rfl, rfl⟩) hHeld ?_
      (try simp only [Act.put, List.setIfInBounds_toArray, List.set_cons_zero, List.set_cons_succ])
      refine wpAnyH_take (i := 8) (oi := _) (v := undef) rfl (by kernel_rfl) (by kernel_rfl) (by kernel_rfl) (fun _ _ _ h => h) (Or.inr ⟨by rfl, rfl⟩) hHeld ?_
      (try simp only [Act.put, List.setIfInBounds_toArray, List.set_cons_zero, List.set_cons_succ])
      refine wpAnyH_take (i := 9) (oi := _) (v := undef) rfl (by kernel_rfl) (by kernel_rfl) (by kernel_rfl) (fun _ _ _ h => h) (Or.inr ⟨by rfl, rfl⟩) hHeld ?_
      (try simp only [Act.put, List.setIfInBounds_toArray, List.set_cons_zero, List.set_cons_succ])
      refine wpAnyH_take (i := 10) (oi := _) (v := ?_) rfl (by kernel_rfl) (by kernel_rfl) (by kernel_rfl) (fun _ _ _ h => h) (Or.inl ⟨by rfl, ?_⟩) hHeld ?_
      rotate_left
      · intro W hSw; (try dsimp only at hSw); go_simp; (try with_reducible rfl)
      (try simp only [Act.put, List.setIfInBounds_toArray, List.set_cons_zero, List.set_cons_succ])
      refine wpAnyH_ready (rs := [11]) (by kernel_rfl) (by simp) ?_
      refine AllReadyH.cons (o := _) rfl (fun K hK => ?_) AllReadyH.nil
      go_simp
      refine (when_calls _ _ _).mono ?_; rintro e w2 ⟨rfl, rfl⟩
      go_wp2_with fail
      refine hK.out _ _ ?_ (fun hHeld => ?_)
      · (((try dsimp only); (repeat' apply And.intro); all_goals (first | assumption | ((repeat (first | (with_reducible exact Below.refl _ _) | (with_reducible assumption) | (with_reducible refine bel_al0 ?_ _) | (with_reducible refine bel_set ?_ (by first | (simp; done) | (simp; omega)) _) | (with_reducible refine bel_dr ?_) | (with_reducible refine bel_drn ?_ _) | (with_reducible refine bel_tr ?_ (by assumption)))); done) | go_keep)))
      clear hK K
      (try simp only [Act.put, List.setIfInBounds_toArray, List.set_cons_zero, List.set_cons_succ])
      refine wpAnyH_ready (rs := [12]) (by kernel_rfl) (by simp) ?_
      refine AllReadyH.cons (o := _) rfl (fun K hK => ?_) AllReadyH.nil
      go_simp
      refine hK.out _ _ ?_ (fun hHeld => ?_)
      · (((try dsimp only); (repeat' apply And.intro); all_goals (first | assumption | ((repeat (first | (with_reducible exact Below.refl _ _) | (with_reducible assumption) | (with_reducible refine bel_al0 ?_ _) | (with_reducible refine bel_set ?_ (by first | (simp; done) | (simp; omega)) _) | (with_reducible refine bel_dr ?_) | (with_reducible refine bel_drn ?_ _) | (with_reducible refine bel_tr ?_ (by assumption)))); done) | go_keep)))
      clear hK K
      (try simp only [Act.put, List.setIfInBounds_toArray, List.set_cons_zero, List.set_cons_succ])
      refine wpAnyH_take (i := 13) (oi := _) (v := ?_) rfl (by kernel_rfl) (by kernel_rfl) (by kernel_rfl) (fun _ _ _ h => h) (Or.inl ⟨by rfl, ?_⟩) hHeld ?_
      rotate_left
      · intro W hSw; (try dsimp only at hSw); go_simp; (try with_reducible rfl)
      (try simp only [Act.put, List.setIfInBounds_toArray, List.set_cons_zero, List.set_cons_succ])
      refine wpAnyH_done (by kernel_rfl) ?_ _
      go_upto_region 47 with fail
      obtain ⟨z_nm, hz_nm⟩ : ∃ b, b = nm.toList.isEmpty := ⟨_, rfl⟩
      replace hz_nm := hz_nm.symm
      cases z_nm with
      | false =>
        have hr := HNO.out (Or.inr (by rw [HZ.out, hz_nm]; rfl))
        subst hr
        clear HNO HBY HZ HB
        go_wp2
        go_ret
        exact ⟨rfl, bel_tr hbwc (by (repeat (first | (with_reducible exact Below.refl _ _) | (with_reducible assumption) | (with_reducible refine bel_al0 ?_ _) | (with_reducible refine bel_set ?_ (by first | (simp; done) | (simp; omega)) _) | (with_reducible refine bel_dr ?_) | (with_reducible refine bel_drn ?_ _) | (with_reducible refine bel_tr ?_ (by assumption)))))⟩
      | true =>
        obtain ⟨z_ky, hz_ky⟩ : ∃ b, b = ky.toList.isEmpty := ⟨_, rfl⟩
        replace hz_ky := hz_ky.symm
        cases z_ky with
        | false =>
          have hr := HNO.out (Or.inr (by rw [HZ.out, hz_nm, hz_ky]; rfl))
          subst hr
          clear HNO HBY HZ HB
          go_wp2
          go_ret
          exact ⟨rfl, bel_tr hbwc (by (repeat (first | (with_reducible exact Below.refl _ _) | (with_reducible assumption) | (with_reducible refine bel_al0 ?_ _) | (with_reducible refine bel_set ?_ (by first | (simp; done) | (simp; omega)) _) | (with_reducible refine bel_dr ?_) | (with_reducible refine bel_drn ?_ _) | (with_reducible refine bel_tr ?_ (by assumption)))))⟩
        | true =>
          obtain ⟨z_vl, hz_vl⟩ : ∃ b, b = vl.toList.isEmpty := ⟨_, rfl⟩
          replace hz_vl := hz_vl.symm
          cases z_vl with
          | false =>
            have hr := HNO.out (Or.inr (by rw [HZ.out, hz_nm, hz_ky, hz_vl]; rfl))
            subst hr
            clear HNO HBY HZ HB
            go_wp2
            go_ret
            exact ⟨rfl, bel_tr hbwc (by (repeat (first | (with_reducible exact Below.refl _ _) | (with_reducible assumption) | (with_reducible refine bel_al0 ?_ _) | (with_reducible refine bel_set ?_ (by first | (simp; done) | (simp; omega)) _) | (with_reducible refine bel_dr ?_) | (with_reducible refine bel_drn ?_ _) | (with_reducible refine bel_tr ?_ (by assumption)))))⟩
          | true =>
            have hr := (HBY.out (by rw [HZ.out, hz_nm, hz_ky, hz_vl]; rfl)).trans HB.out
            subst hr
            clear HNO HBY HZ HB
            go_wp2_with (go_at_call 56; refine (rfirst2_calls _ _ 3 (refE ot false) (whenE true 137) (by first | exact blk_new _ _ _ | exact Blk.dr (blk_new _ _ _) | exact Blk.dr (Blk.dr (blk_new _ _ _)))).mono ?_; rintro e w6 ⟨rfl, rfl⟩)
            go_ret
            exact ⟨rfl, bel_tr hbwc (by (repeat (first | (with_reducible exact Below.refl _ _) | (with_reducible assumption) | (with_reducible refine bel_al0 ?_ _) | (with_reducible refine bel_set ?_ (by first | (simp; done) | (simp; omega)) _) | (with_reducible refine bel_dr ?_) | (with_reducible refine bel_drn ?_ _) | (with_reducible refine bel_tr ?_ (by assumption)))))⟩
  | false =>
    have HB : Hid (bodyV 11 nm ot ky vl n = firstV [refE ot false, whenE (decide (2 < n)) 137]) := by show _ = _; exact eq11_f nm ot ky vl n hc2
    go_enter Tryd.func18, Tryd.ntmps18
    go_upto_region 32 with fail
    have X0 := blk_new (w.alloc (.cells #[.int .i64 11, .string nm, .string ot, .string ky, .string vl, .int .i64 n] 30)) #[.int .i64 11, .string ⟨#[]⟩, .string ⟨#[]⟩, .string ⟨#[]⟩, .string ⟨#[]⟩, .int .i64 0] 30
    rw [World.size_alloc] at X0
    have C0 := HC0.out.al (.cells #[.int .i64 11, .string ⟨#[]⟩, .string ⟨#[]⟩, .string ⟨#[]⟩, .string ⟨#[]⟩, .int .i64 0] 30)
    obtain ⟨W2, hW2⟩ : ∃ W2, W2 = (w.alloc (.cells #[.int .i64 11, .string nm, .string ot, .string ky, .string vl, .int .i64 n] 30)).alloc (.cells #[.int .i64 11, .string ⟨#[]⟩, .string ⟨#[]⟩, .string ⟨#[]⟩, .string ⟨#[]⟩, .int .i64 0] 30) := ⟨_, rfl⟩
    have hbw2 : Below w.heap.size w W2 := by rw [hW2]; (repeat (first | (with_reducible exact Below.refl _ _) | (with_reducible assumption) | (with_reducible refine bel_al0 ?_ _) | (with_reducible refine bel_set ?_ (by first | (simp; done) | (simp; omega)) _) | (with_reducible refine bel_dr ?_) | (with_reducible refine bel_drn ?_ _) | (with_reducible refine bel_tr ?_ (by assumption))))
    rw [← hW2] at X0 C0 ⊢
    clear hW2
    obtain ⟨q0, q1, q2, q3, q4, q5, qf⟩ := blk_six C0
    obtain ⟨p0, p1, p2, p3, p4, p5, pf⟩ := blk_six X0
    have hl6 := cell_lt q0
    have hl7 := cell_lt p0
    have HX0 := Lib.hid X0; clear X0
    have HC1 := Lib.hid C0; clear C0
    go_cut [116] from 116 to 121 (fun _ wx => Hid (Blk wx (w.heap.size + 1) #[.int .i64 11, .string ⟨#[]⟩, .string ot, .string ⟨#[]⟩, .string ⟨#[]⟩, .int .i64 n] 30) ∧ Hid (Blk wx w.heap.size #[.int .i64 11, .string nm, .string ot, .string ky, .string vl, .int .i64 n] 30) ∧ Below w.heap.size w wx)
    case first =>
      go_region
      all_goals (
        go_wp2
        go_meet
        exact ⟨((HX0.out.set 2 (.string ot)).set 5 (.int .i64 n)), ((HC1.out.other (by omega) 2 (.string ot)).other (by omega) 5 (.int .i64 n)), by (repeat (first | (with_reducible exact Below.refl _ _) | (with_reducible assumption) | (with_reducible refine bel_al0 ?_ _) | (with_reducible refine bel_set ?_ (by first | (simp; done) | (simp; omega)) _) | (with_reducible refine bel_dr ?_) | (with_reducible refine bel_drn ?_ _) | (with_reducible refine bel_tr ?_ (by assumption))))⟩)
    case rest =>
      obtain ⟨HX, HC, hbwc⟩ := hcut
      clear q0 q1 q2 q3 q4 q5 p0 p1 p2 p3 p4 p5 qf pf hl6 hl7 HX0 HC1 HC0 hbw2
      obtain ⟨q0, q1, q2, q3, q4, q5, qf⟩ := blk_six HC.out
      obtain ⟨p0, p1, p2, p3, p4, p5, pf⟩ := blk_six HX.out
      have hl6 := cell_lt q0
      have hl7 := cell_lt p0
      go_upto_region 33 with fail
      refine wp_region_held_drew (S := (fun w' => Below wc.heap.size wc w' ∧ w'.cell? ⟨w.heap.size, 1, none⟩ = some (.string nm) ∧ w'.cell? ⟨w.heap.size, 2, none⟩ = some (.string ot) ∧ w'.cell? ⟨w.heap.size, 3, none⟩ = some (.string ky) ∧ w'.cell? ⟨w.heap.size, 4, none⟩ = some (.string vl) ∧ w'.cell? ⟨w.heap.size, 5, none⟩ = some (.int .i64 n))) (by kernel_rfl) ?_ (fun hHeld => ?_)
      · (((try dsimp only); (repeat' apply And.intro); all_goals (first | assumption | ((repeat (first | (with_reducible exact Below.refl _ _) | (with_reducible assumption) | (with_reducible refine bel_al0 ?_ _) | (with_reducible refine bel_set ?_ (by first | (simp; done) | (simp; omega)) _) | (with_reducible refine bel_dr ?_) | (with_reducible refine bel_drn ?_ _) | (with_reducible refine bel_tr ?_ (by assumption)))); done) | go_keep)))
      refine wpAnyH_take (i := 0) (oi := _) (v := ?_) rfl (by kernel_rfl) (by kernel_rfl) (by kernel_rfl) (fun _ _ _ h => h) (Or.inl ⟨by rfl, ?_⟩) hHeld ?_
      rotate_left
      · intro W hSw; (try dsimp only at hSw); go_simp; (try with_reducible rfl)
      (try simp only [Act.put, List.setIfInBounds_toArray, List.set_cons_zero, List.set_cons_succ])
      refine wpAnyH_take (i := 1) (oi := _) (v := ?_) rfl (by kernel_rfl) (by kernel_rfl) (by kernel_rfl) (fun _ _ _ h => h) (Or.inl ⟨by rfl, ?_⟩) hHeld ?_
      rotate_left
      · intro W hSw; (try dsimp only at hSw); go_simp; (try with_reducible rfl)
      (try simp only [Act.put, List.setIfInBounds_toArray, List.set_cons_zero, List.set_cons_succ])
      refine wpAnyH_take (i := 3) (oi := _) (v := ?_) rfl (by kernel_rfl) (by kernel_rfl) (by kernel_rfl) (fun _ _ _ h => h) (Or.inl ⟨by rfl, ?_⟩) hHeld ?_
      rotate_left
      · intro W hSw; (try dsimp only at hSw); go_simp; (try with_reducible rfl)
      (try simp only [Act.put, List.setIfInBounds_toArray, List.set_cons_zero, List.set_cons_succ])
      refine wpAnyH_take (i := 4) (oi := _) (v := ?_) rfl (by kernel_rfl) (by kernel_rfl) (by kernel_rfl) (fun _ _ _ h => h) (Or.inl ⟨by rfl, ?_⟩) hHeld ?_
      rotate_left
      · intro W hSw; (try dsimp only at hSw); go_simp; (try with_reducible rfl)
      (try simp only [Act.put, List.setIfInBounds_toArray, List.set_cons_zero, List.set_cons_succ])
      refine wpAnyH_take (i := 5) (oi := _) (v := ?_) rfl (by kernel_rfl) (by kernel_rfl) (by kernel_rfl) (fun _ _ _ h => h) (Or.inl ⟨by rfl, ?_⟩) hHeld ?_
      rotate_left
      · intro W hSw; (try dsimp only at hSw); go_simp; (try with_reducible rfl)
      (try simp only [Act.put, List.setIfInBounds_toArray, List.set_cons_zero, List.set_cons_succ])
      refine wpAnyH_ready (rs := [2]) (by kernel_rfl) (by simp) ?_
      refine AllReadyH.cons (o := _) rfl (fun K hK => ?_) AllReadyH.nil
      go_simp
      refine (rneeds_calls _ (by assumption) _ _).mono ?_; rintro e w5 ⟨rfl, hb5⟩; have hb6 : Below wc.heap.size wc w5 := bel_tr (by (repeat (first | (with_reducible exact Below.refl _ _) | (with_reducible assumption) | (with_reducible refine bel_al0 ?_ _) | (with_reducible refine bel_set ?_ (by first | (simp; done) | (simp; omega)) _) | (with_reducible refine bel_dr ?_) | (with_reducible refine bel_drn ?_ _) | (with_reducible refine bel_tr ?_ (by assumption))))) hb5; obtain ⟨q0, q1, q2, q3, q4, q5, _⟩ := blk_six (HC.out.below hb6); obtain ⟨p0, p1, p2, p3, p4, p5, _⟩ := blk_six (HX.out.below hb6); have hl6 := cell_lt q0; have hl7 := cell_lt p0
      go_wp2_with fail
      refine hK.out _ _ ?_ (fun hHeld => ?_)
      · (((try dsimp only); (repeat' apply And.intro); all_goals (first | assumption | ((repeat (first | (with_reducible exact Below.refl _ _) | (with_reducible assumption) | (with_reducible refine bel_al0 ?_ _) | (with_reducible refine bel_set ?_ (by first | (simp; done) | (simp; omega)) _) | (with_reducible refine bel_dr ?_) | (with_reducible refine bel_drn ?_ _) | (with_reducible refine bel_tr ?_ (by assumption)))); done) | go_keep)))
      clear hK K
      (try simp only [Act.put, List.setIfInBounds_toArray, List.set_cons_zero, List.set_cons_succ])
      refine wpAnyH_take (i := 6) (oi := _) (v := ?_) rfl (by kernel_rfl) (by kernel_rfl) (by kernel_rfl) (fun _ _ _ h => h) (Or.inl ⟨by rfl, ?_⟩) hHeld ?_
      rotate_left
      · intro W hSw; (try dsimp only at hSw); go_simp; (try with_reducible rfl)
      (try simp only [Act.put, List.setIfInBounds_toArray, List.set_cons_zero, List.set_cons_succ])
      refine wpAnyH_take (i := 7) (oi := _) (v := ?_) rfl (by kernel_rfl) (by kernel_rfl) (by kernel_rfl) (fun _ _ _ h => h) (Or.inl ⟨by rfl, ?_⟩) hHeld ?_
      rotate_left
      · intro W hSw; (try dsimp only at hSw); go_simp; (try with_reducible rfl)
      (try simp only [Act.put, List.setIfInBounds_toArray, List.set_cons_zero, List.set_cons_succ])
      refine wpAnyH_take (i := 8) (oi := _) (v := ?_) rfl (by kernel_rfl) (by kernel_rfl) (by kernel_rfl) (fun _ _ _ h => h) (Or.inl ⟨by rfl, ?_⟩) hHeld ?_
      rotate_left
      · intro W hSw; (try dsimp only at hSw); go_simp; (try with_reducible rfl)
      (try simp only [Act.put, List.setIfInBounds_toArray, List.set_cons_zero, List.set_cons_succ])
      refine wpAnyH_take (i := 9) (oi := _) (v := ?_) rfl (by kernel_rfl) (by kernel_rfl) (by kernel_rfl) (fun _ _ _ h => h) (Or.inl ⟨by rfl, ?_⟩) hHeld ?_
      rotate_left
      · intro W hSw; (try dsimp only at hSw); go_simp; (try with_reducible rfl)
      (try simp only [Act.put, List.setIfInBounds_toArray, List.set_cons_zero, List.set_cons_succ])
      refine wpAnyH_take (i := 10) (oi := _) (v := ?_) rfl (by kernel_rfl) (by kernel_rfl) (by kernel_rfl) (fun _ _ _ h => h) (Or.inl ⟨by rfl, ?_⟩) hHeld ?_
      rotate_left
      · intro W hSw; (try dsimp only at hSw); go_simp; (try with_reducible rfl)
      (try simp only [Act.put, List.setIfInBounds_toArray, List.set_cons_zero, List.set_cons_succ])
      refine wpAnyH_ready (rs := [11]) (by kernel_rfl) (by simp) ?_
      refine AllReadyH.cons (o := _) rfl (fun K hK => ?_) AllReadyH.nil
      go_simp
      refine (when_calls _ _ _).mono ?_; rintro e w2 ⟨rfl, rfl⟩
      go_wp2_with fail
      refine hK.out _ _ ?_ (fun hHeld => ?_)
      · (((try dsimp only); (repeat' apply And.intro); all_goals (first | assumption | ((repeat (first | (with_reducible exact Below.refl _ _) | (with_reducible assumption) | (with_reducible refine bel_al0 ?_ _) | (with_reducible refine bel_set ?_ (by first | (simp; done) | (simp; omega)) _) | (with_reducible refine bel_dr ?_) | (with_reducible refine bel_drn ?_ _) | (with_reducible refine bel_tr ?_ (by assumption)))); done) | go_keep)))
      clear hK K
      (try simp only [Act.put, List.setIfInBounds_toArray, List.set_cons_zero, List.set_cons_succ])
      refine wpAnyH_ready (rs := [12]) (by kernel_rfl) (by simp) ?_
      refine AllReadyH.cons (o := _) rfl (fun K hK => ?_) AllReadyH.nil
      go_simp
      refine hK.out _ _ ?_ (fun hHeld => ?_)
      · (((try dsimp only); (repeat' apply And.intro); all_goals (first | assumption | ((repeat (first | (with_reducible exact Below.refl _ _) | (with_reducible assumption) | (with_reducible refine bel_al0 ?_ _) | (with_reducible refine bel_set ?_ (by first | (simp; done) | (simp; omega)) _) | (with_reducible refine bel_dr ?_) | (with_reducible refine bel_drn ?_ _) | (with_reducible refine bel_tr ?_ (by assumption)))); done) | go_keep)))
      clear hK K
      (try simp only [Act.put, List.setIfInBounds_toArray, List.set_cons_zero, List.set_cons_succ])
      refine wpAnyH_take (i := 13) (oi := _) (v := ?_) rfl (by kernel_rfl) (by kernel_rfl) (by kernel_rfl) (fun _ _ _ h => h) (Or.inl ⟨by rfl, ?_⟩) hHeld ?_
      rotate_left
      · intro W hSw; (try dsimp only at hSw); go_simp; (try with_reducible rfl)
      (try simp only [Act.put, List.setIfInBounds_toArray, List.set_cons_zero, List.set_cons_succ])
      refine wpAnyH_done (by kernel_rfl) ?_ _
      go_upto_region 47 with fail
      obtain ⟨z_nm, hz_nm⟩ : ∃ b, b = nm.toList.isEmpty := ⟨_, rfl⟩
      replace hz_nm := hz_nm.symm
      cases z_nm with
      | false =>
        have hr := HNO.out (Or.inr (by rw [HZ.out, hz_nm]; rfl))
        subst hr
        clear HNO HBY HZ HB
        go_wp2
        go_ret
        exact ⟨rfl, bel_tr hbwc (by (repeat (first | (with_reducible exact Below.refl _ _) | (with_reducible assumption) | (with_reducible refine bel_al0 ?_ _) | (with_reducible refine bel_set ?_ (by first | (simp; done) | (simp; omega)) _) | (with_reducible refine bel_dr ?_) | (with_reducible refine bel_drn ?_ _) | (with_reducible refine bel_tr ?_ (by assumption)))))⟩
      | true =>
        obtain ⟨z_ky, hz_ky⟩ : ∃ b, b = ky.toList.isEmpty := ⟨_, rfl⟩
        replace hz_ky := hz_ky.symm
        cases z_ky with
        | false =>
          have hr := HNO.out (Or.inr (by rw [HZ.out, hz_nm, hz_ky]; rfl))
          subst hr
          clear HNO HBY HZ HB
          go_wp2
          go_ret
          exact ⟨rfl, bel_tr hbwc (by (repeat (first | (with_reducible exact Below.refl _ _) | (with_reducible assumption) | (with_reducible refine bel_al0 ?_ _) | (with_reducible refine bel_set ?_ (by first | (simp; done) | (simp; omega)) _) | (with_reducible refine bel_dr ?_) | (with_reducible refine bel_drn ?_ _) | (with_reducible refine bel_tr ?_ (by assumption)))))⟩
        | true =>
          obtain ⟨z_vl, hz_vl⟩ : ∃ b, b = vl.toList.isEmpty := ⟨_, rfl⟩
          replace hz_vl := hz_vl.symm
          cases z_vl with
          | false =>
            have hr := HNO.out (Or.inr (by rw [HZ.out, hz_nm, hz_ky, hz_vl]; rfl))
            subst hr
            clear HNO HBY HZ HB
            go_wp2
            go_ret
            exact ⟨rfl, bel_tr hbwc (by (repeat (first | (with_reducible exact Below.refl _ _) | (with_reducible assumption) | (with_reducible refine bel_al0 ?_ _) | (with_reducible refine bel_set ?_ (by first | (simp; done) | (simp; omega)) _) | (with_reducible refine bel_dr ?_) | (with_reducible refine bel_drn ?_ _) | (with_reducible refine bel_tr ?_ (by assumption)))))⟩
          | true =>
            have hr := (HBY.out (by rw [HZ.out, hz_nm, hz_ky, hz_vl]; rfl)).trans HB.out
            subst hr
            clear HNO HBY HZ HB
            go_wp2_with (go_at_call 56; refine (rfirst2_calls _ _ 3 (refE ot false) (whenE (decide (2 < n)) 137) (by first | exact blk_new _ _ _ | exact Blk.dr (blk_new _ _ _) | exact Blk.dr (Blk.dr (blk_new _ _ _)))).mono ?_; rintro e w6 ⟨rfl, rfl⟩)
            go_ret
            exact ⟨rfl, bel_tr hbwc (by (repeat (first | (with_reducible exact Below.refl _ _) | (with_reducible assumption) | (with_reducible refine bel_al0 ?_ _) | (with_reducible refine bel_set ?_ (by first | (simp; done) | (simp; omega)) _) | (with_reducible refine bel_dr ?_) | (with_reducible refine bel_drn ?_ _) | (with_reducible refine bel_tr ?_ (by assumption)))))⟩
set_option maxHeartbeats 16000000 in
theorem rcheck_17 (nm ot ky vl : ByteArray) (n : Int) (h1 : nm.size ≤ 1000000) (h2 : ot.size ≤ 1000000) (h3 : ky.size ≤ 1000000) (h4 : vl.size ≤ 1000000) (hn : n ≤ 9223372036854775807) (w : World) :
    Calls Tryd.prog 18 #[.agg #[.int .i64 17, .string nm, .string ot, .string ky, .string vl, .int .i64 n]] w fun e w' => e = .returned (.int .i64 (checkV 17 nm ot ky vl n)) ∧ Below w.heap.size w w' := by
  have HNO := Lib.hid (@checkV_no 17 nm ot ky vl n)
  have HBY := Lib.hid (fun h => @checkV_yes 17 nm ot ky vl n rfl h)
  have HZ : Hid (zeroV 17 nm ot ky vl n = ((bN 17 || nm.toList.isEmpty) && ((bO 17 || ot.toList.isEmpty) && ((bK 17 || ky.toList.isEmpty) && ((bV 17 || vl.toList.isEmpty) && (bI 17 || (n == 0))))))) := rfl
  obtain ⟨r, hr⟩ : ∃ r, r = checkV 17 nm ot ky vl n := ⟨_, rfl⟩
  rw [← hr] at HNO HBY ⊢
  clear hr
  have HC0 := Lib.hid (blk_new w #[.int .i64 17, .string nm, .string ot, .string ky, .string vl, .int .i64 n] 30)
  have HB : Hid (bodyV 17 nm ot ky vl n = firstV [refE ot true, whenE (decide (n < 0)) 1]) := by show _ = _; exact eq17 nm ot ky vl n hn
  go_enter Tryd.func18, Tryd.ntmps18
  go_upto_region 42 with fail
  have X0 := blk_new (w.alloc (.cells #[.int .i64 17, .string nm, .string ot, .string ky, .string vl, .int .i64 n] 30)) #[.int .i64 17, .string ⟨#[]⟩, .string ⟨#[]⟩, .string ⟨#[]⟩, .string ⟨#[]⟩, .int .i64 0] 30
  rw [World.size_alloc] at X0
  have C0 := HC0.out.al (.cells #[.int .i64 17, .string ⟨#[]⟩, .string ⟨#[]⟩, .string ⟨#[]⟩, .string ⟨#[]⟩, .int .i64 0] 30)
  obtain ⟨W2, hW2⟩ : ∃ W2, W2 = (w.alloc (.cells #[.int .i64 17, .string nm, .string ot, .string ky, .string vl, .int .i64 n] 30)).alloc (.cells #[.int .i64 17, .string ⟨#[]⟩, .string ⟨#[]⟩, .string ⟨#[]⟩, .string ⟨#[]⟩, .int .i64 0] 30) := ⟨_, rfl⟩
  have hbw2 : Below w.heap.size w W2 := by rw [hW2]; (repeat (first | (with_reducible exact Below.refl _ _) | (with_reducible assumption) | (with_reducible refine bel_al0 ?_ _) | (with_reducible refine bel_set ?_ (by first | (simp; done) | (simp; omega)) _) | (with_reducible refine bel_dr ?_) | (with_reducible refine bel_drn ?_ _) | (with_reducible refine bel_tr ?_ (by assumption))))
  rw [← hW2] at X0 C0 ⊢
  clear hW2
  obtain ⟨q0, q1, q2, q3, q4, q5, qf⟩ := blk_six C0
  obtain ⟨p0, p1, p2, p3, p4, p5, pf⟩ := blk_six X0
  have hl6 := cell_lt q0
  have hl7 := cell_lt p0
  have HX0 := Lib.hid X0; clear X0
  have HC1 := Lib.hid C0; clear C0
  go_cut [189] from 189 to 194 (fun _ wx => Hid (Blk wx (w.heap.size + 1) #[.int .i64 17, .string ⟨#[]⟩, .string ot, .string ⟨#[]⟩, .string ⟨#[]⟩, .int .i64 n] 30) ∧ Hid (Blk wx w.heap.size #[.int .i64 17, .string nm, .string ot, .string ky, .string vl, .int .i64 n] 30) ∧ Below w.heap.size w wx)
  case first =>
    go_region
    all_goals (
      go_wp2
      go_meet
      exact ⟨((HX0.out.set 2 (.string ot)).set 5 (.int .i64 n)), ((HC1.out.other (by omega) 2 (.string ot)).other (by omega) 5 (.int .i64 n)), by (repeat (first | (with_reducible exact Below.refl _ _) | (with_reducible assumption) | (with_reducible refine bel_al0 ?_ _) | (with_reducible refine bel_set ?_ (by first | (simp; done) | (simp; omega)) _) | (with_reducible refine bel_dr ?_) | (with_reducible refine bel_drn ?_ _) | (with_reducible refine bel_tr ?_ (by assumption))))⟩)
  case rest =>
    obtain ⟨HX, HC, hbwc⟩ := hcut
    clear q0 q1 q2 q3 q4 q5 p0 p1 p2 p3 p4 p5 qf pf hl6 hl7 HX0 HC1 HC0 hbw2
    obtain ⟨q0, q1, q2, q3, q4, q5, qf⟩ := blk_six HC.out
    obtain ⟨p0, p1, p2, p3, p4, p5, pf⟩ := blk_six HX.out
    have hl6 := cell_lt q0
    have hl7 := cell_lt p0
    go_upto_region 43 with fail
    go_region_held3 (fun w' => Below wc.heap.size wc w' ∧ w'.cell? ⟨w.heap.size, 1, none⟩ = some (.string nm) ∧ w'.cell? ⟨w.heap.size, 2, none⟩ = some (.string ot) ∧ w'.cell? ⟨w.heap.size, 3, none⟩ = some (.string ky) ∧ w'.cell? ⟨w.heap.size, 4, none⟩ = some (.string vl) ∧ w'.cell? ⟨w.heap.size, 5, none⟩ = some (.int .i64 n)) (((try dsimp only); (repeat' apply And.intro); all_goals (first | assumption | ((repeat (first | (with_reducible exact Below.refl _ _) | (with_reducible assumption) | (with_reducible refine bel_al0 ?_ _) | (with_reducible refine bel_set ?_ (by first | (simp; done) | (simp; omega)) _) | (with_reducible refine bel_dr ?_) | (with_reducible refine bel_drn ?_ _) | (with_reducible refine bel_tr ?_ (by assumption)))); done) | go_keep))) (first | (go_at_call 55; refine (rneeds_calls _ (by assumption) _ _).mono ?_; rintro e w5 ⟨rfl, hb5⟩; have hb6 : Below wc.heap.size wc w5 := bel_tr (by (repeat (first | (with_reducible exact Below.refl _ _) | (with_reducible assumption) | (with_reducible refine bel_al0 ?_ _) | (with_reducible refine bel_set ?_ (by first | (simp; done) | (simp; omega)) _) | (with_reducible refine bel_dr ?_) | (with_reducible refine bel_drn ?_ _) | (with_reducible refine bel_tr ?_ (by assumption))))) hb5; obtain ⟨q0, q1, q2, q3, q4, q5, _⟩ := blk_six (HC.out.below hb6); obtain ⟨p0, p1, p2, p3, p4, p5, _⟩ := blk_six (HX.out.below hb6); have hl6 := cell_lt q0; have hl7 := cell_lt p0) | (go_at_call 53; refine (when_calls _ _ _).mono ?_; rintro e w2 ⟨rfl, rfl⟩))
    go_upto_region 47 with fail
    obtain ⟨z_nm, hz_nm⟩ : ∃ b, b = nm.toList.isEmpty := ⟨_, rfl⟩
    replace hz_nm := hz_nm.symm
    cases z_nm with
    | false =>
      have hr := HNO.out (Or.inr (by rw [HZ.out, hz_nm]; rfl))
      subst hr
      clear HNO HBY HZ HB
      go_wp2
      go_ret
      exact ⟨rfl, bel_tr hbwc (by (repeat (first | (with_reducible exact Below.refl _ _) | (with_reducible assumption) | (with_reducible refine bel_al0 ?_ _) | (with_reducible refine bel_set ?_ (by first | (simp; done) | (simp; omega)) _) | (with_reducible refine bel_dr ?_) | (with_reducible refine bel_drn ?_ _) | (with_reducible refine bel_tr ?_ (by assumption)))))⟩
    | true =>
      obtain ⟨z_ky, hz_ky⟩ : ∃ b, b = ky.toList.isEmpty := ⟨_, rfl⟩
      replace hz_ky := hz_ky.symm
      cases z_ky with
      | false =>
        have hr := HNO.out (Or.inr (by rw [HZ.out, hz_nm, hz_ky]; rfl))
        subst hr
        clear HNO HBY HZ HB
        go_wp2
        go_ret
        exact ⟨rfl, bel_tr hbwc (by (repeat (first | (with_reducible exact Below.refl _ _) | (with_reducible assumption) | (with_reducible refine bel_al0 ?_ _) | (with_reducible refine bel_set ?_ (by first | (simp; done) | (simp; omega)) _) | (with_reducible refine bel_dr ?_) | (with_reducible refine bel_drn ?_ _) | (with_reducible refine bel_tr ?_ (by assumption)))))⟩
      | true =>
        obtain ⟨z_vl, hz_vl⟩ : ∃ b, b = vl.toList.isEmpty := ⟨_, rfl⟩
        replace hz_vl := hz_vl.symm
        cases z_vl with
        | false =>
          have hr := HNO.out (Or.inr (by rw [HZ.out, hz_nm, hz_ky, hz_vl]; rfl))
          subst hr
          clear HNO HBY HZ HB
          go_wp2
          go_ret
          exact ⟨rfl, bel_tr hbwc (by (repeat (first | (with_reducible exact Below.refl _ _) | (with_reducible assumption) | (with_reducible refine bel_al0 ?_ _) | (with_reducible refine bel_set ?_ (by first | (simp; done) | (simp; omega)) _) | (with_reducible refine bel_dr ?_) | (with_reducible refine bel_drn ?_ _) | (with_reducible refine bel_tr ?_ (by assumption)))))⟩
        | true =>
          have hr := (HBY.out (by rw [HZ.out, hz_nm, hz_ky, hz_vl]; rfl)).trans HB.out
          subst hr
          clear HNO HBY HZ HB
          go_wp2_with (go_at_call 56; refine (rfirst2_calls _ _ 3 (refE ot true) (whenE (decide (n < 0)) 1) (by first | exact blk_new _ _ _ | exact Blk.dr (blk_new _ _ _) | exact Blk.dr (Blk.dr (blk_new _ _ _)))).mono ?_; rintro e w6 ⟨rfl, rfl⟩)
          go_ret
          exact ⟨rfl, bel_tr hbwc (by (repeat (first | (with_reducible exact Below.refl _ _) | (with_reducible assumption) | (with_reducible refine bel_al0 ?_ _) | (with_reducible refine bel_set ?_ (by first | (simp; done) | (simp; omega)) _) | (with_reducible refine bel_dr ?_) | (with_reducible refine bel_drn ?_ _) | (with_reducible refine bel_tr ?_ (by assumption)))))⟩
end Go.Proofs.YtehneliphhgegaaDoor
