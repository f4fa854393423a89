/- The document's Check (chapter 19): walked, a theorem for each kind. Written by gen-drcheck.py. -/
import Derived.Test.YtehneliphhgegaaDoorDCheckV
import Derived.Deep.CutBlock
set_option linter.unusedVariables false
set_option linter.unusedSimpArgs false
set_option maxRecDepth 100000
namespace Go.Proofs.YtehneliphhgegaaDoor
open Go.RowKit Go.Apo

set_option maxHeartbeats 8000000 in
theorem rcheck_no (k : Int) (hk : k < 1 ∨ 20 < k) (nm ot ky vl : ByteArray) (n : Int) (h1 : nm.size ≤ 1000000) (h2 : ot.size ≤ 1000000) (h3 : ky.size ≤ 1000000) (h4 : vl.size ≤ 1000000) (hn : n ≤ 9223372036854775807) (w : World) :
    Calls Tryd.prog 18 #[.agg #[.int .i64 k, .string nm, .string ot, .string ky, .string vl, .int .i64 n]] w fun e w' => e = .returned (.int .i64 (checkV k nm ot ky vl n)) ∧ Below w.heap.size w w' := by
  rw [checkV_no (Or.inl (isK_no hk))]
  have g1 : (k == 1) = false := by simp; omega
  have g2 : (k == 2) = false := by simp; omega
  have g3 : (k == 3) = false := by simp; omega
  have g4 : (k == 4) = false := by simp; omega
  have g5 : (k == 5) = false := by simp; omega
  have g6 : (k == 6) = false := by simp; omega
  have g7 : (k == 7) = false := by simp; omega
  have g8 : (k == 8) = false := by simp; omega
  have g9 : (k == 9) = false := by simp; omega
  have g10 : (k == 10) = false := by simp; omega
  have g11 : (k == 11) = false := by simp; omega
  have g12 : (k == 12) = false := by simp; omega
  have g13 : (k == 13) = false := by simp; omega
  have g14 : (k == 14) = false := by simp; omega
  have g15 : (k == 15) = false := by simp; omega
  have g16 : (k == 16) = false := by simp; omega
  have g17 : (k == 17) = false := by simp; omega
  have g18 : (k == 18) = false := by simp; omega
  have g19 : (k == 19) = false := by simp; omega
  have g20 : (k == 20) = false := by simp; omega
  clear hk h1 h2 h3 h4 hn
  go_enter Tryd.func18, Tryd.ntmps18
  go_wp2
  go_ret
  exact ⟨rfl, by (repeat (first | (with_reducible exact Below.refl _ _) | (with_reducible assumption) | (with_reducible refine bel_al0 ?_ _) | (with_reducible refine bel_set ?_ (by first | (simp; done) | (simp; omega)) _) | (with_reducible refine bel_dr ?_) | (with_reducible refine bel_drn ?_ _) | (with_reducible refine bel_tr ?_ (by assumption))))⟩
set_option maxHeartbeats 16000000 in
theorem rcheck_13 (nm ot ky vl : ByteArray) (n : Int) (h1 : nm.size ≤ 1000000) (h2 : ot.size ≤ 1000000) (h3 : ky.size ≤ 1000000) (h4 : vl.size ≤ 1000000) (hn : n ≤ 9223372036854775807) (w : World) :
    Calls Tryd.prog 18 #[.agg #[.int .i64 13, .string nm, .string ot, .string ky, .string vl, .int .i64 n]] w fun e w' => e = .returned (.int .i64 (checkV 13 nm ot ky vl n)) ∧ Below w.heap.size w w' := by
  have HNO := Lib.hid (@checkV_no 13 nm ot ky vl n)
  have HBY := Lib.hid (fun h => @checkV_yes 13 nm ot ky vl n rfl h)
  have HZ : Hid (zeroV 13 nm ot ky vl n = ((bN 13 || nm.toList.isEmpty) && ((bO 13 || ot.toList.isEmpty) && ((bK 13 || ky.toList.isEmpty) && ((bV 13 || vl.toList.isEmpty) && (bI 13 || (n == 0))))))) := rfl
  obtain ⟨r, hr⟩ : ∃ r, r = checkV 13 nm ot ky vl n := ⟨_, rfl⟩
  rw [← hr] at HNO HBY ⊢
  clear hr
  have HC0 := Lib.hid (blk_new w #[.int .i64 13, .string nm, .string ot, .string ky, .string vl, .int .i64 n] 30)
  have HB : Hid (bodyV 13 nm ot ky vl n = firstV []) := by show _ = _; exact by unfold bodyV; simp [firstV_one, firstV]
  go_enter Tryd.func18, Tryd.ntmps18
  go_upto_region 47 with fail
  obtain ⟨z_nm, hz_nm⟩ : ∃ b, b = nm.toList.isEmpty := ⟨_, rfl⟩
  replace hz_nm := hz_nm.symm
  cases z_nm with
  | false =>
    have hr := HNO.out (Or.inr (by rw [HZ.out, hz_nm]; rfl))
    subst hr
    clear HNO HBY HZ HB
    go_wp2
    go_ret
    exact ⟨rfl, by (repeat (first | (with_reducible exact Below.refl _ _) | (with_reducible assumption) | (with_reducible refine bel_al0 ?_ _) | (with_reducible refine bel_set ?_ (by first | (simp; done) | (simp; omega)) _) | (with_reducible refine bel_dr ?_) | (with_reducible refine bel_drn ?_ _) | (with_reducible refine bel_tr ?_ (by assumption))))⟩
  | true =>
    obtain ⟨z_ot, hz_ot⟩ : ∃ b, b = ot.toList.isEmpty := ⟨_, rfl⟩
    replace hz_ot := hz_ot.symm
    cases z_ot with
    | false =>
      have hr := HNO.out (Or.inr (by rw [HZ.out, hz_nm, hz_ot]; rfl))
      subst hr
      clear HNO HBY HZ HB
      go_wp2
      go_ret
      exact ⟨rfl, by (repeat (first | (with_reducible exact Below.refl _ _) | (with_reducible assumption) | (with_reducible refine bel_al0 ?_ _) | (with_reducible refine bel_set ?_ (by first | (simp; done) | (simp; omega)) _) | (with_reducible refine bel_dr ?_) | (with_reducible refine bel_drn ?_ _) | (with_reducible refine bel_tr ?_ (by assumption))))⟩
    | true =>
      obtain ⟨z_ky, hz_ky⟩ : ∃ b, b = ky.toList.isEmpty := ⟨_, rfl⟩
      replace hz_ky := hz_ky.symm
      cases z_ky with
      | false =>
        have hr := HNO.out (Or.inr (by rw [HZ.out, hz_nm, hz_ot, hz_ky]; rfl))
        subst hr
        clear HNO HBY HZ HB
        go_wp2
        go_ret
        exact ⟨rfl, by (repeat (first | (with_reducible exact Below.refl _ _) | (with_reducible assumption) | (with_reducible refine bel_al0 ?_ _) | (with_reducible refine bel_set ?_ (by first | (simp; done) | (simp; omega)) _) | (with_reducible refine bel_dr ?_) | (with_reducible refine bel_drn ?_ _) | (with_reducible refine bel_tr ?_ (by assumption))))⟩
      | true =>
        obtain ⟨z_vl, hz_vl⟩ : ∃ b, b = vl.toList.isEmpty := ⟨_, rfl⟩
        replace hz_vl := hz_vl.symm
        cases z_vl with
        | false =>
          have hr := HNO.out (Or.inr (by rw [HZ.out, hz_nm, hz_ot, hz_ky, hz_vl]; rfl))
          subst hr
          clear HNO HBY HZ HB
          go_wp2
          go_ret
          exact ⟨rfl, by (repeat (first | (with_reducible exact Below.refl _ _) | (with_reducible assumption) | (with_reducible refine bel_al0 ?_ _) | (with_reducible refine bel_set ?_ (by first | (simp; done) | (simp; omega)) _) | (with_reducible refine bel_dr ?_) | (with_reducible refine bel_drn ?_ _) | (with_reducible refine bel_tr ?_ (by assumption))))⟩
        | true =>
          obtain ⟨z_n, hz_n⟩ : ∃ b, b = (n == 0) := ⟨_, rfl⟩
          replace hz_n := hz_n.symm
          have hz_m : ((0 : Int) == n) = z_n := by rw [← hz_n, Bool.eq_iff_iff]; simp; exact eq_comm
          cases z_n with
          | false =>
            have hr := HNO.out (Or.inr (by rw [HZ.out, hz_nm, hz_ot, hz_ky, hz_vl, hz_n]; rfl))
            subst hr
            clear HNO HBY HZ HB
            go_wp2
            go_ret
            exact ⟨rfl, by (repeat (first | (with_reducible exact Below.refl _ _) | (with_reducible assumption) | (with_reducible refine bel_al0 ?_ _) | (with_reducible refine bel_set ?_ (by first | (simp; done) | (simp; omega)) _) | (with_reducible refine bel_dr ?_) | (with_reducible refine bel_drn ?_ _) | (with_reducible refine bel_tr ?_ (by assumption))))⟩
          | true =>
            have hr := (HBY.out (by rw [HZ.out, hz_nm, hz_ot, hz_ky, hz_vl, hz_n]; rfl)).trans HB.out
            subst hr
            clear HNO HBY HZ HB
            go_wp2_with (go_at_call 56; refine (rfirst0_calls _).mono ?_; rintro e w6 ⟨rfl, rfl⟩)
            go_ret
            exact ⟨rfl, by (repeat (first | (with_reducible exact Below.refl _ _) | (with_reducible assumption) | (with_reducible refine bel_al0 ?_ _) | (with_reducible refine bel_set ?_ (by first | (simp; done) | (simp; omega)) _) | (with_reducible refine bel_dr ?_) | (with_reducible refine bel_drn ?_ _) | (with_reducible refine bel_tr ?_ (by assumption))))⟩
set_option maxHeartbeats 16000000 in
theorem rcheck_19 (nm ot ky vl : ByteArray) (n : Int) (h1 : nm.size ≤ 1000000) (h2 : ot.size ≤ 1000000) (h3 : ky.size ≤ 1000000) (h4 : vl.size ≤ 1000000) (hn : n ≤ 9223372036854775807) (w : World) :
    Calls Tryd.prog 18 #[.agg #[.int .i64 19, .string nm, .string ot, .string ky, .string vl, .int .i64 n]] w fun e w' => e = .returned (.int .i64 (checkV 19 nm ot ky vl n)) ∧ Below w.heap.size w w' := by
  have HNO := Lib.hid (@checkV_no 19 nm ot ky vl n)
  have HBY := Lib.hid (fun h => @checkV_yes 19 nm ot ky vl n rfl h)
  have HZ : Hid (zeroV 19 nm ot ky vl n = ((bN 19 || nm.toList.isEmpty) && ((bO 19 || ot.toList.isEmpty) && ((bK 19 || ky.toList.isEmpty) && ((bV 19 || vl.toList.isEmpty) && (bI 19 || (n == 0))))))) := rfl
  obtain ⟨r, hr⟩ : ∃ r, r = checkV 19 nm ot ky vl n := ⟨_, rfl⟩
  rw [← hr] at HNO HBY ⊢
  clear hr
  have HC0 := Lib.hid (blk_new w #[.int .i64 19, .string nm, .string ot, .string ky, .string vl, .int .i64 n] 30)
  have HB : Hid (bodyV 19 nm ot ky vl n = firstV []) := by show _ = _; exact by unfold bodyV; simp [firstV_one, firstV]
  go_enter Tryd.func18, Tryd.ntmps18
  go_upto_region 47 with fail
  obtain ⟨z_nm, hz_nm⟩ : ∃ b, b = nm.toList.isEmpty := ⟨_, rfl⟩
  replace hz_nm := hz_nm.symm
  cases z_nm with
  | false =>
    have hr := HNO.out (Or.inr (by rw [HZ.out, hz_nm]; rfl))
    subst hr
    clear HNO HBY HZ HB
    go_wp2
    go_ret
    exact ⟨rfl, by (repeat (first | (with_reducible exact Below.refl _ _) | (with_reducible assumption) | (with_reducible refine bel_al0 ?_ _) | (with_reducible refine bel_set ?_ (by first | (simp; done) | (simp; omega)) _) | (with_reducible refine bel_dr ?_) | (with_reducible refine bel_drn ?_ _) | (with_reducible refine bel_tr ?_ (by assumption))))⟩
  | true =>
    obtain ⟨z_ot, hz_ot⟩ : ∃ b, b = ot.toList.isEmpty := ⟨_, rfl⟩
    replace hz_ot := hz_ot.symm
    cases z_ot with
    | false =>
      have hr := HNO.out (Or.inr (by rw [HZ.out, hz_nm, hz_ot]; rfl))
      subst hr
      clear HNO HBY HZ HB
      go_wp2
      go_ret
      exact ⟨rfl, by (repeat (first | (with_reducible exact Below.refl _ _) | (with_reducible assumption) | (with_reducible refine bel_al0 ?_ _) | (with_reducible refine bel_set ?_ (by first | (simp; done) | (simp; omega)) _) | (with_reducible refine bel_dr ?_) | (with_reducible refine bel_drn ?_ _) | (with_reducible refine bel_tr ?_ (by assumption))))⟩
    | true =>
      obtain ⟨z_ky, hz_ky⟩ : ∃ b, b = ky.toList.isEmpty := ⟨_, rfl⟩
      replace hz_ky := hz_ky.symm
      cases z_ky with
      | false =>
        have hr := HNO.out (Or.inr (by rw [HZ.out, hz_nm, hz_ot, hz_ky]; rfl))
        subst hr
        clear HNO HBY HZ HB
        go_wp2
        go_ret
        exact ⟨rfl, by (repeat (first | (with_reducible exact Below.refl _ _) | (with_reducible assumption) | (with_reducible refine bel_al0 ?_ _) | (with_reducible refine bel_set ?_ (by first | (simp; done) | (simp; omega)) _) | (with_reducible refine bel_dr ?_) | (with_reducible refine bel_drn ?_ _) | (with_reducible refine bel_tr ?_ (by assumption))))⟩
      | true =>
        obtain ⟨z_vl, hz_vl⟩ : ∃ b, b = vl.toList.isEmpty := ⟨_, rfl⟩
        replace hz_vl := hz_vl.symm
        cases z_vl with
        | false =>
          have hr := HNO.out (Or.inr (by rw [HZ.out, hz_nm, hz_ot, hz_ky, hz_vl]; rfl))
          subst hr
          clear HNO HBY HZ HB
          go_wp2
          go_ret
          exact ⟨rfl, by (repeat (first | (with_reducible exact Below.refl _ _) | (with_reducible assumption) | (with_reducible refine bel_al0 ?_ _) | (with_reducible refine bel_set ?_ (by first | (simp; done) | (simp; omega)) _) | (with_reducible refine bel_dr ?_) | (with_reducible refine bel_drn ?_ _) | (with_reducible refine bel_tr ?_ (by assumption))))⟩
        | true =>
          obtain ⟨z_n, hz_n⟩ : ∃ b, b = (n == 0) := ⟨_, rfl⟩
          replace hz_n := hz_n.symm
          have hz_m : ((0 : Int) == n) = z_n := by rw [← hz_n, Bool.eq_iff_iff]; simp; exact eq_comm
          cases z_n with
          | false =>
            have hr := HNO.out (Or.inr (by rw [HZ.out, hz_nm, hz_ot, hz_ky, hz_vl, hz_n]; rfl))
            subst hr
            clear HNO HBY HZ HB
            go_wp2
            go_ret
            exact ⟨rfl, by (repeat (first | (with_reducible exact Below.refl _ _) | (with_reducible assumption) | (with_reducible refine bel_al0 ?_ _) | (with_reducible refine bel_set ?_ (by first | (simp; done) | (simp; omega)) _) | (with_reducible refine bel_dr ?_) | (with_reducible refine bel_drn ?_ _) | (with_reducible refine bel_tr ?_ (by assumption))))⟩
          | true =>
            have hr := (HBY.out (by rw [HZ.out, hz_nm, hz_ot, hz_ky, hz_vl, hz_n]; rfl)).trans HB.out
            subst hr
            clear HNO HBY HZ HB
            go_wp2_with (go_at_call 56; refine (rfirst0_calls _).mono ?_; rintro e w6 ⟨rfl, rfl⟩)
            go_ret
            exact ⟨rfl, by (repeat (first | (with_reducible exact Below.refl _ _) | (with_reducible assumption) | (with_reducible refine bel_al0 ?_ _) | (with_reducible refine bel_set ?_ (by first | (simp; done) | (simp; omega)) _) | (with_reducible refine bel_dr ?_) | (with_reducible refine bel_drn ?_ _) | (with_reducible refine bel_tr ?_ (by assumption))))⟩
set_option maxHeartbeats 16000000 in
theorem rcheck_20 (nm ot ky vl : ByteArray) (n : Int) (h1 : nm.size ≤ 1000000) (h2 : ot.size ≤ 1000000) (h3 : ky.size ≤ 1000000) (h4 : vl.size ≤ 1000000) (hn : n ≤ 9223372036854775807) (w : World) :
    Calls Tryd.prog 18 #[.agg #[.int .i64 20, .string nm, .string ot, .string ky, .string vl, .int .i64 n]] w fun e w' => e = .returned (.int .i64 (checkV 20 nm ot ky vl n)) ∧ Below w.heap.size w w' := by
  have HNO := Lib.hid (@checkV_no 20 nm ot ky vl n)
  have HBY := Lib.hid (fun h => @checkV_yes 20 nm ot ky vl n rfl h)
  have HZ : Hid (zeroV 20 nm ot ky vl n = ((bN 20 || nm.toList.isEmpty) && ((bO 20 || ot.toList.isEmpty) && ((bK 20 || ky.toList.isEmpty) && ((bV 20 || vl.toList.isEmpty) && (bI 20 || (n == 0))))))) := rfl
  obtain ⟨r, hr⟩ : ∃ r, r = checkV 20 nm ot ky vl n := ⟨_, rfl⟩
  rw [← hr] at HNO HBY ⊢
  clear hr
  have HC0 := Lib.hid (blk_new w #[.int .i64 20, .string nm, .string ot, .string ky, .string vl, .int .i64 n] 30)
  have HB : Hid (bodyV 20 nm ot ky vl n = firstV []) := by show _ = _; exact by unfold bodyV; simp [firstV_one, firstV]
  go_enter Tryd.func18, Tryd.ntmps18
  go_upto_region 47 with fail
  obtain ⟨z_nm, hz_nm⟩ : ∃ b, b = nm.toList.isEmpty := ⟨_, rfl⟩
  replace hz_nm := hz_nm.symm
  cases z_nm with
  | false =>
    have hr := HNO.out (Or.inr (by rw [HZ.out, hz_nm]; rfl))
    subst hr
    clear HNO HBY HZ HB
    go_wp2
    go_ret
    exact ⟨rfl, by (repeat (first | (with_reducible exact Below.refl _ _) | (with_reducible assumption) | (with_reducible refine bel_al0 ?_ _) | (with_reducible refine bel_set ?_ (by first | (simp; done) | (simp; omega)) _) | (with_reducible refine bel_dr ?_) | (with_reducible refine bel_drn ?_ _) | (with_reducible refine bel_tr ?_ (by assumption))))⟩
  | true =>
    obtain ⟨z_ot, hz_ot⟩ : ∃ b, b = ot.toList.isEmpty := ⟨_, rfl⟩
    replace hz_ot := hz_ot.symm
    cases z_ot with
    | false =>
      have hr := HNO.out (Or.inr (by rw [HZ.out, hz_nm, hz_ot]; rfl))
      subst hr
      clear HNO HBY HZ HB
      go_wp2
      go_ret
      exact ⟨rfl, by (repeat (first | (with_reducible exact Below.refl _ _) | (with_reducible assumption) | (with_reducible refine bel_al0 ?_ _) | (with_reducible refine bel_set ?_ (by first | (simp; done) | (simp; omega)) _) | (with_reducible refine bel_dr ?_) | (with_reducible refine bel_drn ?_ _) | (with_reducible refine bel_tr ?_ (by assumption))))⟩
    | true =>
      obtain ⟨z_ky, hz_ky⟩ : ∃ b, b = ky.toList.isEmpty := ⟨_, rfl⟩
      replace hz_ky := hz_ky.symm
      cases z_ky with
      | false =>
        have hr := HNO.out (Or.inr (by rw [HZ.out, hz_nm, hz_ot, hz_ky]; rfl))
        subst hr
        clear HNO HBY HZ HB
        go_wp2
        go_ret
        exact ⟨rfl, by (repeat (first | (with_reducible exact Below.refl _ _) | (with_reducible assumption) | (with_reducible refine bel_al0 ?_ _) | (with_reducible refine bel_set ?_ (by first | (simp; done) | (simp; omega)) _) | (with_reducible refine bel_dr ?_) | (with_reducible refine bel_drn ?_ _) | (with_reducible refine bel_tr ?_ (by assumption))))⟩
      | true =>
        obtain ⟨z_vl, hz_vl⟩ : ∃ b, b = vl.toList.isEmpty := ⟨_, rfl⟩
        replace hz_vl := hz_vl.symm
        cases z_vl with
        | false =>
          have hr := HNO.out (Or.inr (by rw [HZ.out, hz_nm, hz_ot, hz_ky, hz_vl]; rfl))
          subst hr
          clear HNO HBY HZ HB
          go_wp2
          go_ret
          exact ⟨rfl, by (repeat (first | (with_reducible exact Below.refl _ _) | (with_reducible assumption) | (with_reducible refine bel_al0 ?_ _) | (with_reducible refine bel_set ?_ (by first | (simp; done) | (simp; omega)) _) | (with_reducible refine bel_dr ?_) | (with_reducible refine bel_drn ?_ _) | (with_reducible refine bel_tr ?_ (by assumption))))⟩
        | true =>
          obtain ⟨z_n, hz_n⟩ : ∃ b, b = (n == 0) := ⟨_, rfl⟩
          replace hz_n := hz_n.symm
          have hz_m : ((0 : Int) == n) = z_n := by rw [← hz_n, Bool.eq_iff_iff]; simp; exact eq_comm
          cases z_n with
          | false =>
            have hr := HNO.out (Or.inr (by rw [HZ.out, hz_nm, hz_ot, hz_ky, hz_vl, hz_n]; rfl))
            subst hr
            clear HNO HBY HZ HB
            go_wp2
            go_ret
            exact ⟨rfl, by (repeat (first | (with_reducible exact Below.refl _ _) | (with_reducible assumption) | (with_reducible refine bel_al0 ?_ _) | (with_reducible refine bel_set ?_ (by first | (simp; done) | (simp; omega)) _) | (with_reducible refine bel_dr ?_) | (with_reducible refine bel_drn ?_ _) | (with_reducible refine bel_tr ?_ (by assumption))))⟩
          | true =>
            have hr := (HBY.out (by rw [HZ.out, hz_nm, hz_ot, hz_ky, hz_vl, hz_n]; rfl)).trans HB.out
            subst hr
            clear HNO HBY HZ HB
            go_wp2_with (go_at_call 56; refine (rfirst0_calls _).mono ?_; rintro e w6 ⟨rfl, rfl⟩)
            go_ret
            exact ⟨rfl, by (repeat (first | (with_reducible exact Below.refl _ _) | (with_reducible assumption) | (with_reducible refine bel_al0 ?_ _) | (with_reducible refine bel_set ?_ (by first | (simp; done) | (simp; omega)) _) | (with_reducible refine bel_dr ?_) | (with_reducible refine bel_drn ?_ _) | (with_reducible refine bel_tr ?_ (by assumption))))⟩
set_option maxHeartbeats 16000000 in
theorem rcheck_2 (nm ot ky vl : ByteArray) (n : Int) (h1 : nm.size ≤ 1000000) (h2 : ot.size ≤ 1000000) (h3 : ky.size ≤ 1000000) (h4 : vl.size ≤ 1000000) (hn : n ≤ 9223372036854775807) (w : World) :
    Calls Tryd.prog 18 #[.agg #[.int .i64 2, .string nm, .string ot, .string ky, .string vl, .int .i64 n]] w fun e w' => e = .returned (.int .i64 (checkV 2 nm ot ky vl n)) ∧ Below w.heap.size w w' := by
  have HNO := Lib.hid (@checkV_no 2 nm ot ky vl n)
  have HBY := Lib.hid (fun h => @checkV_yes 2 nm ot ky vl n rfl h)
  have HZ : Hid (zeroV 2 nm ot ky vl n = ((bN 2 || nm.toList.isEmpty) && ((bO 2 || ot.toList.isEmpty) && ((bK 2 || ky.toList.isEmpty) && ((bV 2 || vl.toList.isEmpty) && (bI 2 || (n == 0))))))) := rfl
  obtain ⟨r, hr⟩ : ∃ r, r = checkV 2 nm ot ky vl n := ⟨_, rfl⟩
  rw [← hr] at HNO HBY ⊢
  clear hr
  have HC0 := Lib.hid (blk_new w #[.int .i64 2, .string nm, .string ot, .string ky, .string vl, .int .i64 n] 30)
  have HB : Hid (bodyV 2 nm ot ky vl n = firstV [keyE ky]) := by show _ = _; exact by unfold bodyV; simp [firstV_one, firstV]
  go_enter Tryd.func18, Tryd.ntmps18
  go_upto_region 10 with fail
  have X0 := blk_new (w.alloc (.cells #[.int .i64 2, .string nm, .string ot, .string ky, .string vl, .int .i64 n] 30)) #[.int .i64 2, .string ⟨#[]⟩, .string ⟨#[]⟩, .string ⟨#[]⟩, .string ⟨#[]⟩, .int .i64 0] 30
  rw [World.size_alloc] at X0
  have C0 := HC0.out.al (.cells #[.int .i64 2, .string ⟨#[]⟩, .string ⟨#[]⟩, .string ⟨#[]⟩, .string ⟨#[]⟩, .int .i64 0] 30)
  obtain ⟨W2, hW2⟩ : ∃ W2, W2 = (w.alloc (.cells #[.int .i64 2, .string nm, .string ot, .string ky, .string vl, .int .i64 n] 30)).alloc (.cells #[.int .i64 2, .string ⟨#[]⟩, .string ⟨#[]⟩, .string ⟨#[]⟩, .string ⟨#[]⟩, .int .i64 0] 30) := ⟨_, rfl⟩
  have hbw2 : Below w.heap.size w W2 := by rw [hW2]; (repeat (first | (with_reducible exact Below.refl _ _) | (with_reducible assumption) | (with_reducible refine bel_al0 ?_ _) | (with_reducible refine bel_set ?_ (by first | (simp; done) | (simp; omega)) _) | (with_reducible refine bel_dr ?_) | (with_reducible refine bel_drn ?_ _) | (with_reducible refine bel_tr ?_ (by assumption))))
  rw [← hW2] at X0 C0 ⊢
  clear hW2
  obtain ⟨q0, q1, q2, q3, q4, q5, qf⟩ := blk_six C0
  obtain ⟨p0, p1, p2, p3, p4, p5, pf⟩ := blk_six X0
  have hl6 := cell_lt q0
  have hl7 := cell_lt p0
  have HX0 := Lib.hid X0; clear X0
  have HC1 := Lib.hid C0; clear C0
  go_cut [28] from 28 to 30 (fun _ wx => Hid (Blk wx (w.heap.size + 1) #[.int .i64 2, .string ⟨#[]⟩, .string ⟨#[]⟩, .string ky, .string ⟨#[]⟩, .int .i64 0] 30) ∧ Hid (Blk wx w.heap.size #[.int .i64 2, .string nm, .string ot, .string ky, .string vl, .int .i64 n] 30) ∧ Below w.heap.size w wx)
  case first =>
    all_goals (
      go_wp2
      go_meet
      exact ⟨(HX0.out.set 3 (.string ky)), (HC1.out.other (by omega) 3 (.string ky)), by (repeat (first | (with_reducible exact Below.refl _ _) | (with_reducible assumption) | (with_reducible refine bel_al0 ?_ _) | (with_reducible refine bel_set ?_ (by first | (simp; done) | (simp; omega)) _) | (with_reducible refine bel_dr ?_) | (with_reducible refine bel_drn ?_ _) | (with_reducible refine bel_tr ?_ (by assumption))))⟩)
  case rest =>
    obtain ⟨HX, HC, hbwc⟩ := hcut
    clear q0 q1 q2 q3 q4 q5 p0 p1 p2 p3 p4 p5 qf pf hl6 hl7 HX0 HC1 HC0 hbw2
    obtain ⟨q0, q1, q2, q3, q4, q5, qf⟩ := blk_six HC.out
    obtain ⟨p0, p1, p2, p3, p4, p5, pf⟩ := blk_six HX.out
    have hl6 := cell_lt q0
    have hl7 := cell_lt p0
    go_upto_region 47 with ((go_at_call 51; refine (rkey_calls ky _).mono ?_; rintro e w2 ⟨rfl, rfl⟩))
    obtain ⟨z_nm, hz_nm⟩ : ∃ b, b = nm.toList.isEmpty := ⟨_, rfl⟩
    replace hz_nm := hz_nm.symm
    cases z_nm with
    | false =>
      have hr := HNO.out (Or.inr (by rw [HZ.out, hz_nm]; rfl))
      subst hr
      clear HNO HBY HZ HB
      go_wp2
      go_ret
      exact ⟨rfl, bel_tr hbwc (by (repeat (first | (with_reducible exact Below.refl _ _) | (with_reducible assumption) | (with_reducible refine bel_al0 ?_ _) | (with_reducible refine bel_set ?_ (by first | (simp; done) | (simp; omega)) _) | (with_reducible refine bel_dr ?_) | (with_reducible refine bel_drn ?_ _) | (with_reducible refine bel_tr ?_ (by assumption)))))⟩
    | true =>
      obtain ⟨z_ot, hz_ot⟩ : ∃ b, b = ot.toList.isEmpty := ⟨_, rfl⟩
      replace hz_ot := hz_ot.symm
      cases z_ot with
      | false =>
        have hr := HNO.out (Or.inr (by rw [HZ.out, hz_nm, hz_ot]; rfl))
        subst hr
        clear HNO HBY HZ HB
        go_wp2
        go_ret
        exact ⟨rfl, bel_tr hbwc (by (repeat (first | (with_reducible exact Below.refl _ _) | (with_reducible assumption) | (with_reducible refine bel_al0 ?_ _) | (with_reducible refine bel_set ?_ (by first | (simp; done) | (simp; omega)) _) | (with_reducible refine bel_dr ?_) | (with_reducible refine bel_drn ?_ _) | (with_reducible refine bel_tr ?_ (by assumption)))))⟩
      | true =>
        obtain ⟨z_vl, hz_vl⟩ : ∃ b, b = vl.toList.isEmpty := ⟨_, rfl⟩
        replace hz_vl := hz_vl.symm
        cases z_vl with
        | false =>
          have hr := HNO.out (Or.inr (by rw [HZ.out, hz_nm, hz_ot, hz_vl]; rfl))
          subst hr
          clear HNO HBY HZ HB
          go_wp2
          go_ret
          exact ⟨rfl, bel_tr hbwc (by (repeat (first | (with_reducible exact Below.refl _ _) | (with_reducible assumption) | (with_reducible refine bel_al0 ?_ _) | (with_reducible refine bel_set ?_ (by first | (simp; done) | (simp; omega)) _) | (with_reducible refine bel_dr ?_) | (with_reducible refine bel_drn ?_ _) | (with_reducible refine bel_tr ?_ (by assumption)))))⟩
        | true =>
          obtain ⟨z_n, hz_n⟩ : ∃ b, b = (n == 0) := ⟨_, rfl⟩
          replace hz_n := hz_n.symm
          have hz_m : ((0 : Int) == n) = z_n := by rw [← hz_n, Bool.eq_iff_iff]; simp; exact eq_comm
          cases z_n with
          | false =>
            have hr := HNO.out (Or.inr (by rw [HZ.out, hz_nm, hz_ot, hz_vl, hz_n]; rfl))
            subst hr
            clear HNO HBY HZ HB
            go_wp2
            go_ret
            exact ⟨rfl, bel_tr hbwc (by (repeat (first | (with_reducible exact Below.refl _ _) | (with_reducible assumption) | (with_reducible refine bel_al0 ?_ _) | (with_reducible refine bel_set ?_ (by first | (simp; done) | (simp; omega)) _) | (with_reducible refine bel_dr ?_) | (with_reducible refine bel_drn ?_ _) | (with_reducible refine bel_tr ?_ (by assumption)))))⟩
          | true =>
            have hr := (HBY.out (by rw [HZ.out, hz_nm, hz_ot, hz_vl, hz_n]; rfl)).trans HB.out
            subst hr
            clear HNO HBY HZ HB
            go_wp2_with (go_at_call 56; refine (rfirst1_calls _ _ 3 (keyE ky) (by first | exact blk_new _ _ _ | exact Blk.dr (blk_new _ _ _) | exact Blk.dr (Blk.dr (blk_new _ _ _)))).mono ?_; rintro e w6 ⟨rfl, rfl⟩)
            go_ret
            exact ⟨rfl, bel_tr hbwc (by (repeat (first | (with_reducible exact Below.refl _ _) | (with_reducible assumption) | (with_reducible refine bel_al0 ?_ _) | (with_reducible refine bel_set ?_ (by first | (simp; done) | (simp; omega)) _) | (with_reducible refine bel_dr ?_) | (with_reducible refine bel_drn ?_ _) | (with_reducible refine bel_tr ?_ (by assumption)))))⟩
set_option maxHeartbeats 16000000 in
theorem rcheck_3 (nm ot ky vl : ByteArray) (n : Int) (h1 : nm.size ≤ 1000000) (h2 : ot.size ≤ 1000000) (h3 : ky.size ≤ 1000000) (h4 : vl.size ≤ 1000000) (hn : n ≤ 9223372036854775807) (w : World) :
    Calls Tryd.prog 18 #[.agg #[.int .i64 3, .string nm, .string ot, .string ky, .string vl, .int .i64 n]] w fun e w' => e = .returned (.int .i64 (checkV 3 nm ot ky vl n)) ∧ Below w.heap.size w w' := by
  have HNO := Lib.hid (@checkV_no 3 nm ot ky vl n)
  have HBY := Lib.hid (fun h => @checkV_yes 3 nm ot ky vl n rfl h)
  have HZ : Hid (zeroV 3 nm ot ky vl n = ((bN 3 || nm.toList.isEmpty) && ((bO 3 || ot.toList.isEmpty) && ((bK 3 || ky.toList.isEmpty) && ((bV 3 || vl.toList.isEmpty) && (bI 3 || (n == 0))))))) := rfl
  obtain ⟨r, hr⟩ : ∃ r, r = checkV 3 nm ot ky vl n := ⟨_, rfl⟩
  rw [← hr] at HNO HBY ⊢
  clear hr
  have HC0 := Lib.hid (blk_new w #[.int .i64 3, .string nm, .string ot, .string ky, .string vl, .int .i64 n] 30)
  have HB : Hid (bodyV 3 nm ot ky vl n = firstV [keyE ky]) := by show _ = _; exact by unfold bodyV; simp [firstV_one, firstV]
  go_enter Tryd.func18, Tryd.ntmps18
  go_upto_region 10 with fail
  have X0 := blk_new (w.alloc (.cells #[.int .i64 3, .string nm, .string ot, .string ky, .string vl, .int .i64 n] 30)) #[.int .i64 3, .string ⟨#[]⟩, .string ⟨#[]⟩, .string ⟨#[]⟩, .string ⟨#[]⟩, .int .i64 0] 30
  rw [World.size_alloc] at X0
  have C0 := HC0.out.al (.cells #[.int .i64 3, .string ⟨#[]⟩, .string ⟨#[]⟩, .string ⟨#[]⟩, .string ⟨#[]⟩, .int .i64 0] 30)
  obtain ⟨W2, hW2⟩ : ∃ W2, W2 = (w.alloc (.cells #[.int .i64 3, .string nm, .string ot, .string ky, .string vl, .int .i64 n] 30)).alloc (.cells #[.int .i64 3, .string ⟨#[]⟩, .string ⟨#[]⟩, .string ⟨#[]⟩, .string ⟨#[]⟩, .int .i64 0] 30) := ⟨_, rfl⟩
  have hbw2 : Below w.heap.size w W2 := by rw [hW2]; (repeat (first | (with_reducible exact Below.refl _ _) | (with_reducible assumption) | (with_reducible refine bel_al0 ?_ _) | (with_reducible refine bel_set ?_ (by first | (simp; done) | (simp; omega)) _) | (with_reducible refine bel_dr ?_) | (with_reducible refine bel_drn ?_ _) | (with_reducible refine bel_tr ?_ (by assumption))))
  rw [← hW2] at X0 C0 ⊢
  clear hW2
  obtain ⟨q0, q1, q2, q3, q4, q5, qf⟩ := blk_six C0
  obtain ⟨p0, p1, p2, p3, p4, p5, pf⟩ := blk_six X0
  have hl6 := cell_lt q0
  have hl7 := cell_lt p0
  have HX0 := Lib.hid X0; clear X0
  have HC1 := Lib.hid C0; clear C0
  go_cut [28] from 28 to 30 (fun _ wx => Hid (Blk wx (w.heap.size + 1) #[.int .i64 3, .string ⟨#[]⟩, .string ⟨#[]⟩, .string ky, .string ⟨#[]⟩, .int .i64 0] 30) ∧ Hid (Blk wx w.heap.size #[.int .i64 3, .string nm, .string ot, .string ky, .string vl, .int .i64 n] 30) ∧ Below w.heap.size w wx)
  case first =>
    all_goals (
      go_wp2
      go_meet
      exact ⟨(HX0.out.set 3 (.string ky)), (HC1.out.other (by omega) 3 (.string ky)), by (repeat (first | (with_reducible exact Below.refl _ _) | (with_reducible assumption) | (with_reducible refine bel_al0 ?_ _) | (with_reducible refine bel_set ?_ (by first | (simp; done) | (simp; omega)) _) | (with_reducible refine bel_dr ?_) | (with_reducible refine bel_drn ?_ _) | (with_reducible refine bel_tr ?_ (by assumption))))⟩)
  case rest =>
    obtain ⟨HX, HC, hbwc⟩ := hcut
    clear q0 q1 q2 q3 q4 q5 p0 p1 p2 p3 p4 p5 qf pf hl6 hl7 HX0 HC1 HC0 hbw2
    obtain ⟨q0, q1, q2, q3, q4, q5, qf⟩ := blk_six HC.out
    obtain ⟨p0, p1, p2, p3, p4, p5, pf⟩ := blk_six HX.out
    have hl6 := cell_lt q0
    have hl7 := cell_lt p0
    go_upto_region 47 with ((go_at_call 51; refine (rkey_calls ky _).mono ?_; rintro e w2 ⟨rfl, rfl⟩))
    obtain ⟨z_nm, hz_nm⟩ : ∃ b, b = nm.toList.isEmpty := ⟨_, rfl⟩
    replace hz_nm := hz_nm.symm
    cases z_nm with
    | false =>
      have hr := HNO.out (Or.inr (by rw [HZ.out, hz_nm]; rfl))
      subst hr
      clear HNO HBY HZ HB
      go_wp2
      go_ret
      exact ⟨rfl, bel_tr hbwc (by (repeat (first | (with_reducible exact Below.refl _ _) | (with_reducible assumption) | (with_reducible refine bel_al0 ?_ _) | (with_reducible refine bel_set ?_ (by first | (simp; done) | (simp; omega)) _) | (with_reducible refine bel_dr ?_) | (with_reducible refine bel_drn ?_ _) | (with_reducible refine bel_tr ?_ (by assumption)))))⟩
    | true =>
      obtain ⟨z_ot, hz_ot⟩ : ∃ b, b = ot.toList.isEmpty := ⟨_, rfl⟩
      replace hz_ot := hz_ot.symm
      cases z_ot with
      | false =>
        have hr := HNO.out (Or.inr (by rw [HZ.out, hz_nm, hz_ot]; rfl))
        subst hr
        clear HNO HBY HZ HB
        go_wp2
        go_ret
        exact ⟨rfl, bel_tr hbwc (by (repeat (first | (with_reducible exact Below.refl _ _) | (with_reducible assumption) | (with_reducible refine bel_al0 ?_ _) | (with_reducible refine bel_set ?_ (by first | (simp; done) | (simp; omega)) _) | (with_reducible refine bel_dr ?_) | (with_reducible refine bel_drn ?_ _) | (with_reducible refine bel_tr ?_ (by assumption)))))⟩
      | true =>
        obtain ⟨z_vl, hz_vl⟩ : ∃ b, b = vl.toList.isEmpty := ⟨_, rfl⟩
        replace hz_vl := hz_vl.symm
        cases z_vl with
        | false =>
          have hr := HNO.out (Or.inr (by rw [HZ.out, hz_nm, hz_ot, hz_vl]; rfl))
          subst hr
          clear HNO HBY HZ HB
          go_wp2
          go_ret
          exact ⟨rfl, bel_tr hbwc (by (repeat (first | (with_reducible exact Below.refl _ _) | (with_reducible assumption) | (with_reducible refine bel_al0 ?_ _) | (with_reducible refine bel_set ?_ (by first | (simp; done) | (simp; omega)) _) | (with_reducible refine bel_dr ?_) | (with_reducible refine bel_drn ?_ _) | (with_reducible refine bel_tr ?_ (by assumption)))))⟩
        | true =>
          obtain ⟨z_n, hz_n⟩ : ∃ b, b = (n == 0) := ⟨_, rfl⟩
          replace hz_n := hz_n.symm
          have hz_m : ((0 : Int) == n) = z_n := by rw [← hz_n, Bool.eq_iff_iff]; simp; exact eq_comm
          cases z_n with
          | false =>
            have hr := HNO.out (Or.inr (by rw [HZ.out, hz_nm, hz_ot, hz_vl, hz_n]; rfl))
            subst hr
            clear HNO HBY HZ HB
            go_wp2
            go_ret
            exact ⟨rfl, bel_tr hbwc (by (repeat (first | (with_reducible exact Below.refl _ _) | (with_reducible assumption) | (with_reducible refine bel_al0 ?_ _) | (with_reducible refine bel_set ?_ (by first | (simp; done) | (simp; omega)) _) | (with_reducible refine bel_dr ?_) | (with_reducible refine bel_drn ?_ _) | (with_reducible refine bel_tr ?_ (by assumption)))))⟩
          | true =>
            have hr := (HBY.out (by rw [HZ.out, hz_nm, hz_ot, hz_vl, hz_n]; rfl)).trans HB.out
            subst hr
            clear HNO HBY HZ HB
            go_wp2_with (go_at_call 56; refine (rfirst1_calls _ _ 3 (keyE ky) (by first | exact blk_new _ _ _ | exact Blk.dr (blk_new _ _ _) | exact Blk.dr (Blk.dr (blk_new _ _ _)))).mono ?_; rintro e w6 ⟨rfl, rfl⟩)
            go_ret
            exact ⟨rfl, bel_tr hbwc (by (repeat (first | (with_reducible exact Below.refl _ _) | (with_reducible assumption) | (with_reducible refine bel_al0 ?_ _) | (with_reducible refine bel_set ?_ (by first | (simp; done) | (simp; omega)) _) | (with_reducible refine bel_dr ?_) | (with_reducible refine bel_drn ?_ _) | (with_reducible refine bel_tr ?_ (by assumption)))))⟩
set_option maxHeartbeats 16000000 in
theorem rcheck_1 (nm ot ky vl : ByteArray) (n : Int) (h1 : nm.size ≤ 1000000) (h2 : ot.size ≤ 1000000) (h3 : ky.size ≤ 1000000) (h4 : vl.size ≤ 1000000) (hn : n ≤ 9223372036854775807) (w : World) :
    Calls Tryd.prog 18 #[.agg #[.int .i64 1, .string nm, .string ot, .string ky, .string vl, .int .i64 n]] w fun e w' => e = .returned (.int .i64 (checkV 1 nm ot ky vl n)) ∧ Below w.heap.size w w' := by
  have HNO := Lib.hid (@checkV_no 1 nm ot ky vl n)
  have HBY := Lib.hid (fun h => @checkV_yes 1 nm ot ky vl n rfl h)
  have HZ : Hid (zeroV 1 nm ot ky vl n = ((bN 1 || nm.toList.isEmpty) && ((bO 1 || ot.toList.isEmpty) && ((bK 1 || ky.toList.isEmpty) && ((bV 1 || vl.toList.isEmpty) && (bI 1 || (n == 0))))))) := rfl
  obtain ⟨r, hr⟩ : ∃ r, r = checkV 1 nm ot ky vl n := ⟨_, rfl⟩
  rw [← hr] at HNO HBY ⊢
  clear hr
  have HC0 := Lib.hid (blk_new w #[.int .i64 1, .string nm, .string ot, .string ky, .string vl, .int .i64 n] 30)
  have HB : Hid (bodyV 1 nm ot ky vl n = firstV [keyE ky, valE vl]) := by show _ = _; exact by unfold bodyV; simp [firstV_one, firstV]
  go_enter Tryd.func18, Tryd.ntmps18
  go_upto_region 6 with fail
  have X0 := blk_new (w.alloc (.cells #[.int .i64 1, .string nm, .string ot, .string ky, .string vl, .int .i64 n] 30)) #[.int .i64 1, .string ⟨#[]⟩, .string ⟨#[]⟩, .string ⟨#[]⟩, .string ⟨#[]⟩, .int .i64 0] 30
  rw [World.size_alloc] at X0
  have C0 := HC0.out.al (.cells #[.int .i64 1, .string ⟨#[]⟩, .string ⟨#[]⟩, .string ⟨#[]⟩, .string ⟨#[]⟩, .int .i64 0] 30)
  obtain ⟨W2, hW2⟩ : ∃ W2, W2 = (w.alloc (.cells #[.int .i64 1, .string nm, .string ot, .string ky, .string vl, .int .i64 n] 30)).alloc (.cells #[.int .i64 1, .string ⟨#[]⟩, .string ⟨#[]⟩, .string ⟨#[]⟩, .string ⟨#[]⟩, .int .i64 0] 30) := ⟨_, rfl⟩
  have hbw2 : Below w.heap.size w W2 := by rw [hW2]; (repeat (first | (with_reducible exact Below.refl _ _) | (with_reducible assumption) | (with_reducible refine bel_al0 ?_ _) | (with_reducible refine bel_set ?_ (by first | (simp; done) | (simp; omega)) _) | (with_reducible refine bel_dr ?_) | (with_reducible refine bel_drn ?_ _) | (with_reducible refine bel_tr ?_ (by assumption))))
  rw [← hW2] at X0 C0 ⊢
  clear hW2
  obtain ⟨q0, q1, q2, q3, q4, q5, qf⟩ := blk_six C0
  obtain ⟨p0, p1, p2, p3, p4, p5, pf⟩ := blk_six X0
  have hl6 := cell_lt q0
  have hl7 := cell_lt p0
  have HX0 := Lib.hid X0; clear X0
  have HC1 := Lib.hid C0; clear C0
  go_cut [12] from 12 to 17 (fun _ wx => Hid (Blk wx (w.heap.size + 1) #[.int .i64 1, .string ⟨#[]⟩, .string ⟨#[]⟩, .string ky, .string vl, .int .i64 0] 30) ∧ Hid (Blk wx w.heap.size #[.int .i64 1, .string nm, .string ot, .string ky, .string vl, .int .i64 n] 30) ∧ Below w.heap.size w wx)
  case first =>
    go_region
    all_goals (
      go_wp2
      go_meet
      exact ⟨((HX0.out.set 3 (.string ky)).set 4 (.string vl)), ((HC1.out.other (by omega) 3 (.string ky)).other (by omega) 4 (.string vl)), by (repeat (first | (with_reducible exact Below.refl _ _) | (with_reducible assumption) | (with_reducible refine bel_al0 ?_ _) | (with_reducible refine bel_set ?_ (by first | (simp; done) | (simp; omega)) _) | (with_reducible refine bel_dr ?_) | (with_reducible refine bel_drn ?_ _) | (with_reducible refine bel_tr ?_ (by assumption))))⟩)
  case rest =>
    obtain ⟨HX, HC, hbwc⟩ := hcut
    clear q0 q1 q2 q3 q4 q5 p0 p1 p2 p3 p4 p5 qf pf hl6 hl7 HX0 HC1 HC0 hbw2
    obtain ⟨q0, q1, q2, q3, q4, q5, qf⟩ := blk_six HC.out
    obtain ⟨p0, p1, p2, p3, p4, p5, pf⟩ := blk_six HX.out
    have hl6 := cell_lt q0
    have hl7 := cell_lt p0
    go_upto_region 7 with fail
    go_region_held3 (fun w' => Below wc.heap.size wc w' ∧ w'.cell? ⟨w.heap.size, 1, none⟩ = some (.string nm) ∧ w'.cell? ⟨w.heap.size, 2, none⟩ = some (.string ot) ∧ w'.cell? ⟨w.heap.size, 3, none⟩ = some (.string ky) ∧ w'.cell? ⟨w.heap.size, 4, none⟩ = some (.string vl) ∧ w'.cell? ⟨w.heap.size, 5, none⟩ = some (.int .i64 n)) (((try dsimp only); (repeat' apply And.intro); all_goals (first | assumption | ((repeat (first | (with_reducible exact Below.refl _ _) | (with_reducible assumption) | (with_reducible refine bel_al0 ?_ _) | (with_reducible refine bel_set ?_ (by first | (simp; done) | (simp; omega)) _) | (with_reducible refine bel_dr ?_) | (with_reducible refine bel_drn ?_ _) | (with_reducible refine bel_tr ?_ (by assumption)))); done) | go_keep))) (first | (go_at_call 51; refine (rkey_calls ky _).mono ?_; rintro e w2 ⟨rfl, rfl⟩) | (go_at_call 52; refine (rval_calls vl _).mono ?_; rintro e w2 ⟨rfl, rfl⟩))
    go_upto_region 47 with fail
    obtain ⟨z_nm, hz_nm⟩ : ∃ b, b = nm.toList.isEmpty := ⟨_, rfl⟩
    replace hz_nm := hz_nm.symm
    cases z_nm with
    | false =>
      have hr := HNO.out (Or.inr (by rw [HZ.out, hz_nm]; rfl))
      subst hr
      clear HNO HBY HZ HB
      go_wp2
      go_ret
      exact ⟨rfl, bel_tr hbwc (by (repeat (first | (with_reducible exact Below.refl _ _) | (with_reducible assumption) | (with_reducible refine bel_al0 ?_ _) | (with_reducible refine bel_set ?_ (by first | (simp; done) | (simp; omega)) _) | (with_reducible refine bel_dr ?_) | (with_reducible refine bel_drn ?_ _) | (with_reducible refine bel_tr ?_ (by assumption)))))⟩
    | true =>
      obtain ⟨z_ot, hz_ot⟩ : ∃ b, b = ot.toList.isEmpty := ⟨_, rfl⟩
      replace hz_ot := hz_ot.symm
      cases z_ot with
      | false =>
        have hr := HNO.out (Or.inr (by rw [HZ.out, hz_nm, hz_ot]; rfl))
        subst hr
        clear HNO HBY HZ HB
        go_wp2
        go_ret
        exact ⟨rfl, bel_tr hbwc (by (repeat (first | (with_reducible exact Below.refl _ _) | (with_reducible assumption) | (with_reducible refine bel_al0 ?_ _) | (with_reducible refine bel_set ?_ (by first | (simp; done) | (simp; omega)) _) | (with_reducible refine bel_dr ?_) | (with_reducible refine bel_drn ?_ _) | (with_reducible refine bel_tr ?_ (by assumption)))))⟩
      | true =>
        obtain ⟨z_n, hz_n⟩ : ∃ b, b = (n == 0) := ⟨_, rfl⟩
        replace hz_n := hz_n.symm
        have hz_m : ((0 : Int) == n) = z_n := by rw [← hz_n, Bool.eq_iff_iff]; simp; exact eq_comm
        cases z_n with
        | false =>
          have hr := HNO.out (Or.inr (by rw [HZ.out, hz_nm, hz_ot, hz_n]; rfl))
          subst hr
          clear HNO HBY HZ HB
          go_wp2
          go_ret
          exact ⟨rfl, bel_tr hbwc (by (repeat (first | (with_reducible exact Below.refl _ _) | (with_reducible assumption) | (with_reducible refine bel_al0 ?_ _) | (with_reducible refine bel_set ?_ (by first | (simp; done) | (simp; omega)) _) | (with_reducible refine bel_dr ?_) | (with_reducible refine bel_drn ?_ _) | (with_reducible refine bel_tr ?_ (by assumption)))))⟩
        | true =>
          have hr := (HBY.out (by rw [HZ.out, hz_nm, hz_ot, hz_n]; rfl)).trans HB.out
          subst hr
          clear HNO HBY HZ HB
          go_wp2_with (go_at_call 56; refine (rfirst2_calls _ _ 3 (keyE ky) (valE vl) (by first | exact blk_new _ _ _ | exact Blk.dr (blk_new _ _ _) | exact Blk.dr (Blk.dr (blk_new _ _ _)))).mono ?_; rintro e w6 ⟨rfl, rfl⟩)
          go_ret
          exact ⟨rfl, bel_tr hbwc (by (repeat (first | (with_reducible exact Below.refl _ _) | (with_reducible assumption) | (with_reducible refine bel_al0 ?_ _) | (with_reducible refine bel_set ?_ (by first | (simp; done) | (simp; omega)) _) | (with_reducible refine bel_dr ?_) | (with_reducible refine bel_drn ?_ _) | (with_reducible refine bel_tr ?_ (by assumption)))))⟩
set_option maxHeartbeats 16000000 in
theorem rcheck_5 (nm ot ky vl : ByteArray) (n : Int) (h1 : nm.size ≤ 1000000) (h2 : ot.size ≤ 1000000) (h3 : ky.size ≤ 1000000) (h4 : vl.size ≤ 1000000) (hn : n ≤ 9223372036854775807) (w : World) :
    Calls Tryd.prog 18 #[.agg #[.int .i64 5, .string nm, .string ot, .string ky, .string vl, .int .i64 n]] w fun e w' => e = .returned (.int .i64 (checkV 5 nm ot ky vl n)) ∧ Below w.heap.size w w' := by
  have HNO := Lib.hid (@checkV_no 5 nm ot ky vl n)
  have HBY := Lib.hid (fun h => @checkV_yes 5 nm ot ky vl n rfl h)
  have HZ : Hid (zeroV 5 nm ot ky vl n = ((bN 5 || nm.toList.isEmpty) && ((bO 5 || ot.toList.isEmpty) && ((bK 5 || ky.toList.isEmpty) && ((bV 5 || vl.toList.isEmpty) && (bI 5 || (n == 0))))))) := rfl
  obtain ⟨r, hr⟩ : ∃ r, r = checkV 5 nm ot ky vl n := ⟨_, rfl⟩
  rw [← hr] at HNO HBY ⊢
  clear hr
  have HC0 := Lib.hid (blk_new w #[.int .i64 5, .string nm, .string ot, .string ky, .string vl, .int .i64 n] 30)
  have HB : Hid (bodyV 5 nm ot ky vl n = firstV [whenE (!textB vl) 121]) := by show _ = _; exact by unfold bodyV; simp [firstV_one, firstV]
  go_enter Tryd.func18, Tryd.ntmps18
  go_upto_region 16 with fail
  have X0 := blk_new (w.alloc (.cells #[.int .i64 5, .string nm, .string ot, .string ky, .string vl, .int .i64 n] 30)) #[.int .i64 5, .string ⟨#[]⟩, .string ⟨#[]⟩, .string ⟨#[]⟩, .string ⟨#[]⟩, .int .i64 0] 30
  rw [World.size_alloc] at X0
  have C0 := HC0.out.al (.cells #[.int .i64 5, .string ⟨#[]⟩, .string ⟨#[]⟩, .string ⟨#[]⟩, .string ⟨#[]⟩, .int .i64 0] 30)
  obtain ⟨W2, hW2⟩ : ∃ W2, W2 = (w.alloc (.cells #[.int .i64 5, .string nm, .string ot, .string ky, .string vl, .int .i64 n] 30)).alloc (.cells #[.int .i64 5, .string ⟨#[]⟩, .string ⟨#[]⟩, .string ⟨#[]⟩, .string ⟨#[]⟩, .int .i64 0] 30) := ⟨_, rfl⟩
  have hbw2 : Below w.heap.size w W2 := by rw [hW2]; (repeat (first | (with_reducible exact Below.refl _ _) | (with_reducible assumption) | (with_reducible refine bel_al0 ?_ _) | (with_reducible refine bel_set ?_ (by first | (simp; done) | (simp; omega)) _) | (with_reducible refine bel_dr ?_) | (with_reducible refine bel_drn ?_ _) | (with_reducible refine bel_tr ?_ (by assumption))))
  rw [← hW2] at X0 C0 ⊢
  clear hW2
  obtain ⟨q0, q1, q2, q3, q4, q5, qf⟩ := blk_six C0
  obtain ⟨p0, p1, p2, p3, p4, p5, pf⟩ := blk_six X0
  have hl6 := cell_lt q0
  have hl7 := cell_lt p0
  have HX0 := Lib.hid X0; clear X0
  have HC1 := Lib.hid C0; clear C0
  go_cut [64] from 64 to 66 (fun _ wx => Hid (Blk wx (w.heap.size + 1) #[.int .i64 5, .string ⟨#[]⟩, .string ⟨#[]⟩, .string ⟨#[]⟩, .string vl, .int .i64 0] 30) ∧ Hid (Blk wx w.heap.size #[.int .i64 5, .string nm, .string ot, .string ky, .string vl, .int .i64 n] 30) ∧ Below w.heap.size w wx)
  case first =>
    all_goals (
      go_wp2
      go_meet
      exact ⟨(HX0.out.set 4 (.string vl)), (HC1.out.other (by omega) 4 (.string vl)), by (repeat (first | (with_reducible exact Below.refl _ _) | (with_reducible assumption) | (with_reducible refine bel_al0 ?_ _) | (with_reducible refine bel_set ?_ (by first | (simp; done) | (simp; omega)) _) | (with_reducible refine bel_dr ?_) | (with_reducible refine bel_drn ?_ _) | (with_reducible refine bel_tr ?_ (by assumption))))⟩)
  case rest =>
    obtain ⟨HX, HC, hbwc⟩ := hcut
    clear q0 q1 q2 q3 q4 q5 p0 p1 p2 p3 p4 p5 qf pf hl6 hl7 HX0 HC1 HC0 hbw2
    obtain ⟨q0, q1, q2, q3, q4, q5, qf⟩ := blk_six HC.out
    obtain ⟨p0, p1, p2, p3, p4, p5, pf⟩ := blk_six HX.out
    have hl6 := cell_lt q0
    have hl7 := cell_lt p0
    go_upto_region 47 with (first | (go_at_call 54; refine (rtext_calls vl h4 _).mono ?_; rintro e w2 ⟨rfl, rfl⟩) | (go_at_call 53; refine (when_calls _ _ _).mono ?_; rintro e w2 ⟨rfl, rfl⟩))
    obtain ⟨z_nm, hz_nm⟩ : ∃ b, b = nm.toList.isEmpty := ⟨_, rfl⟩
    replace hz_nm := hz_nm.symm
    cases z_nm with
    | false =>
      have hr := HNO.out (Or.inr (by rw [HZ.out, hz_nm]; rfl))
      subst hr
      clear HNO HBY HZ HB
      go_wp2
      go_ret
      exact ⟨rfl, bel_tr hbwc (by (repeat (first | (with_reducible exact Below.refl _ _) | (with_reducible assumption) | (with_reducible refine bel_al0 ?_ _) | (with_reducible refine bel_set ?_ (by first | (simp; done) | (simp; omega)) _) | (with_reducible refine bel_dr ?_) | (with_reducible refine bel_drn ?_ _) | (with_reducible refine bel_tr ?_ (by assumption)))))⟩
    | true =>
      obtain ⟨z_ot, hz_ot⟩ : ∃ b, b = ot.toList.isEmpty := ⟨_, rfl⟩
      replace hz_ot := hz_ot.symm
      cases z_ot with
      | false =>
        have hr := HNO.out (Or.inr (by rw [HZ.out, hz_nm, hz_ot]; rfl))
        subst hr
        clear HNO HBY HZ HB
        go_wp2
        go_ret
        exact ⟨rfl, bel_tr hbwc (by (repeat (first | (with_reducible exact Below.refl _ _) | (with_reducible assumption) | (with_reducible refine bel_al0 ?_ _) | (with_reducible refine bel_set ?_ (by first | (simp; done) | (simp; omega)) _) | (with_reducible refine bel_dr ?_) | (with_reducible refine bel_drn ?_ _) | (with_reducible refine bel_tr ?_ (by assumption)))))⟩
      | true =>
        obtain ⟨z_ky, hz_ky⟩ : ∃ b, b = ky.toList.isEmpty := ⟨_, rfl⟩
        replace hz_ky := hz_ky.symm
        cases z_ky with
        | false =>
          have hr := HNO.out (Or.inr (by rw [HZ.out, hz_nm, hz_ot, hz_ky]; rfl))
          subst hr
          clear HNO HBY HZ HB
          go_wp2
          go_ret
          exact ⟨rfl, bel_tr hbwc (by (repeat (first | (with_reducible exact Below.refl _ _) | (with_reducible assumption) | (with_reducible refine bel_al0 ?_ _) | (with_reducible refine bel_set ?_ (by first | (simp; done) | (simp; omega)) _) | (with_reducible refine bel_dr ?_) | (with_reducible refine bel_drn ?_ _) | (with_reducible refine bel_tr ?_ (by assumption)))))⟩
        | true =>
          obtain ⟨z_n, hz_n⟩ : ∃ b, b = (n == 0) := ⟨_, rfl⟩
          replace hz_n := hz_n.symm
          have hz_m : ((0 : Int) == n) = z_n := by rw [← hz_n, Bool.eq_iff_iff]; simp; exact eq_comm
          cases z_n with
          | false =>
            have hr := HNO.out (Or.inr (by rw [HZ.out, hz_nm, hz_ot, hz_ky, hz_n]; rfl))
            subst hr
            clear HNO HBY HZ HB
            go_wp2
            go_ret
            exact ⟨rfl, bel_tr hbwc (by (repeat (first | (with_reducible exact Below.refl _ _) | (with_reducible assumption) | (with_reducible refine bel_al0 ?_ _) | (with_reducible refine bel_set ?_ (by first | (simp; done) | (simp; omega)) _) | (with_reducible refine bel_dr ?_) | (with_reducible refine bel_drn ?_ _) | (with_reducible refine bel_tr ?_ (by assumption)))))⟩
          | true =>
            have hr := (HBY.out (by rw [HZ.out, hz_nm, hz_ot, hz_ky, hz_n]; rfl)).trans HB.out
            subst hr
            clear HNO HBY HZ HB
            go_wp2_with (go_at_call 56; refine (rfirst1_calls _ _ 3 (whenE (!textB vl) 121) (by first | exact blk_new _ _ _ | exact Blk.dr (blk_new _ _ _) | exact Blk.dr (Blk.dr (blk_new _ _ _)))).mono ?_; rintro e w6 ⟨rfl, rfl⟩)
            go_ret
            exact ⟨rfl, bel_tr hbwc (by (repeat (first | (with_reducible exact Below.refl _ _) | (with_reducible assumption) | (with_reducible refine bel_al0 ?_ _) | (with_reducible refine bel_set ?_ (by first | (simp; done) | (simp; omega)) _) | (with_reducible refine bel_dr ?_) | (with_reducible refine bel_drn ?_ _) | (with_reducible refine bel_tr ?_ (by assumption)))))⟩
end Go.Proofs.YtehneliphhgegaaDoor
