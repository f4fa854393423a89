/- The law CommandOnce: walked; what both Of answer, in cases. -/
import Derived.Test.YtehneliphhgegaaDoorDLawP
set_option linter.unusedVariables false
set_option linter.unusedSimpArgs false
set_option maxRecDepth 100000
namespace Go.Proofs.YtehneliphhgegaaDoor
open Go.RowKit Go.Apo

theorem ofR_cases (l : List UInt8) : (∃ k nm ot ky vl n, ofR l = .tuple #[.agg #[.int .i64 k, .string nm, .string ot, .string ky, .string vl, .int .i64 n], .int .i64 0] ∧ l = putL k nm ot ky vl n ∧ checkV k nm ot ky vl n = 0 ∧ nm.size ≤ 300 ∧ ot.size ≤ 300 ∧ ky.size ≤ 300 ∧ vl.size ≤ 300 ∧ -9223372036854775808 ≤ n ∧ n ≤ 9223372036854775807) ∨ ofR l = .tuple #[.agg #[.int .i64 0, .string ⟨#[]⟩, .string ⟨#[]⟩, .string ⟨#[]⟩, .string ⟨#[]⟩, .int .i64 0], .int .i64 20] := by
  by_cases h : (readV l).st = some [] ∧ checkV ((readV l).k : Int) (readV l).nm (readV l).ot (readV l).ky (readV l).vl (readV l).n = 0
  · refine Or.inl ⟨((readV l).k : Int), (readV l).nm, (readV l).ot, (readV l).ky, (readV l).vl, (readV l).n, ?_, readV_some h.1, h.2, rdT_le _ _, rdT_le _ _, rdT_le _ _, rdT_le _ _, ?_⟩
    · unfold ofR ofV ofB
      rw [if_pos (by rw [h.2]; simp [h.1])]
      rfl
    · have hu : (readV l).u ≤ 18446744073709551615 := rdN_le _ _
      exact unzig_lo (by omega)
  · right
    unfold ofR ofV ofB
    rw [if_neg (by intro e; simp at e; exact h e)]
    rfl
theorem ofR_put {k : Int} {nm ot ky vl : ByteArray} {m : Int} (h1 : nm.size ≤ 300) (h2 : ot.size ≤ 300) (h3 : ky.size ≤ 300) (h4 : vl.size ≤ 300) (hm : -9223372036854775808 ≤ k ∧ k ≤ 9223372036854775807 ∧ -9223372036854775808 ≤ m ∧ m ≤ 9223372036854775807) :
    (checkV k nm ot ky vl m = 0 → ofR (putL k nm ot ky vl m) = .tuple #[.agg #[.int .i64 k, .string nm, .string ot, .string ky, .string vl, .int .i64 m], .int .i64 0]) ∧ (checkV k nm ot ky vl m ≠ 0 → ofR (putL k nm ot ky vl m) = .tuple #[.agg #[.int .i64 0, .string ⟨#[]⟩, .string ⟨#[]⟩, .string ⟨#[]⟩, .string ⟨#[]⟩, .int .i64 0], .int .i64 20]) := by
  by_cases hk : u64N k ≤ 20
  · have hkk : ((u64N k : Nat) : Int) = k := by unfold u64N at *; omega
    have hR := ofR_eq (readV_put k nm ot ky vl m h1 h2 h3 h4 hm.2.2.1 hm.2.2.2 hk)
    rw [hkk, unzig_zig] at hR
    rw [hR]
    unfold ofB
    constructor
    · intro h
      rw [h, if_pos (by simp)]
      rfl
    · intro h
      rw [if_neg (by simpa using h)]
      rfl
  · have hno : checkV k nm ot ky vl m = 160 := checkV_no (Or.inl (by
      by_cases e : isK k = true
      · have := isK_yes e
        exfalso
        apply hk
        unfold u64N
        omega
      · simpa using e))
    have hst := readV_big k nm ot ky vl m (by omega)
    refine ⟨fun h => (by rw [hno] at h; cases h), fun _ => ?_⟩
    unfold ofR ofV ofB
    rw [hst]
    rfl
set_option maxHeartbeats 8000000 in
theorem commandOnce_calls (A : Option Addr) (n c : Nat) (l : List UInt8) (w : World) (hB : BIn w A n c l) (hv : VarsOk w) :
    Calls Tryd.prog 8 #[.slice A n c] w fun e w' => e = .returned (.bool true) ∧ Below w.heap.size w w' := by
  have HA := Lib.hid (fun W (hW : Below w.heap.size w W) => awake19_calls W (hv.below hW))
  by_cases h500 : 500 < n
  · clear hB hv
    have g1 : decide ((500 : Int) < (n : Int)) = true := by simp; omega
    go_enter Tryd.func8, Tryd.ntmps8
    go_wp2_with (go_at_call 12; refine (HA.out _ (Below.refl _ _)).mono ?_; rintro e w1 ⟨rfl, hb1⟩)
    go_ret
    exact ⟨rfl, hb1⟩
  · have HOF := Lib.hid (fun W (hW : Below w.heap.size w W) => cof_calls W A n c l hB.len.symm (by have := hB.len; omega) (hB.flat.below hW) hB.nil (hv.below hW))
    have g1 : decide ((500 : Int) < (n : Int)) = false := by simp; omega
    rcases ofR_cases l with ⟨k, nm, ot, ky, vl, m, hR, hput, hck, s1, s2, s3, s4, m1, m2⟩ | hR
    · rw [hR] at HOF
      have HP := Lib.hid (fun W => cput_calls k nm ot ky vl m (by omega) (by omega) (by omega) (by omega) m1 m2 W)
      have HCK := Lib.hid (fun W (hW : Below w.heap.size w W) => check_calls k nm ot ky vl m (by omega) (by omega) (by omega) (by omega) W (hv.below hW))
      rw [hck] at HCK
      rw [← hput] at HP
      obtain ⟨S, hS⟩ : ∃ S : ByteArray, S = ⟨l.toArray⟩ := ⟨_, rfl⟩
      have HCV := Lib.hid (fun W (hW : Below w.heap.size w W) => run_text A c l W (hB.flat.below hW) n hB.len.symm)
      rw [← hS] at HCV
      have HS := Lib.hid hS
      clear hB hv hput hck s1 s2 s3 s4 m1 m2 hS hR
      go_enter Tryd.func8, Tryd.ntmps8
      go_upto_region 8 with (first
        | (go_at_call 12; refine (HA.out _ (Below.refl _ _)).mono ?_; rintro e w1 ⟨rfl, hb1⟩)
        | (go_at_call 21; refine (HOF.out _ hb1).mono ?_; rintro e w3 ⟨rfl, hb3⟩))
      have HBa := Lib.hid (blk_new w3 #[.int .i64 k, .string nm, .string ot, .string ky, .string vl, .int .i64 m] 30)
      have HB5 := Lib.hid (bel_al0 (bel_tr hb1 hb3) (.cells #[.int .i64 k, .string nm, .string ot, .string ky, .string vl, .int .i64 m] 30))
      obtain ⟨w5, hw5⟩ : ∃ w5, w5 = w3.alloc (.cells #[.int .i64 k, .string nm, .string ot, .string ky, .string vl, .int .i64 m] 30) := ⟨_, rfl⟩
      obtain ⟨q2, hq2⟩ : ∃ q, q = w3.heap.size := ⟨_, rfl⟩
      rw [← hw5] at HBa HB5 ⊢
      rw [← hq2] at HBa ⊢
      clear hw5 hq2 hb1 hb3 HA HOF
      obtain ⟨p0, p1, p2, p3, p4, p5, _⟩ := blk_six HBa.out
      have hcv0 := HCV.out w5 HB5.out
      refine wp_region_held_drew (S := (fun w' => Below w5.heap.size w5 w' ∧ ((convert 35 9 (.slice A n c)).run Tryd.prog w' = .ok (.string S) w') ∧ w'.cell? ⟨q2, 0, none⟩ = some (.int .i64 k) ∧ w'.cell? ⟨q2, 1, none⟩ = some (.string nm) ∧ w'.cell? ⟨q2, 2, none⟩ = some (.string ot) ∧ w'.cell? ⟨q2, 3, none⟩ = some (.string ky) ∧ w'.cell? ⟨q2, 4, none⟩ = some (.string vl) ∧ w'.cell? ⟨q2, 5, none⟩ = some (.int .i64 m))) (by kernel_rfl) ?_ (fun hHeld => ?_)
      · (((try dsimp only); (repeat' apply And.intro); all_goals (first | assumption | ((repeat (first | (with_reducible exact Below.refl _ _) | (with_reducible assumption) | (with_reducible refine bel_al0 ?_ _) | (with_reducible refine bel_set ?_ (by first | (simp; done) | (simp; omega)) _) | (with_reducible refine bel_dr ?_) | (with_reducible refine bel_drn ?_ _) | (with_reducible refine bel_tr ?_ (by assumption)))); done) | go_keep | exact HCV.out _ (bel_tr HB5.out (by (repeat (first | (with_reducible exact Below.refl _ _) | (with_reducible assumption) | (with_reducible refine bel_al0 ?_ _) | (with_reducible refine bel_set ?_ (by first | (simp; done) | (simp; omega)) _) | (with_reducible refine bel_dr ?_) | (with_reducible refine bel_drn ?_ _) | (with_reducible refine bel_tr ?_ (by assumption)))))))))
      refine wpAnyH_take (i := 0) (oi := _) (v := ?_) rfl (by kernel_rfl) (by kernel_rfl) (by kernel_rfl) (fun _ _ _ h => h) (Or.inl ⟨by kernel_rfl, ?_⟩) hHeld ?_
      rotate_left
      · intro W hSw; (try dsimp only at hSw); go_simp; (try with_reducible rfl)
      (try simp only [Act.put, List.setIfInBounds_toArray, List.set_cons_zero, List.set_cons_succ])
      refine wpAnyH_take (i := 3) (oi := _) (v := ?_) rfl (by kernel_rfl) (by kernel_rfl) (by kernel_rfl) (fun _ _ _ h => h) (Or.inl ⟨by kernel_rfl, ?_⟩) hHeld ?_
      rotate_left
      · intro W hSw; (try dsimp only at hSw); go_simp; (try with_reducible rfl)
      (try simp only [Act.put, List.setIfInBounds_toArray, List.set_cons_zero, List.set_cons_succ])
      refine wpAnyH_take (i := 4) (oi := _) (v := ?_) rfl (by kernel_rfl) (by kernel_rfl) (by kernel_rfl) (fun _ _ _ h => h) (Or.inl ⟨by kernel_rfl, ?_⟩) hHeld ?_
      rotate_left
      · intro W hSw; (try dsimp only at hSw); go_simp; (try with_reducible rfl)
      (try simp only [Act.put, List.setIfInBounds_toArray, List.set_cons_zero, List.set_cons_succ])
      refine wpAnyH_ready (rs := [1]) (by kernel_rfl) (by simp) ?_
      refine AllReadyH.cons (o := _) rfl (fun K hK => ?_) AllReadyH.nil
      go_simp
      refine (HP.out _).mono ?_; rintro e w6 ⟨v6, rfl, ho6, hb6⟩; obtain ⟨A6, k6, rfl, _⟩ := own_form ho6; have hcx6 := run_text A6 k6 l w6 (own_flat ho6) _ rfl; rw [← HS.out] at hcx6; have HF6 := Lib.hid (own_flat ho6); have hbb6 : Below w5.heap.size w5 w6 := bel_tr (by (repeat (first | (with_reducible exact Below.refl _ _) | (with_reducible assumption) | (with_reducible refine bel_al0 ?_ _) | (with_reducible refine bel_set ?_ (by first | (simp; done) | (simp; omega)) _) | (with_reducible refine bel_dr ?_) | (with_reducible refine bel_drn ?_ _) | (with_reducible refine bel_tr ?_ (by assumption))))) hb6; have hcv6 := HCV.out w6 (bel_tr HB5.out hbb6); obtain ⟨c6a0, c6a1, c6a2, c6a3, c6a4, c6a5, _⟩ := blk_six (HBa.out.below hbb6)
      go_wp2_with fail
      refine hK.out _ _ ?_ (fun hHeld => ?_)
      · (((try dsimp only); (repeat' apply And.intro); all_goals (first | assumption | ((repeat (first | (with_reducible exact Below.refl _ _) | (with_reducible assumption) | (with_reducible refine bel_al0 ?_ _) | (with_reducible refine bel_set ?_ (by first | (simp; done) | (simp; omega)) _) | (with_reducible refine bel_dr ?_) | (with_reducible refine bel_drn ?_ _) | (with_reducible refine bel_tr ?_ (by assumption)))); done) | go_keep | exact HCV.out _ (bel_tr HB5.out (by (repeat (first | (with_reducible exact Below.refl _ _) | (with_reducible assumption) | (with_reducible refine bel_al0 ?_ _) | (with_reducible refine bel_set ?_ (by first | (simp; done) | (simp; omega)) _) | (with_reducible refine bel_dr ?_) | (with_reducible refine bel_drn ?_ _) | (with_reducible refine bel_tr ?_ (by assumption)))))))))
      clear hK K
      (try simp only [Act.put, List.setIfInBounds_toArray, List.set_cons_zero, List.set_cons_succ])
      refine wpAnyH_ready (rs := [2]) (by kernel_rfl) (by simp) ?_
      refine AllReadyH.cons (o := _) rfl (fun K hK => ?_) AllReadyH.nil
      go_simp
      refine hK.out _ _ ?_ (fun hHeld => ?_)
      · (((try dsimp only); (repeat' apply And.intro); all_goals (first | assumption | ((repeat (first | (with_reducible exact Below.refl _ _) | (with_reducible assumption) | (with_reducible refine bel_al0 ?_ _) | (with_reducible refine bel_set ?_ (by first | (simp; done) | (simp; omega)) _) | (with_reducible refine bel_dr ?_) | (with_reducible refine bel_drn ?_ _) | (with_reducible refine bel_tr ?_ (by assumption)))); done) | go_keep | exact HCV.out _ (bel_tr HB5.out (by (repeat (first | (with_reducible exact Below.refl _ _) | (with_reducible assumption) | (with_reducible refine bel_al0 ?_ _) | (with_reducible refine bel_set ?_ (by first | (simp; done) | (simp; omega)) _) | (with_reducible refine bel_dr ?_) | (with_reducible refine bel_drn ?_ _) | (with_reducible refine bel_tr ?_ (by assumption)))))))))
      clear hK K
      (try simp only [Act.put, List.setIfInBounds_toArray, List.set_cons_zero, List.set_cons_succ])
      refine wpAnyH_take (i := 5) (oi := _) (v := ?_) rfl (by kernel_rfl) (by kernel_rfl) (by kernel_rfl) (fun _ _ _ h => h) (Or.inl ⟨by kernel_rfl, ?_⟩) hHeld ?_
      rotate_left
      · intro W hSw; (try dsimp only at hSw); go_simp; (try with_reducible rfl)
      (try simp only [Act.put, List.setIfInBounds_toArray, List.set_cons_zero, List.set_cons_succ])
      refine wpAnyH_take (i := 6) (oi := _) (v := ?_) rfl (by kernel_rfl) (by kernel_rfl) (by kernel_rfl) (fun _ _ _ h => h) (Or.inl ⟨by kernel_rfl, ?_⟩) hHeld ?_
      rotate_left
      · intro W hSw; (try dsimp only at hSw); go_simp; (try with_reducible rfl)
      (try simp only [Act.put, List.setIfInBounds_toArray, List.set_cons_zero, List.set_cons_succ])
      refine wpAnyH_take (i := 7) (oi := _) (v := ?_) rfl (by kernel_rfl) (by kernel_rfl) (by kernel_rfl) (fun _ _ _ h => h) (Or.inl ⟨by kernel_rfl, ?_⟩) hHeld ?_
      rotate_left
      · intro W hSw; (try dsimp only at hSw); go_simp; (try with_reducible rfl)
      (try simp only [Act.put, List.setIfInBounds_toArray, List.set_cons_zero, List.set_cons_succ])
      refine wpAnyH_ready (rs := [8]) (by kernel_rfl) (by simp) ?_
      refine AllReadyH.cons (o := _) rfl (fun K hK => ?_) AllReadyH.nil
      go_simp
      refine (HCK.out _ (bel_tr HB5.out (by (repeat (first | (with_reducible exact Below.refl _ _) | (with_reducible assumption) | (with_reducible refine bel_al0 ?_ _) | (with_reducible refine bel_set ?_ (by first | (simp; done) | (simp; omega)) _) | (with_reducible refine bel_dr ?_) | (with_reducible refine bel_drn ?_ _) | (with_reducible refine bel_tr ?_ (by assumption))))))).mono ?_; rintro e w7 ⟨rfl, hb7⟩; have hbb7 : Below w5.heap.size w5 w7 := bel_tr (by (repeat (first | (with_reducible exact Below.refl _ _) | (with_reducible assumption) | (with_reducible refine bel_al0 ?_ _) | (with_reducible refine bel_set ?_ (by first | (simp; done) | (simp; omega)) _) | (with_reducible refine bel_dr ?_) | (with_reducible refine bel_drn ?_ _) | (with_reducible refine bel_tr ?_ (by assumption))))) hb7; have hcv7 := HCV.out w7 (bel_tr HB5.out hbb7); obtain ⟨c7a0, c7a1, c7a2, c7a3, c7a4, c7a5, _⟩ := blk_six (HBa.out.below hbb7)
      go_wp2_with fail
      refine hK.out _ _ ?_ (fun hHeld => ?_)
      · (((try dsimp only); (repeat' apply And.intro); all_goals (first | assumption | ((repeat (first | (with_reducible exact Below.refl _ _) | (with_reducible assumption) | (with_reducible refine bel_al0 ?_ _) | (with_reducible refine bel_set ?_ (by first | (simp; done) | (simp; omega)) _) | (with_reducible refine bel_dr ?_) | (with_reducible refine bel_drn ?_ _) | (with_reducible refine bel_tr ?_ (by assumption)))); done) | go_keep | exact HCV.out _ (bel_tr HB5.out (by (repeat (first | (with_reducible exact Below.refl _ _) | (with_reducible assumption) | (with_reducible refine bel_al0 ?_ _) | (with_reducible refine bel_set ?_ (by first | (simp; done) | (simp; omega)) _) | (with_reducible refine bel_dr ?_) | (with_reducible refine bel_drn ?_ _) | (with_reducible refine bel_tr ?_ (by assumption)))))))))
      clear hK K
      (try simp only [Act.put, List.setIfInBounds_toArray, List.set_cons_zero, List.set_cons_succ])
      refine wpAnyH_take (i := 9) (oi := _) (v := ?_) rfl (by kernel_rfl) (by kernel_rfl) (by kernel_rfl) (fun _ _ _ h => h) (Or.inl ⟨by kernel_rfl, ?_⟩) hHeld ?_
      rotate_left
      · intro W hSw; (try dsimp only at hSw); go_simp; (try with_reducible rfl)
      (try simp only [Act.put, List.setIfInBounds_toArray, List.set_cons_zero, List.set_cons_succ])
      refine wpAnyH_take (i := 10) (oi := _) (v := ?_) rfl (by kernel_rfl) (by kernel_rfl) (by kernel_rfl) (fun _ _ _ h => h) (Or.inl ⟨by kernel_rfl, ?_⟩) hHeld ?_
      rotate_left
      · intro W hSw; (try dsimp only at hSw); go_simp; (try with_reducible rfl)
      (try simp only [Act.put, List.setIfInBounds_toArray, List.set_cons_zero, List.set_cons_succ])
      refine wpAnyH_ready (rs := [11]) (by kernel_rfl) (by simp) ?_
      refine AllReadyH.cons (o := _) rfl (fun K hK => ?_) AllReadyH.nil
      go_simp
      refine hK.out _ _ ?_ (fun hHeld => ?_)
      · (((try dsimp only); (repeat' apply And.intro); all_goals (first | assumption | ((repeat (first | (with_reducible exact Below.refl _ _) | (with_reducible assumption) | (with_reducible refine bel_al0 ?_ _) | (with_reducible refine bel_set ?_ (by first | (simp; done) | (simp; omega)) _) | (with_reducible refine bel_dr ?_) | (with_reducible refine bel_drn ?_ _) | (with_reducible refine bel_tr ?_ (by assumption)))); done) | go_keep | exact HCV.out _ (bel_tr HB5.out (by (repeat (first | (with_reducible exact Below.refl _ _) | (with_reducible assumption) | (with_reducible refine bel_al0 ?_ _) | (with_reducible refine bel_set ?_ (by first | (simp; done) | (simp; omega)) _) | (with_reducible refine bel_dr ?_) | (with_reducible refine bel_drn ?_ _) | (with_reducible refine bel_tr ?_ (by assumption)))))))))
      clear hK K
      (try simp only [Act.put, List.setIfInBounds_toArray, List.set_cons_zero, List.set_cons_succ])
      refine wpAnyH_done (by kernel_rfl) ?_ _
      go_wp2
      go_ret
      exact ⟨rfl, bel_tr HB5.out (by first | assumption | ((repeat (first | (with_reducible exact Below.refl _ _) | (with_reducible assumption) | (with_reducible refine bel_al0 ?_ _) | (with_reducible refine bel_set ?_ (by first | (simp; done) | (simp; omega)) _) | (with_reducible refine bel_dr ?_) | (with_reducible refine bel_drn ?_ _) | (with_reducible refine bel_tr ?_ (by assumption))))))⟩
    · rw [hR] at HOF
      clear hB hv hR
      go_enter Tryd.func8, Tryd.ntmps8
      go_wp2_with (first
        | (go_at_call 12; refine (HA.out _ (Below.refl _ _)).mono ?_; rintro e w1 ⟨rfl, hb1⟩)
        | (go_at_call 21; refine (HOF.out _ hb1).mono ?_; rintro e w3 ⟨rfl, hb3⟩))
      go_ret
      exact ⟨rfl, bel_al0 (bel_tr hb1 hb3) _⟩
theorem commandOnce_all (w : World) (A : Option Addr) (n c : Nat) (l : List UInt8) (hB : BIn w A n c l) (hv : VarsOk w) :
    Calls Tryd.prog 8 #[.slice A n c] w fun e w' => e = .returned (.bool true) ∧ Below w.heap.size w w' := commandOnce_calls A n c l w hB hv
end Go.Proofs.YtehneliphhgegaaDoor
