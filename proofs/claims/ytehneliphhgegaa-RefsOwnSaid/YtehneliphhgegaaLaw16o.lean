/- The law RefsOwn: walked. -/
import Derived.Test.YtehneliphhgegaaNil16
import Derived.Test.YtehneliphhgegaaLaw16d
set_option linter.unusedVariables false
set_option linter.unusedSimpArgs false
set_option maxRecDepth 100000
namespace Go.Proofs.Ytehneliphhgegaa
open Go.RowKit Go.Apo

set_option maxHeartbeats 16000000 in
theorem refsOwn_calls (w : World) (A : Option Addr) (n c : Nat) (l : List RefD) (h : RefRow w A n l) (dk : Int) (dm : ByteArray) (dt : Bool) (di dold : Int) :
    Calls Try.prog 6 #[.slice A n c, .agg #[.int .i64 dk, .string dm, .bool dt, .int .u64 di, .int .u64 dold]] w fun e w' => e = .returned (.bool true) ∧ Below w.heap.size w w' := by
  have HF := Lib.hid (fun W hW => few16_calls W A n c l hW)
  have H := Lib.hid h; clear h
  have hfn := fun h => @fewB_names l h
  obtain ⟨fb, hfb⟩ : ∃ fb, fb = fewB l := ⟨_, rfl⟩
  rw [← hfb] at HF hfn
  clear hfb
  have HBX := Lib.hid (blk_new w #[.int .i64 dk, .string dm, .bool dt, .int .u64 di, .int .u64 dold] 34)
  have hW0 := bel_al0 (Below.refl w.heap.size w) (.cells #[.int .i64 dk, .string dm, .bool dt, .int .u64 di, .int .u64 dold] 34)
  cases fb with
  | false =>
    go_enter Try.func6, Try.ntmps6
    go_wp2_with (first
      | (go_at_call 17; refine (awake16_calls _).mono ?_; rintro e w1 ⟨rfl, hb1⟩; have hB1 := bel_tr hW0 hb1)
      | (go_at_call 18; refine (HF.out _ (H.out.below hB1)).mono ?_; rintro e w2 ⟨rfl, hb2⟩))
    go_ret
    exact ⟨rfl, bel_tr hB1 hb2⟩
  | true =>
    have HNM := Lib.hid (hfn rfl)
    clear hfn
    by_cases h41 : 40 < dm.size
    · have g1 : decide ((40 : Int) < dm.size) = true := by simp; omega
      go_enter Try.func6, Try.ntmps6
      go_wp2_with (first
        | (go_at_call 17; refine (awake16_calls _).mono ?_; rintro e w1 ⟨rfl, hb1⟩; have hB1 := bel_tr hW0 hb1)
        | (go_at_call 18; refine (HF.out _ (H.out.below hB1)).mono ?_; rintro e w2 ⟨rfl, hb2⟩; obtain ⟨x0, x1, x2, x3, x4, _⟩ := (HBX.out.below (bel_tr hb1 hb2)).five))
      go_ret
      exact ⟨rfl, bel_tr hB1 hb2⟩
    · have g1 : decide ((40 : Int) < dm.size) = false := by simp; omega
      have hsy := sync_new l Sync16.nil
      have hsl := hsy.len
      have hsr := hsy.le
      have hsc := hsy.copy
      have hcl := hsc.len
      obtain ⟨L, hL⟩ : ∃ L, L = l.foldl makeL [] := ⟨_, rfl⟩
      have HNW := Lib.hid (fun W hW => new_calls W A n c l hW)
      rw [← hL] at hsy hsl hsc hcl HNW
      have HCP := Lib.hid (fun W p m hW => copy_calls W p m L hW (by omega) hsy.keys)
      obtain ⟨C, hC⟩ : ∃ C, C = copyL L := ⟨_, rfl⟩
      rw [← hC] at HCP hsc hcl
      have HAL := Lib.hid (fun W p m hW => all16_calls W p m C hW (by omega) hsc.keys)
      rw [hsc.all] at HAL
      obtain ⟨Q, hQ⟩ : ∃ Q, Q = l.foldl rmakeL [] := ⟨_, rfl⟩
      rw [← hQ] at HAL hsr
      unfold CopyPost at HCP
      unfold RefsMade at HAL
      have HSM := Lib.hid (fun (W : World) (A A' : Option Addr) (c c' : Nat) (hf : Flat W A (refCells Q)) (hf2 : Flat W A' (refCells Q)) => same_calls W A A' Q.length c Q.length c' Q Q rfl rfl (by omega) (by omega) hf hf2)
      rw [decide_eq_true (rfl : Q = Q)] at HSM
      have HMK := Lib.hid (fun W p m hW => make_calls p m W L hW dm dt di)
      have HST := Lib.hid (fun W p m (L' : List (ByteArray × RefD)) hW => set_calls p m W L' hW dm di dold)
      have HDR := Lib.hid (fun W p m (L' : List (ByteArray × RefD)) hW => drop_calls p m W L' hW dm)
      clear hsy hsl hsr hsc hcl hL hC hQ h41
      obtain ⟨nQ, hnQ⟩ : ∃ nQ, nQ = Q.length := ⟨_, rfl⟩
      rw [← hnQ] at HAL HSM
      clear hnQ
      obtain ⟨b0, hb0⟩ : ∃ b0, b0 = w.heap.size := ⟨_, rfl⟩
      go_enter Try.func6, Try.ntmps6
      go_upto_region 8 with (first
        | (go_at_call 17; refine (awake16_calls _).mono ?_; rintro e w1 ⟨rfl, hb1⟩; have hB1 := bel_tr hW0 hb1)
        | (go_at_call 18; refine (HF.out _ (H.out.below hB1)).mono ?_; rintro e w2 ⟨rfl, hb2⟩; have hbx2 := bel_tr hb1 hb2; obtain ⟨x0, x1, x2, x3, x4, _⟩ := (HBX.out.below hbx2).five; have hB2 := bel_tr hB1 hb2)
        | (go_at_call 19; refine (HNW.out _ (H.out.below hB2)).mono ?_; rintro e w3 ⟨p, m, rfl, ht3, hm3, hp3, hb3⟩; have hbx3 := bel_tr hbx2 hb3; have hB3 := bel_tr hB2 hb3)
        | (go_at_call 36; refine (HCP.out _ _ _ ht3).mono ?_; rintro e w4 ⟨p2, m2, rfl, ht4, hm4, hp4, hb4⟩; have hbx4 := bel_tr hbx3 hb4; have hB4 := bel_tr hB3 hb4)
        | (go_at_call 38; refine (HAL.out _ _ _ ht4).mono ?_; rintro e w5 ⟨v5, rfl, ho5, hb5⟩; have hbx5 := bel_tr hbx4 hb5; have hB5 := bel_tr hB4 hb5; obtain ⟨A5, k5, rfl, _⟩ := own_form ho5))
      have HT := Lib.hid ((ht3.below hb4).below hb5)
      have HT2 := Lib.hid (ht4.below hb5)
      have HW5 := Lib.hid (own_flat ho5)
      have hz2 := hB2.size
      have hz3 := hb3.size
      have hmw : w.heap.size ≤ m := by omega
      have hl3 := ht3.2.lt
      have hl3p : p < w3.heap.size := cell_lt ht3.1
      have hpm : p2 ≠ m := by omega
      have hmm : m2 ≠ m := by omega
      obtain ⟨y0, y1, y2, y3, y4, _⟩ := (HBX.out.below hbx5).five
      clear x0 x1 x2 x3 x4 ht3 ht4 ho5 hb1 hb2 hb3 hb4 hb5 hbx2 hbx3 hbx4 hbx5 hB1 hB2 hB3 hB4 hz2 hz3 hm3 hp3 hm4 hp4 hl3 hl3p HF HNW HCP HNM H HBX hb0
      obtain ⟨o9, ho9, hoc9⟩ := HT.out.2.notCells
      go_upto_region 13 with (first
        | (go_at_call 20; refine (HMK.out _ _ _ HT.out).mono ?_; rintro e w6 ⟨rfl, ht6, hb6⟩; have z0 := hb6.cell_keeps ho9 hoc9 y0; have z1 := hb6.cell_keeps ho9 hoc9 y1; have z2 := hb6.cell_keeps ho9 hoc9 y2; have z3 := hb6.cell_keeps ho9 hoc9 y3; have z4 := hb6.cell_keeps ho9 hoc9 y4; have HT26 := Lib.hid (HT2.out.but hb6 hpm hmm); have HW6 := Lib.hid (HW5.out.cells (hb6.cells ho9 hoc9)); have hB6 := hb6.below hB5 (Nat.le_refl _) hmw; obtain ⟨o8, ho8, hoc8⟩ := ht6.2.notCells)
        | (go_at_call 21; refine (HST.out _ _ _ _ ht6).mono ?_; rintro e w7 ⟨rfl, ht7, hb7⟩; have u0 := hb7.cell_keeps ho8 hoc8 z0; have u1 := hb7.cell_keeps ho8 hoc8 z1; have HT27 := Lib.hid (HT26.out.but hb7 hpm hmm); have HW7 := Lib.hid (HW6.out.cells (hb7.cells ho8 hoc8)); have hB7 := hb7.below hB6 (Nat.le_refl _) hmw; obtain ⟨o7, ho7, hoc7⟩ := ht7.2.notCells)
        | (go_at_call 23; refine (HDR.out _ _ _ _ ht7).mono ?_; rintro e w8 ⟨rfl, ht8, hb8⟩; have HT28 := Lib.hid (HT27.out.but hb8 hpm hmm); have HW8 := Lib.hid (HW7.out.cells (hb8.cells ho7 hoc7)); have hB8 := hb8.below hB7 (Nat.le_refl _) hmw; clear HMK HST HDR)
        | (go_at_call 22; refine (gnil_calls _ _).mono ?_; rintro e w9 ⟨rfl, hb9⟩; have hB9 := bel_tr hB8 hb9))
      have HT9 := Lib.hid ((HT28.out.below hb9).below (bel_al0 (Below.refl _ w9) (.cells #[.string ⟨#[]⟩, .bool false, .int .u64 0] 26)))
      have HW9 := Lib.hid ((HW8.out.below hb9).below (bel_al0 (Below.refl _ w9) (.cells #[.string ⟨#[]⟩, .bool false, .int .u64 0] 26)))
      have hBa := bel_al0 hB9 (.cells #[.string ⟨#[]⟩, .bool false, .int .u64 0] 26)
      clear HT HT2 HW5 HT26 HT27 HT28 HW6 HW7 HW8 y0 y1 y2 y3 y4 z0 z1 z2 z3 z4 u0 u1 ht6 ht7 ht8 hb6 hb7 hb8 hb9 hB5 hB6 hB7 hB8 ho9 hoc9 ho8 hoc8 ho7 hoc7 hpm hmm hmw hW0
      go_wp2_with (first
        | (go_at_call 38; refine (HAL.out _ _ _ HT9.out).mono ?_; rintro e w10 ⟨v10, rfl, ho10, hb10⟩; clear HAL; have hB10 := bel_tr hBa hb10; obtain ⟨A10, k10, rfl, _⟩ := own_form ho10; have HW10 := Lib.hid (HW9.out.below hb10); have HO10 := Lib.hid (own_flat ho10); clear ho10)
        | (go_at_call 37; refine (HSM.out _ A10 A5 k10 k5 HO10.out HW10.out).mono ?_; rintro e w11 ⟨rfl, hb11⟩; have hB11 := bel_tr hB10 hb11)
        | (go_at_call 20; refine (mknil_calls _ _ _ _).mono ?_; rintro e w12 ⟨rfl, hb12⟩; have hB12 := bel_tr hB11 hb12)
        | (go_at_call 21; refine (setnil_calls _ _ _ _).mono ?_; rintro e w13 ⟨rfl, hb13⟩; have hB13 := bel_tr hB12 hb13)
        | (go_at_call 23; refine (dropnil_calls _ _).mono ?_; rintro e w14 ⟨rfl, hb14⟩; have hB14 := bel_tr hB13 hb14)
        | (go_at_call 39; refine (lennil_calls _).mono ?_; rintro e w15 ⟨rfl, rfl⟩)
        | (go_at_call 38; refine (allnil_calls _).mono ?_; rintro e w16 ⟨rfl, hb16⟩; have hB16 := bel_tr hB14 hb16)
        | (go_at_call 36; refine (copynil_calls _).mono ?_; rintro e w17 ⟨rfl, hb17⟩; have hB17 := bel_tr hB16 hb17))
      go_ret
      exact ⟨rfl, hB17⟩
end Go.Proofs.Ytehneliphhgegaa
