/- The document's reader: Num, Text, Done: walked once. -/
import Derived.Test.YtehneliphhgegaaDoorDRLeb
import Derived.Test.YtehneliphhgegaaDoorDRd
set_option linter.unusedVariables false
set_option linter.unusedSimpArgs false
set_option maxRecDepth 100000
namespace Go.Proofs.YtehneliphhgegaaDoor
open Go.RowKit Go.Apo

abbrev DR : TypeId := 95
set_option maxHeartbeats 4000000 in
theorem drfail_calls (w : World) (b D : Nat) (st : Option (List UInt8)) (h : RAt DR w b D st) :
    Calls Tryd.prog 100 #[.pointer (some ⟨b, 0, none⟩)] w (RPost DR b D (.tuple #[]) none w) := by
  obtain ⟨v0, v1, hb⟩ : ∃ v0 v1, Blk w b #[v0, v1] DR := by
    cases st with
    | none => exact ⟨_, _, h⟩
    | some l => obtain ⟨A, c, hb, _⟩ := h; exact ⟨_, _, hb⟩
  obtain ⟨x0, x1, xf⟩ := blk_two hb
  have xf0 := xf 0
  have xf1 := xf 1
  have HB := Lib.hid hb; clear hb h xf
  go_enter Tryd.func100, Tryd.ntmps100
  go_wp2
  go_end0
  exact ⟨rfl, (HB.out.set 0 _).set 1 _, but_set (but_set (But.refl _ _) 0 _) 1 _⟩
theorem lebR_nil : lebR [] = .tuple #[.int .u64 0, .int .i64 0, .int .i64 20] := lebR_none rfl
set_option maxHeartbeats 8000000 in
theorem drnum_calls (w : World) (b D : Nat) (st : Option (List UInt8)) (h : RAt DR w b D st) (most : Nat) (hm : most < 18446744073709551616) :
    Calls Tryd.prog 62 #[.pointer (some ⟨b, 0, none⟩), .int .u64 most] w (RPost DR b D (.int .u64 (rdN most st).1) (rdN most st).2 w) := by
  have HFA := Lib.hid (fun W (hW : RAt DR W b D st) => drfail_calls W b D st hW)
  have HH := Lib.hid h
  unfold RPost at HFA
  cases st with
  | none =>
    obtain ⟨x0, x1, _⟩ := blk_two (show Blk w b #[.slice none 0 0, .bool true] DR from h)
    have HLE := Lib.hid (rleb_calls none 0 0 [] rfl (by omega) (Nat.le_refl _) w (Flat.nil _ _))
    rw [lebR_nil] at HLE
    clear h
    show Calls _ _ _ _ (RPost DR b D (.int .u64 0) none w)
    go_enter Tryd.func62, Tryd.ntmps62
    go_wp2_with (first
      | (go_at_call 99; refine HLE.out.mono ?_; rintro e w1 ⟨rfl, hb1⟩; have y1 := cell_bel x1 hb1)
      | (go_at_call 100; refine (HFA.out _ (HH.out.below hb1)).mono ?_; rintro e w2 ⟨rfl, hr2, hb2⟩))
    go_ret
    exact ⟨rfl, hr2, (But.of_below hb1).trans hb2⟩
  | some l =>
    obtain ⟨A, c, hb, hc, hl, hf, ho⟩ := h
    obtain ⟨x0, x1, xf⟩ := blk_two hb
    have xf0 := xf 0
    clear xf
    obtain ⟨n, hn⟩ : ∃ n, n = l.length := ⟨_, rfl⟩
    rw [← hn] at x0 hc hl
    have HLE := Lib.hid (rleb_calls A n c l hn.symm hl hc w hf)
    have HB := Lib.hid hb; clear hb
    have HF := Lib.hid hf; clear hf
    have HN := Lib.hid hn
    have hbl := cell_lt x0
    rcases hd : decV l with _ | ⟨x, k⟩
    · rw [rdN_bad hd]
      rw [lebR_none hd] at HLE
      clear hd hn
      go_enter Tryd.func62, Tryd.ntmps62
      go_wp2_with (first
        | (go_at_call 99; refine HLE.out.mono ?_; rintro e w1 ⟨rfl, hb1⟩; have y1 := cell_bel x1 hb1)
        | (go_at_call 100; refine (HFA.out _ (HH.out.below hb1)).mono ?_; rintro e w2 ⟨rfl, hr2, hb2⟩))
      go_ret
      exact ⟨rfl, hr2, (But.of_below hb1).trans hb2⟩
    · have hx64 : x < 18446744073709551616 := (decV_some hd).choose_spec.2.2
      obtain ⟨hk1, _⟩ := decV_le hd
      rw [lebR_some hd] at HLE
      by_cases hbig : most < x
      · rw [rdN_big hd hbig]
        have g1 : decide ((most : Int) < (x : Int)) = true := by simp; omega
        clear hd hn
        go_enter Tryd.func62, Tryd.ntmps62
        go_wp2_with (first
          | (go_at_call 99; refine HLE.out.mono ?_; rintro e w1 ⟨rfl, hb1⟩; have y1 := cell_bel x1 hb1)
          | (go_at_call 100; refine (HFA.out _ (HH.out.below hb1)).mono ?_; rintro e w2 ⟨rfl, hr2, hb2⟩))
        go_ret
        exact ⟨rfl, hr2, (But.of_below hb1).trans hb2⟩
      · rw [rdN_yes hd hbig]
        have g1 : decide ((most : Int) < (x : Int)) = false := by simp; omega
        rw [← hn] at hk1
        have hcut2 : ∀ W, (Instr.slice 35 (.slice A n c) (some (.int .i64 (k : Int))) none none).run Tryd.prog W = .ok (.slice (subA A c k) (n - k) (c - k)) W := fun W => by
          have h := run_cut .i64 A n c k hk1 W
          rw [run_sliceAt_slice W _ _ _ _ _ (by kernel_rfl)] at h
          exact h
        clear hd hn
        go_enter Tryd.func62, Tryd.ntmps62
        go_wp2_with (go_at_call 99; refine HLE.out.mono ?_; rintro e w1 ⟨rfl, hb1⟩; have y1 := cell_bel x1 hb1; have y0 := cell_bel x0 hb1; have yf0 : w1.frozen? ⟨b, 0, none⟩ = false := (hb1.frozen (p := ⟨b, 0, none⟩) hbl).trans xf0)
        go_ret
        refine ⟨rfl, ratCut (HB.out.below hb1) (by rw [← HN.out]; exact hc) (by rw [← HN.out]; exact hl) (HF.out.below hb1) ho k (n - k) (by rw [← HN.out]; exact hk1) (by rw [HN.out]), (But.of_below hb1).trans (But.set _ _ _ _)⟩
set_option maxHeartbeats 4000000 in
theorem drdone_calls (w : World) (b D : Nat) (st : Option (List UInt8)) (h : RAt DR w b D st) :
    Calls Tryd.prog 65 #[.pointer (some ⟨b, 0, none⟩)] w fun e w' => e = .returned (.bool (decide (st = some []))) ∧ w = w' := by
  cases st with
  | none =>
    obtain ⟨x0, x1, _⟩ := blk_two (show Blk w b #[.slice none 0 0, .bool true] DR from h)
    show Calls _ _ _ _ (fun e w' => e = .returned (.bool false) ∧ w = w')
    clear h
    go_enter Tryd.func65, Tryd.ntmps65
    go_wp2
    go_ret
    exact ⟨rfl, rfl⟩
  | some l =>
    obtain ⟨A, c, hb, hc, hl, hf, ho⟩ := h
    obtain ⟨x0, x1, xf⟩ := blk_two hb
    obtain ⟨n, hn⟩ : ∃ n, n = l.length := ⟨_, rfl⟩
    have e : decide ((some l : Option (List UInt8)) = some []) = ((n : Int) == 0) := by
      rw [hn]
      cases l with
      | nil => rfl
      | cons a l => simp; omega
    rw [e]
    rw [← hn] at x0
    clear hb hf hc hl hn e
    go_enter Tryd.func65, Tryd.ntmps65
    go_wp2
    go_ret
    exact ⟨rfl, rfl⟩
set_option maxHeartbeats 8000000 in
theorem drtext_calls (w : World) (b D : Nat) (st : Option (List UInt8)) (h : RAt DR w b D st) :
    Calls Tryd.prog 63 #[.pointer (some ⟨b, 0, none⟩), .int .i64 300] w (RPost DR b D (.string (rdT 300 st).1) (rdT 300 st).2 w) := by
  have HNU := Lib.hid (drnum_calls w b D st h 300 (by omega))
  unfold RPost at HNU
  clear h
  rcases hd : rdN 300 st with ⟨x, _ | l⟩
  · rw [rdT_bad hd]
    rw [hd] at HNU
    clear hd
    have HFA := Lib.hid (fun W (hW : RAt DR W b D none) => drfail_calls W b D none hW)
    unfold RPost at HFA
    show Calls _ _ _ _ (RPost DR b D (.string ⟨#[]⟩) none w)
    go_enter Tryd.func63, Tryd.ntmps63
    go_wp2_with (first
      | (go_at_call 62; refine HNU.out.mono ?_; rintro e w1 ⟨rfl, hr1, hb1⟩; obtain ⟨x0, x1, _⟩ := blk_two (show Blk w1 b #[.slice none 0 0, .bool true] DR from hr1))
      | (go_at_call 100; refine (HFA.out _ hr1).mono ?_; rintro e w2 ⟨rfl, hr2, hb2⟩))
    go_ret
    exact ⟨rfl, hr2, hb1.trans hb2⟩
  · rw [hd] at HNU
    have hx300 : x ≤ 300 := by have := rdN_le 300 st; rw [hd] at this; exact this
    by_cases hsh : l.length < x
    · rw [rdT_short hd hsh]
      clear hd
      have HFA := Lib.hid (fun W (hW : RAt DR W b D (some l)) => drfail_calls W b D (some l) hW)
      unfold RPost at HFA
      show Calls _ _ _ _ (RPost DR b D (.string ⟨#[]⟩) none w)
      go_enter Tryd.func63, Tryd.ntmps63
      go_upto_region 5 with (go_at_call 62; refine HNU.out.mono ?_; rintro e w1 ⟨rfl, hr1, hb1⟩)
      have HF1 := Lib.hid (HFA.out _ hr1)
      obtain ⟨A, c, hbk, hc, hl, hf, ho⟩ := hr1
      obtain ⟨x0, x1, xf⟩ := blk_two hbk
      have hlw : IntKind.u64.wrap ((l.length : Nat) : Int) = ((l.length : Nat) : Int) := by rw [IntKind.wrap_u64]; omega
      obtain ⟨n, hn⟩ : ∃ n, n = l.length := ⟨_, rfl⟩
      rw [← hn] at hsh hlw x0
      clear hn hbk hf xf hl hc
      go_wp2_with (go_at_call 100; refine HF1.out.mono ?_; rintro e w2 ⟨rfl, hr2, hb2⟩)
      go_ret
      exact ⟨rfl, hr2, hb1.trans hb2⟩
    · rw [rdT_yes hd hsh]
      clear hd
      go_enter Tryd.func63, Tryd.ntmps63
      go_upto_region 5 with (go_at_call 62; refine HNU.out.mono ?_; rintro e w1 ⟨rfl, hr1, hb1⟩)
      obtain ⟨A, c, hbk, hc, hl, hf, ho⟩ := hr1
      obtain ⟨x0, x1, xf⟩ := blk_two hbk
      have xf0 := xf 0
      have hlw : IntKind.u64.wrap ((l.length : Nat) : Int) = ((l.length : Nat) : Int) := by rw [IntKind.wrap_u64]; omega
      have HBK := Lib.hid hbk; clear hbk
      obtain ⟨n, hn⟩ : ∃ n, n = l.length := ⟨_, rfl⟩
      have hcut2 : ∀ W, (Instr.slice 35 (.slice A n c) (some (.int .u64 (x : Int))) none none).run Tryd.prog W = .ok (.slice (subA A c x) (n - x) (c - x)) W := fun W => by
        have h := run_cut .u64 A n c x (by omega) W
        rw [run_sliceAt_slice W _ _ _ _ _ (by kernel_rfl)] at h
        exact h
      have hhead2 : ∀ W, (Instr.slice 35 (.slice A n c) none (some (.int .u64 (x : Int))) none).run Tryd.prog W = .ok (.slice A x c) W := fun W => by
        have h := run_head .u64 A n c x (by omega) W
        rw [run_sliceAt_slice W _ _ _ _ _ (by kernel_rfl)] at h
        exact h
      have hcv : (convert 35 9 (.slice A x c)).run Tryd.prog w1 = .ok (.string ⟨(l.take x).toArray⟩) w1 := by
        refine run_text A c (l.take x) w1 ?_ x (by rw [List.length_take]; omega)
        have := flat_take hf x
        have e : (Lib.byteCells l).take x = Lib.byteCells (l.take x) := by unfold Lib.byteCells; rw [List.map_take]
        rw [e] at this
        exact this
      rw [← hn] at hsh hlw x0
      have HF := Lib.hid hf; clear hf
      have HL := Lib.hid hl
      have HC := Lib.hid hc
      have HN := Lib.hid hn; clear hn hc hl
      clear HNU
      obtain ⟨s, hs⟩ : ∃ s : ByteArray, s = ⟨(l.take x).toArray⟩ := ⟨_, rfl⟩
      rw [← hs] at hcv
      have HS := Lib.hid hs
      clear hs xf
      go_wp2_with fail
      go_ret
      exact ⟨by show Ending.returned (.string s) = _; rw [HS.out], ratCut HBK.out HC.out HL.out HF.out ho x (n - x) (by have := HN.out; omega) (by rw [HN.out]), hb1.trans (But.set _ _ _ _)⟩
end Go.Proofs.YtehneliphhgegaaDoor
