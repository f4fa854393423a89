/- command.Of: walked: what bytes are a command ('readV'). -/
import Derived.Test.YtehneliphhgegaaDoorDRd
import Derived.Test.YtehneliphhgegaaDoorDZag
import Derived.Test.YtehneliphhgegaaDoorDCheck
set_option linter.unusedVariables false
set_option linter.unusedSimpArgs false
set_option maxRecDepth 100000
namespace Go.Proofs.YtehneliphhgegaaDoor
open Go.RowKit Go.Apo

abbrev zeroC : Array Value := #[.int .i64 0, .string ⟨#[]⟩, .string ⟨#[]⟩, .string ⟨#[]⟩, .string ⟨#[]⟩, .int .i64 0]
def cmdA (k : Int) (nm ot ky vl : ByteArray) (n : Int) : Value := .agg #[.int .i64 k, .string nm, .string ot, .string ky, .string vl, .int .i64 n]
def ofB (done : Bool) (cv : Int) (k : Int) (nm ot ky vl : ByteArray) (z : Int) : Value := if done && (cv == 0) then .tuple #[cmdA k nm ot ky vl z, .int .i64 0] else .tuple #[cmdA 0 ⟨#[]⟩ ⟨#[]⟩ ⟨#[]⟩ ⟨#[]⟩ 0, .int .i64 20]
def ofV (c : CmdV) : Value := ofB (decide (c.st = some [])) (checkV (c.k : Int) c.nm c.ot c.ky c.vl c.n) c.k c.nm c.ot c.ky c.vl c.n
/-- what both Of answer -/
def ofR (l : List UInt8) : Value := ofV (readV l)
theorem ofR_eq {l : List UInt8} {k : Nat} {nm ot ky vl : ByteArray} {u : Nat} {s : Option (List UInt8)} (h : readV l = ⟨k, nm, ot, ky, vl, u, s⟩) : ofR l = ofB (decide (s = some [])) (checkV (k : Int) nm ot ky vl (Lib.unzigzag u)) k nm ot ky vl (Lib.unzigzag u) := by unfold ofR; rw [h]; rfl
set_option maxHeartbeats 8000000 in
theorem cof_calls (w : World) (A : Option Addr) (n c : Nat) (l : List UInt8) (hn : n = l.length) (hl : l.length ≤ 1000000) (hf : Flat w A (Lib.byteCells l)) (hA : A = none → l = []) (hv : VarsOk w) :
    Calls Tryd.prog 21 #[.slice A n c] w fun e w' => e = .returned (ofR l) ∧ Below w.heap.size w w' := by
  obtain ⟨kN, s1, e1⟩ : ∃ kN s1, rdN 20 (some l) = (kN, s1) := ⟨_, _, rfl⟩
  obtain ⟨nm, s2, e2⟩ : ∃ a t, rdT 300 s1 = (a, t) := ⟨_, _, rfl⟩
  obtain ⟨ot, s3, e3⟩ : ∃ a t, rdT 300 s2 = (a, t) := ⟨_, _, rfl⟩
  obtain ⟨ky, s4, e4⟩ : ∃ a t, rdT 300 s3 = (a, t) := ⟨_, _, rfl⟩
  obtain ⟨vl, s5, e5⟩ : ∃ a t, rdT 300 s4 = (a, t) := ⟨_, _, rfl⟩
  obtain ⟨u, s6, e6⟩ : ∃ a t, rdN 18446744073709551615 s5 = (a, t) := ⟨_, _, rfl⟩
  have hR : readV l = ⟨kN, nm, ot, ky, vl, u, s6⟩ := by unfold readV; simp only [e1, e2, e3, e4, e5, e6]
  have hk20 : kN ≤ 20 := by have := rdN_le 20 (some l); rw [e1] at this; exact this
  have h2 : nm.size ≤ 300 := by have := rdT_le 300 s1; rw [e2] at this; exact this
  have h3 : ot.size ≤ 300 := by have := rdT_le 300 s2; rw [e3] at this; exact this
  have h4 : ky.size ≤ 300 := by have := rdT_le 300 s3; rw [e4] at this; exact this
  have h5 : vl.size ≤ 300 := by have := rdT_le 300 s4; rw [e5] at this; exact this
  have hu : u ≤ 18446744073709551615 := by have := rdN_le 18446744073709551615 s5; rw [e6] at this; exact this
  have HRD := Lib.hid (fun W (hW : Below w.heap.size w W) => read_calls W A n c l hn hl (hf.below hW) hA)
  have HN1 := Lib.hid (fun W b D (h : RAt PR W b D (some l)) => num_calls W b D _ h 20 (by omega))
  have HT1 := Lib.hid (fun W b D (h : RAt PR W b D s1) => prtext_calls W b D _ h)
  have HT2 := Lib.hid (fun W b D (h : RAt PR W b D s2) => prtext_calls W b D _ h)
  have HT3 := Lib.hid (fun W b D (h : RAt PR W b D s3) => prtext_calls W b D _ h)
  have HT4 := Lib.hid (fun W b D (h : RAt PR W b D s4) => prtext_calls W b D _ h)
  have HN2 := Lib.hid (fun W b D (h : RAt PR W b D s5) => num_calls W b D _ h 18446744073709551615 (by omega))
  rw [e1] at HN1
  rw [e2] at HT1
  rw [e3] at HT2
  rw [e4] at HT3
  rw [e5] at HT4
  rw [e6] at HN2
  have HZ := Lib.hid (fun W => zag_calls u (by omega) W)
  have HDN := Lib.hid (fun W b D (h : RAt PR W b D s6) => done_calls W b D _ h)
  have HCK := Lib.hid (fun W (hW : Below w.heap.size w W) => check_calls (kN : Int) nm ot ky vl (Lib.unzigzag u) (by omega) (by omega) (by omega) (by omega) W (hv.below hW))
  rw [ofR_eq hR]
  have hkw : IntKind.i64.wrap (kN : Int) = (kN : Int) := by rw [IntKind.wrap_i64]; omega
  clear e1 e2 e3 e4 e5 e6 hR hf hA hv hn hl
  unfold RPost at HN1 HN2 HT1 HT2 HT3 HT4
  simp only [] at HN1 HN2 HT1 HT2 HT3 HT4
  rw [show ((20 : Nat) : Int) = 20 from rfl] at HN1
  rw [show ((18446744073709551615 : Nat) : Int) = 18446744073709551615 from rfl] at HN2
  obtain ⟨dn, hdn⟩ : ∃ dn, dn = decide (s6 = some []) := ⟨_, rfl⟩
  rw [← hdn] at HDN ⊢
  clear hdn
  obtain ⟨z, hz⟩ : ∃ z, z = Lib.unzigzag u := ⟨_, rfl⟩
  rw [← hz] at HZ HCK ⊢
  obtain ⟨cv, hcv⟩ : ∃ cv, cv = checkV (kN : Int) nm ot ky vl z := ⟨_, rfl⟩
  rw [← hcv] at HCK ⊢
  clear hz hcv
  have hB0 := bel_al0 (Below.refl w.heap.size w) (.cells #[.int .i64 0, .string ⟨#[]⟩, .string ⟨#[]⟩, .string ⟨#[]⟩, .string ⟨#[]⟩, .int .i64 0] 30)
  have HBX := Lib.hid (blk_new w #[.int .i64 0, .string ⟨#[]⟩, .string ⟨#[]⟩, .string ⟨#[]⟩, .string ⟨#[]⟩, .int .i64 0] 30)
  have hz0 := World.size_alloc w (.cells #[.int .i64 0, .string ⟨#[]⟩, .string ⟨#[]⟩, .string ⟨#[]⟩, .string ⟨#[]⟩, .int .i64 0] 30)
  go_enter Tryd.func21, Tryd.ntmps21
  go_upto_region 3 with (first
    | (go_at_call 57; refine (HRD.out _ hB0).mono ?_; rintro e w1 ⟨b, rfl, hbl, hbs, hr1, hb1⟩)
    | (go_at_call 58; refine (HN1.out _ _ _ hr1).mono ?_; rintro e w2 ⟨rfl, hr2, hb2⟩))
  have h0p5 := hb2.size
  have h0b : w.heap.size ≤ b := by omega
  have HB := Lib.hid (bel_al0 (But.below (hB0.trans (hb1.mono (by omega))) (Nat.le_refl _) h0b hb2) (.cells #[.int .i64 (kN : Int), .string ⟨#[]⟩, .string ⟨#[]⟩, .string ⟨#[]⟩, .string ⟨#[]⟩, .int .i64 0] 30))
  have HP : Hid (Blk (w2.alloc (.cells #[.int .i64 (kN : Int), .string ⟨#[]⟩, .string ⟨#[]⟩, .string ⟨#[]⟩, .string ⟨#[]⟩, .int .i64 0] 30)) w.heap.size zeroC 30) := (blk_but (HBX.out.below hb1) hb2 (by omega)).al _
  have HC : Hid (Blk (w2.alloc (.cells #[.int .i64 (kN : Int), .string ⟨#[]⟩, .string ⟨#[]⟩, .string ⟨#[]⟩, .string ⟨#[]⟩, .int .i64 0] 30)) w2.heap.size #[.int .i64 (kN : Int), .string ⟨#[]⟩, .string ⟨#[]⟩, .string ⟨#[]⟩, .string ⟨#[]⟩, .int .i64 0] 30) := blk_new _ _ _
  have HR : Hid (RAt PR (w2.alloc (.cells #[.int .i64 (kN : Int), .string ⟨#[]⟩, .string ⟨#[]⟩, .string ⟨#[]⟩, .string ⟨#[]⟩, .int .i64 0] 30)) b w1.heap.size s1) := hr2.below (bel_al0 (Below.refl _ _) _)
  have hpb : w2.heap.size ≠ b := by omega
  have h0p : w.heap.size ≤ w2.heap.size := by omega
  have h0b' : w.heap.size ≠ b := by omega
  have h0p' : w.heap.size ≠ w2.heap.size := by omega
  have hDp : w1.heap.size ≤ w2.heap.size := h0p5
  obtain ⟨D, hD⟩ : ∃ D, D = w1.heap.size := ⟨_, rfl⟩
  rw [← hD] at HR hDp
  obtain ⟨w3, hw3⟩ : ∃ w3, w3 = w2.alloc (.cells #[.int .i64 (kN : Int), .string ⟨#[]⟩, .string ⟨#[]⟩, .string ⟨#[]⟩, .string ⟨#[]⟩, .int .i64 0] 30) := ⟨_, rfl⟩
  rw [← hw3] at HB HP HC HR ⊢
  obtain ⟨p5, hp5⟩ : ∃ p5, p5 = w2.heap.size := ⟨_, rfl⟩
  rw [← hp5] at HC hpb h0p h0p' hDp ⊢
  obtain ⟨p0, hp0⟩ : ∃ p0, p0 = w.heap.size := ⟨_, rfl⟩
  rw [← hp0] at HP h0b' h0p' ⊢
  have H0 := Lib.hid hp0
  clear hw3 hp5 hD hb1 hb2 hr1 hr2 h0p5 hbs hbl HN1 HBX hB0 hz0 hp0
  go_upto_region 4 with (go_at_call 59; refine (HT1.out _ _ _ HR.out).mono ?_; rintro e wA ⟨rfl, hr, hb⟩; obtain ⟨x0, x1, x2, x3, x4, x5, xf⟩ := blk_six (blk_but HC.out hb hpb); have xf1 := xf 1)
  have hs := hb.size
  have hz2 : (wA.setCell ⟨p5, 1, none⟩ (.string nm)).heap.size = wA.heap.size := by simp [World.setCell]
  replace HR : Hid (RAt PR (wA.setCell ⟨p5, 1, none⟩ (.string nm)) b D s2) := hr.but (But.set wA p5 1 _) (Ne.symm hpb) hDp
  replace HB : Hid (Below w.heap.size w (wA.setCell ⟨p5, 1, none⟩ (.string nm))) := But.below (But.below HB.out (Nat.le_refl _) h0b hb) (Nat.le_refl _) h0p (But.set wA p5 1 _)
  replace HP : Hid (Blk (wA.setCell ⟨p5, 1, none⟩ (.string nm)) p0 zeroC 30) := blk_but (blk_but HP.out hb h0b') (But.set wA p5 1 _) h0p'
  replace HC : Hid (Blk (wA.setCell ⟨p5, 1, none⟩ (.string nm)) p5 #[.int .i64 (kN : Int), .string nm, .string ⟨#[]⟩, .string ⟨#[]⟩, .string ⟨#[]⟩, .int .i64 0] 30) := (blk_but HC.out hb hpb).set 1 _
  obtain ⟨wS, hwS⟩ : ∃ wS, wS = wA.setCell ⟨p5, 1, none⟩ (.string nm) := ⟨_, rfl⟩
  rw [← hwS] at HR HB HP HC hz2 ⊢
  clear hwS hr hb x0 x1 x2 x3 x4 x5 xf xf1 hs hz2 HT1
  obtain ⟨w3, rfl⟩ : ∃ w3 : World, w3 = wS := ⟨_, rfl⟩
  go_upto_region 5 with (go_at_call 59; refine (HT2.out _ _ _ HR.out).mono ?_; rintro e wA ⟨rfl, hr, hb⟩; obtain ⟨x0, x1, x2, x3, x4, x5, xf⟩ := blk_six (blk_but HC.out hb hpb); have xf2 := xf 2)
  have hs := hb.size
  have hz2 : (wA.setCell ⟨p5, 2, none⟩ (.string ot)).heap.size = wA.heap.size := by simp [World.setCell]
  replace HR : Hid (RAt PR (wA.setCell ⟨p5, 2, none⟩ (.string ot)) b D s3) := hr.but (But.set wA p5 2 _) (Ne.symm hpb) hDp
  replace HB : Hid (Below w.heap.size w (wA.setCell ⟨p5, 2, none⟩ (.string ot))) := But.below (But.below HB.out (Nat.le_refl _) h0b hb) (Nat.le_refl _) h0p (But.set wA p5 2 _)
  replace HP : Hid (Blk (wA.setCell ⟨p5, 2, none⟩ (.string ot)) p0 zeroC 30) := blk_but (blk_but HP.out hb h0b') (But.set wA p5 2 _) h0p'
  replace HC : Hid (Blk (wA.setCell ⟨p5, 2, none⟩ (.string ot)) p5 #[.int .i64 (kN : Int), .string nm, .string ot, .string ⟨#[]⟩, .string ⟨#[]⟩, .int .i64 0] 30) := (blk_but HC.out hb hpb).set 2 _
  obtain ⟨wS, hwS⟩ : ∃ wS, wS = wA.setCell ⟨p5, 2, none⟩ (.string ot) := ⟨_, rfl⟩
  rw [← hwS] at HR HB HP HC hz2 ⊢
  clear hwS hr hb x0 x1 x2 x3 x4 x5 xf xf2 hs hz2 HT2
  obtain ⟨w3, rfl⟩ : ∃ w3 : World, w3 = wS := ⟨_, rfl⟩
  go_upto_region 6 with (go_at_call 59; refine (HT3.out _ _ _ HR.out).mono ?_; rintro e wA ⟨rfl, hr, hb⟩; obtain ⟨x0, x1, x2, x3, x4, x5, xf⟩ := blk_six (blk_but HC.out hb hpb); have xf3 := xf 3)
  have hs := hb.size
  have hz2 : (wA.setCell ⟨p5, 3, none⟩ (.string ky)).heap.size = wA.heap.size := by simp [World.setCell]
  replace HR : Hid (RAt PR (wA.setCell ⟨p5, 3, none⟩ (.string ky)) b D s4) := hr.but (But.set wA p5 3 _) (Ne.symm hpb) hDp
  replace HB : Hid (Below w.heap.size w (wA.setCell ⟨p5, 3, none⟩ (.string ky))) := But.below (But.below HB.out (Nat.le_refl _) h0b hb) (Nat.le_refl _) h0p (But.set wA p5 3 _)
  replace HP : Hid (Blk (wA.setCell ⟨p5, 3, none⟩ (.string ky)) p0 zeroC 30) := blk_but (blk_but HP.out hb h0b') (But.set wA p5 3 _) h0p'
  replace HC : Hid (Blk (wA.setCell ⟨p5, 3, none⟩ (.string ky)) p5 #[.int .i64 (kN : Int), .string nm, .string ot, .string ky, .string ⟨#[]⟩, .int .i64 0] 30) := (blk_but HC.out hb hpb).set 3 _
  obtain ⟨wS, hwS⟩ : ∃ wS, wS = wA.setCell ⟨p5, 3, none⟩ (.string ky) := ⟨_, rfl⟩
  rw [← hwS] at HR HB HP HC hz2 ⊢
  clear hwS hr hb x0 x1 x2 x3 x4 x5 xf xf3 hs hz2 HT3
  obtain ⟨w3, rfl⟩ : ∃ w3 : World, w3 = wS := ⟨_, rfl⟩
  go_upto_region 7 with (go_at_call 59; refine (HT4.out _ _ _ HR.out).mono ?_; rintro e wA ⟨rfl, hr, hb⟩; obtain ⟨x0, x1, x2, x3, x4, x5, xf⟩ := blk_six (blk_but HC.out hb hpb); have xf4 := xf 4)
  have hs := hb.size
  have hz2 : (wA.setCell ⟨p5, 4, none⟩ (.string vl)).heap.size = wA.heap.size := by simp [World.setCell]
  replace HR : Hid (RAt PR (wA.setCell ⟨p5, 4, none⟩ (.string vl)) b D s5) := hr.but (But.set wA p5 4 _) (Ne.symm hpb) hDp
  replace HB : Hid (Below w.heap.size w (wA.setCell ⟨p5, 4, none⟩ (.string vl))) := But.below (But.below HB.out (Nat.le_refl _) h0b hb) (Nat.le_refl _) h0p (But.set wA p5 4 _)
  replace HP : Hid (Blk (wA.setCell ⟨p5, 4, none⟩ (.string vl)) p0 zeroC 30) := blk_but (blk_but HP.out hb h0b') (But.set wA p5 4 _) h0p'
  replace HC : Hid (Blk (wA.setCell ⟨p5, 4, none⟩ (.string vl)) p5 #[.int .i64 (kN : Int), .string nm, .string ot, .string ky, .string vl, .int .i64 0] 30) := (blk_but HC.out hb hpb).set 4 _
  obtain ⟨wS, hwS⟩ : ∃ wS, wS = wA.setCell ⟨p5, 4, none⟩ (.string vl) := ⟨_, rfl⟩
  rw [← hwS] at HR HB HP HC hz2 ⊢
  clear hwS hr hb x0 x1 x2 x3 x4 x5 xf xf4 hs hz2 HT4
  obtain ⟨w3, rfl⟩ : ∃ w3 : World, w3 = wS := ⟨_, rfl⟩
  go_upto_region 8 with (first
    | (go_at_call 58; refine (HN2.out _ _ _ HR.out).mono ?_; rintro e wA ⟨rfl, hr, hb⟩; obtain ⟨x0, x1, x2, x3, x4, x5, xf⟩ := blk_six (blk_but HC.out hb hpb); have xf5 := xf 5)
    | (go_at_call 60; refine (HZ.out _).mono ?_; rintro e wB ⟨rfl, rfl⟩))
  replace HR : Hid (RAt PR (wA.setCell ⟨p5, 5, none⟩ (.int .i64 z)) b D s6) := hr.but (But.set wA p5 5 _) (Ne.symm hpb) hDp
  replace HB : Hid (Below w.heap.size w (wA.setCell ⟨p5, 5, none⟩ (.int .i64 z))) := But.below (But.below HB.out (Nat.le_refl _) h0b hb) (Nat.le_refl _) h0p (But.set wA p5 5 _)
  replace HP : Hid (Blk (wA.setCell ⟨p5, 5, none⟩ (.int .i64 z)) p0 zeroC 30) := blk_but (blk_but HP.out hb h0b') (But.set wA p5 5 _) h0p'
  replace HC : Hid (Blk (wA.setCell ⟨p5, 5, none⟩ (.int .i64 z)) p5 #[.int .i64 (kN : Int), .string nm, .string ot, .string ky, .string vl, .int .i64 z] 30) := (blk_but HC.out hb hpb).set 5 _
  obtain ⟨wS, hwS⟩ : ∃ wS, wS = wA.setCell ⟨p5, 5, none⟩ (.int .i64 z) := ⟨_, rfl⟩
  rw [← hwS] at HR HB HP HC ⊢
  clear hwS hr hb x0 x1 x2 x3 x4 x5 xf xf5 HN2 HZ
  obtain ⟨w3, rfl⟩ : ∃ w3 : World, w3 = wS := ⟨_, rfl⟩
  obtain ⟨x0, x1, x2, x3, x4, x5, xf⟩ := blk_six HC.out
  have hcl := cell_lt x0
  cases dn with
  | false =>
    obtain ⟨y0, y1, y2, y3, y4, y5, yf⟩ := blk_six HP.out
    have yf0 := yf 0; have yf1 := yf 1; have yf2 := yf 2; have yf3 := yf 3; have yf4 := yf 4; have yf5 := yf 5
    have e0 : ofB false cv kN nm ot ky vl z = .tuple #[.agg zeroC, .int .i64 20] := rfl
    have E0 := Lib.hid e0; clear e0
    go_wp2_with (go_at_call 61; refine (HDN.out _ _ _ HR.out).mono ?_; rintro e wB ⟨rfl, rfl⟩)
    have HPF : Blk (World.setCell (World.setCell (World.setCell (World.setCell (World.setCell (World.setCell w3 ⟨p0, 0, none⟩ (.int .i64 0)) ⟨p0, 1, none⟩ (.string ⟨#[]⟩)) ⟨p0, 2, none⟩ (.string ⟨#[]⟩)) ⟨p0, 3, none⟩ (.string ⟨#[]⟩)) ⟨p0, 4, none⟩ (.string ⟨#[]⟩)) ⟨p0, 5, none⟩ (.int .i64 0)) p0 #[.int .i64 0, .string ⟨#[]⟩, .string ⟨#[]⟩, .string ⟨#[]⟩, .string ⟨#[]⟩, .int .i64 0] 30 := ((((((HP.out.set 0 (.int .i64 0)).set 1 (.string ⟨#[]⟩)).set 2 (.string ⟨#[]⟩)).set 3 (.string ⟨#[]⟩)).set 4 (.string ⟨#[]⟩)).set 5 (.int .i64 0))
    have HBF : Below w.heap.size w (World.setCell (World.setCell (World.setCell (World.setCell (World.setCell (World.setCell w3 ⟨p0, 0, none⟩ (.int .i64 0)) ⟨p0, 1, none⟩ (.string ⟨#[]⟩)) ⟨p0, 2, none⟩ (.string ⟨#[]⟩)) ⟨p0, 3, none⟩ (.string ⟨#[]⟩)) ⟨p0, 4, none⟩ (.string ⟨#[]⟩)) ⟨p0, 5, none⟩ (.int .i64 0)) := (bel_set (bel_set (bel_set (bel_set (bel_set (bel_set HB.out (p := ⟨p0, 0, none⟩) (by show w.heap.size ≤ p0; rw [H0.out]; omega) _) (p := ⟨p0, 1, none⟩) (by show w.heap.size ≤ p0; rw [H0.out]; omega) _) (p := ⟨p0, 2, none⟩) (by show w.heap.size ≤ p0; rw [H0.out]; omega) _) (p := ⟨p0, 3, none⟩) (by show w.heap.size ≤ p0; rw [H0.out]; omega) _) (p := ⟨p0, 4, none⟩) (by show w.heap.size ≤ p0; rw [H0.out]; omega) _) (p := ⟨p0, 5, none⟩) (by show w.heap.size ≤ p0; rw [H0.out]; omega) _)
    obtain ⟨wF, hwF⟩ : ∃ wF, wF = (World.setCell (World.setCell (World.setCell (World.setCell (World.setCell (World.setCell w3 ⟨p0, 0, none⟩ (.int .i64 0)) ⟨p0, 1, none⟩ (.string ⟨#[]⟩)) ⟨p0, 2, none⟩ (.string ⟨#[]⟩)) ⟨p0, 3, none⟩ (.string ⟨#[]⟩)) ⟨p0, 4, none⟩ (.string ⟨#[]⟩)) ⟨p0, 5, none⟩ (.int .i64 0)) := ⟨_, rfl⟩
    rw [← hwF] at HPF HBF ⊢
    clear hwF
    obtain ⟨z0, z1, z2, z3, z4, z5, _⟩ := blk_six HPF
    refine bodyPost_ret (v := .tuple #[.agg #[.int .i64 0, .string ⟨#[]⟩, .string ⟨#[]⟩, .string ⟨#[]⟩, .string ⟨#[]⟩, .int .i64 0], .int .i64 20]) ?_ rfl ?_
    · simp [results, Tryd.results21, go_sem, z0, z1, z2, z3, z4, z5]
    · exact ⟨by rw [E0.out], HBF⟩
  | true =>
    obtain ⟨y0, y1, y2, y3, y4, y5, yf⟩ := blk_six HP.out
    have yf0 := yf 0; have yf1 := yf 1; have yf2 := yf 2; have yf3 := yf 3; have yf4 := yf 4; have yf5 := yf 5
    have hpl := cell_lt y0
    by_cases h0 : cv = 0
    · subst h0
      have e0 : ofB true 0 kN nm ot ky vl z = .tuple #[.agg #[.int .i64 (kN : Int), .string nm, .string ot, .string ky, .string vl, .int .i64 z], .int .i64 0] := rfl
      have E0 := Lib.hid e0; clear e0
      go_wp2_with (first
        | (go_at_call 61; refine (HDN.out _ _ _ HR.out).mono ?_; rintro e wB ⟨rfl, rfl⟩)
        | (go_at_call 17; refine (HCK.out _ HB.out).mono ?_; rintro e wC ⟨rfl, hbC⟩; obtain ⟨x0, x1, x2, x3, x4, x5, _⟩ := blk_six (HC.out.below hbC); obtain ⟨y0, y1, y2, y3, y4, y5, yg⟩ := blk_six (HP.out.below hbC); have yg0 := yg 0; have yg1 := yg 1; have yg2 := yg 2; have yg3 := yg 3; have yg4 := yg 4; have yg5 := yg 5))
      have HPF : Blk (World.setCell (World.setCell (World.setCell (World.setCell (World.setCell (World.setCell wC ⟨p0, 0, none⟩ (.int .i64 (kN : Int))) ⟨p0, 1, none⟩ (.string nm)) ⟨p0, 2, none⟩ (.string ot)) ⟨p0, 3, none⟩ (.string ky)) ⟨p0, 4, none⟩ (.string vl)) ⟨p0, 5, none⟩ (.int .i64 z)) p0 #[.int .i64 (kN : Int), .string nm, .string ot, .string ky, .string vl, .int .i64 z] 30 := (((((((HP.out.below hbC).set 0 (.int .i64 (kN : Int))).set 1 (.string nm)).set 2 (.string ot)).set 3 (.string ky)).set 4 (.string vl)).set 5 (.int .i64 z))
      have HBF : Below w.heap.size w (World.setCell (World.setCell (World.setCell (World.setCell (World.setCell (World.setCell wC ⟨p0, 0, none⟩ (.int .i64 (kN : Int))) ⟨p0, 1, none⟩ (.string nm)) ⟨p0, 2, none⟩ (.string ot)) ⟨p0, 3, none⟩ (.string ky)) ⟨p0, 4, none⟩ (.string vl)) ⟨p0, 5, none⟩ (.int .i64 z)) := (bel_set (bel_set (bel_set (bel_set (bel_set (bel_set (bel_tr HB.out hbC) (p := ⟨p0, 0, none⟩) (by show w.heap.size ≤ p0; rw [H0.out]; omega) _) (p := ⟨p0, 1, none⟩) (by show w.heap.size ≤ p0; rw [H0.out]; omega) _) (p := ⟨p0, 2, none⟩) (by show w.heap.size ≤ p0; rw [H0.out]; omega) _) (p := ⟨p0, 3, none⟩) (by show w.heap.size ≤ p0; rw [H0.out]; omega) _) (p := ⟨p0, 4, none⟩) (by show w.heap.size ≤ p0; rw [H0.out]; omega) _) (p := ⟨p0, 5, none⟩) (by show w.heap.size ≤ p0; rw [H0.out]; omega) _)
      obtain ⟨wF, hwF⟩ : ∃ wF, wF = (World.setCell (World.setCell (World.setCell (World.setCell (World.setCell (World.setCell wC ⟨p0, 0, none⟩ (.int .i64 (kN : Int))) ⟨p0, 1, none⟩ (.string nm)) ⟨p0, 2, none⟩ (.string ot)) ⟨p0, 3, none⟩ (.string ky)) ⟨p0, 4, none⟩ (.string vl)) ⟨p0, 5, none⟩ (.int .i64 z)) := ⟨_, rfl⟩
      rw [← hwF] at HPF HBF ⊢
      clear hwF
      obtain ⟨z0, z1, z2, z3, z4, z5, _⟩ := blk_six HPF
      refine bodyPost_ret (v := .tuple #[.agg #[.int .i64 (kN : Int), .string nm, .string ot, .string ky, .string vl, .int .i64 z], .int .i64 0]) ?_ rfl ?_
      · simp [results, Tryd.results21, go_sem, z0, z1, z2, z3, z4, z5]
      · exact ⟨by rw [E0.out], HBF⟩
    · have g0 : (cv == 0) = false := by simpa using h0
      have e0 : ofB true cv kN nm ot ky vl z = .tuple #[.agg zeroC, .int .i64 20] := by unfold ofB; rw [g0]; rfl
      have E0 := Lib.hid e0; clear e0 g0
      go_wp2_with (first
        | (go_at_call 61; refine (HDN.out _ _ _ HR.out).mono ?_; rintro e wB ⟨rfl, rfl⟩)
        | (go_at_call 17; refine (HCK.out _ HB.out).mono ?_; rintro e wC ⟨rfl, hbC⟩; obtain ⟨x0, x1, x2, x3, x4, x5, _⟩ := blk_six (HC.out.below hbC); obtain ⟨y0, y1, y2, y3, y4, y5, yg⟩ := blk_six (HP.out.below hbC); have yg0 := yg 0; have yg1 := yg 1; have yg2 := yg 2; have yg3 := yg 3; have yg4 := yg 4; have yg5 := yg 5))
      have HPF : Blk (World.setCell (World.setCell (World.setCell (World.setCell (World.setCell (World.setCell wC ⟨p0, 0, none⟩ (.int .i64 0)) ⟨p0, 1, none⟩ (.string ⟨#[]⟩)) ⟨p0, 2, none⟩ (.string ⟨#[]⟩)) ⟨p0, 3, none⟩ (.string ⟨#[]⟩)) ⟨p0, 4, none⟩ (.string ⟨#[]⟩)) ⟨p0, 5, none⟩ (.int .i64 0)) p0 #[.int .i64 0, .string ⟨#[]⟩, .string ⟨#[]⟩, .string ⟨#[]⟩, .string ⟨#[]⟩, .int .i64 0] 30 := (((((((HP.out.below hbC).set 0 (.int .i64 0)).set 1 (.string ⟨#[]⟩)).set 2 (.string ⟨#[]⟩)).set 3 (.string ⟨#[]⟩)).set 4 (.string ⟨#[]⟩)).set 5 (.int .i64 0))
      have HBF : Below w.heap.size w (World.setCell (World.setCell (World.setCell (World.setCell (World.setCell (World.setCell wC ⟨p0, 0, none⟩ (.int .i64 0)) ⟨p0, 1, none⟩ (.string ⟨#[]⟩)) ⟨p0, 2, none⟩ (.string ⟨#[]⟩)) ⟨p0, 3, none⟩ (.string ⟨#[]⟩)) ⟨p0, 4, none⟩ (.string ⟨#[]⟩)) ⟨p0, 5, none⟩ (.int .i64 0)) := (bel_set (bel_set (bel_set (bel_set (bel_set (bel_set (bel_tr HB.out hbC) (p := ⟨p0, 0, none⟩) (by show w.heap.size ≤ p0; rw [H0.out]; omega) _) (p := ⟨p0, 1, none⟩) (by show w.heap.size ≤ p0; rw [H0.out]; omega) _) (p := ⟨p0, 2, none⟩) (by show w.heap.size ≤ p0; rw [H0.out]; omega) _) (p := ⟨p0, 3, none⟩) (by show w.heap.size ≤ p0; rw [H0.out]; omega) _) (p := ⟨p0, 4, none⟩) (by show w.heap.size ≤ p0; rw [H0.out]; omega) _) (p := ⟨p0, 5, none⟩) (by show w.heap.size ≤ p0; rw [H0.out]; omega) _)
      obtain ⟨wF, hwF⟩ : ∃ wF, wF = (World.setCell (World.setCell (World.setCell (World.setCell (World.setCell (World.setCell wC ⟨p0, 0, none⟩ (.int .i64 0)) ⟨p0, 1, none⟩ (.string ⟨#[]⟩)) ⟨p0, 2, none⟩ (.string ⟨#[]⟩)) ⟨p0, 3, none⟩ (.string ⟨#[]⟩)) ⟨p0, 4, none⟩ (.string ⟨#[]⟩)) ⟨p0, 5, none⟩ (.int .i64 0)) := ⟨_, rfl⟩
      rw [← hwF] at HPF HBF ⊢
      clear hwF
      obtain ⟨z0, z1, z2, z3, z4, z5, _⟩ := blk_six HPF
      refine bodyPost_ret (v := .tuple #[.agg #[.int .i64 0, .string ⟨#[]⟩, .string ⟨#[]⟩, .string ⟨#[]⟩, .string ⟨#[]⟩, .int .i64 0], .int .i64 20]) ?_ rfl ?_
      · simp [results, Tryd.results21, go_sem, z0, z1, z2, z3, z4, z5]
      · exact ⟨by rw [E0.out], HBF⟩
end Go.Proofs.YtehneliphhgegaaDoor
