/- The law RefsDo: walked. -/
import Derived.Test.YtehneliphhgegaaSync16
import Derived.Test.YtehneliphhgegaaReadRows
set_option linter.unusedVariables false
set_option linter.unusedSimpArgs false
set_option maxRecDepth 100000
namespace Go.Proofs.Ytehneliphhgegaa
open Go.RowKit Go.Apo

theorem RTab.mono {B B' : Nat} {w : World} {x : Nat} {R : List RefD} (h : RTab B w x R) (hB : B' ≤ B) : RTab B' w x R := by
  obtain ⟨A, k, h1, h2, h3, h4⟩ := h.ex
  refine ⟨Nat.le_trans hB h.lo, A, k, h1, h2, h3, fun hR => ?_⟩
  obtain ⟨g, cs, e, hg, hb, ht⟩ := h4 hR
  exact ⟨g, cs, e, Nat.le_trans hB hg, hb, ht⟩
theorem RTab.but {B : Nat} {w w' : World} {p m x : Nat} {L : List (ByteArray × RefD)} {R : List RefD} (h : RTab B w x R) (hT : TableAt w p m L) (hb : But m w w') : RTab B w' x R := by
  obtain ⟨o, ho, hoc⟩ := hT.2.notCells
  have hk := hb.cells ho hoc
  obtain ⟨A, k, h1, h2, h3, h4⟩ := h.ex
  refine ⟨h.lo, A, k, hk _ _ h1 rfl, h2, h3, fun hR => ?_⟩
  obtain ⟨g, cs, e, hg, hB, ht⟩ := h4 hR
  exact ⟨g, cs, e, hg, hk _ _ hB rfl, ht⟩
theorem tab_done {B : Nat} {w w' : World} {p m x : Nat} {L : List (ByteArray × RefD)} {R R' : List RefD} {v : Int} {e : Ending} (hT : TableAt w p m L) (h : RTab B w x R) (hd : TDone B w x v R' e w') : TableAt w' p m L := by
  obtain ⟨A, k, h1, _⟩ := h.ex
  have hxc := h1.one.1
  obtain ⟨o, ho, hoc⟩ := hT.2.notCells
  refine hT.blocks (hd.k p (cell_lt hT.1) ?_ ?_) (hd.k m hT.2.lt ?_ ?_)
  · rintro rfl
    rw [hT.1] at hxc; cases hxc
  · intro s e
    rw [hT.1] at e; cases e
  · rintro rfl
    have h2 := h1
    unfold Blk at h2
    rw [ho] at h2
    cases h2; cases hoc
  · intro s e
    obtain ⟨o', ho', hc'⟩ := cells_of_cell e
    have : o = o' := by
      have h3 : w.heap[m]? = some o' := ho'
      rw [ho] at h3; cases h3; rfl
    subst this
    rw [hoc] at hc'; cases hc'
theorem cells_done {B : Nat} {w w' : World} {x b j : Nat} {R' : List RefD} {v : Int} {e : Ending} {u : Value} {k : Int} (hd : TDone B w x v R' e w') (hb : b ≠ x) (h0 : w.cell? ⟨b, 0, none⟩ = some (.int .i64 k)) (hj : w.cell? ⟨b, j, none⟩ = some u) : w'.cell? ⟨b, j, none⟩ = some u :=
  (World.cell?_of_block (w := w) (a := ⟨b, j, none⟩) (hd.k b (cell_lt h0) hb (fun s e => by rw [h0] at e; cases e))).trans hj
theorem fewB_names {l : List RefD} (h : fewB l = true) : ∀ r ∈ l, r.name.size ≤ 1000000 := fun r hr => by
  unfold fewB at h
  simp only [Bool.and_eq_true, List.all_eq_true, decide_eq_true_eq] at h
  have := h.1 r hr
  omega
set_option maxHeartbeats 16000000 in
theorem refsDo_calls (w : World) (A : Option Addr) (n c : Nat) (l : List RefD) (h : RefRow w A n l) (D : Option Addr) (dn dc : Nat) (ds : List DeedD) (hd : DeedRow w D dn ds) (nm : ByteArray) :
    Calls Try.prog 5 #[.slice A n c, .slice D dn dc, .string nm] w fun e w' => e = .returned (.bool true) ∧ Below w.heap.size w w' := by
  have hdn := hd.le
  have HF := Lib.hid (fun W hW => few16_calls W A n c l hW)
  have H := Lib.hid h; clear h
  have HD := Lib.hid hd; clear hd
  have hfn := fun h => @fewB_names l h
  obtain ⟨fb, hfb⟩ : ∃ fb, fb = fewB l := ⟨_, rfl⟩
  rw [← hfb] at HF hfn
  clear hfb
  go_enter Try.func5, Try.ntmps5
  go_wp2_with fail
  refine (awake16_calls _).mono ?_
  rintro e w1 ⟨rfl, hb1⟩
  go_wp2_with fail
  have hB1 : Below w.heap.size w w1 := hb1
  refine (HF.out _ (H.out.below hB1)).mono ?_
  rintro e w2 ⟨rfl, hb2⟩
  have hB2 : Below w.heap.size w w2 := bel_tr hB1 hb2
  cases fb with
  | false =>
    go_wp2
    go_ret
    exact ⟨rfl, hB2⟩
  | true =>
    have hnames := hfn rfl
    clear hfn HF
    by_cases h40 : 40 < dn
    · have g1 : decide ((40 : Int) < dn) = true := by simp; omega
      go_wp2
      go_ret
      exact ⟨rfl, hB2⟩
    · have g1 : decide ((40 : Int) < dn) = false := by simp; omega
      by_cases h41 : 40 < nm.size
      · have g2 : decide ((40 : Int) < nm.size) = true := by simp; omega
        go_wp2
        go_ret
        exact ⟨rfl, hB2⟩
      · have g2 : decide ((40 : Int) < nm.size) = false := by simp; omega
        have HNM := Lib.hid hnames; clear hnames
        go_wp2_with fail
        clear g1 g2
        refine (new_calls _ _ _ _ _ (H.out.below hB2)).mono ?_
        rintro e w3 ⟨p, m, rfl, ht3, hm3, hp3, hb3⟩
        have hB3 : Below w.heap.size w w3 := bel_tr hB2 hb3
        go_wp2_with fail
        refine (tnew_calls _ _ _ _ _ (H.out.below hB3) HNM.out).mono ?_
        rintro e w4 ⟨x, rfl, hx4, hb4⟩
        have hB4 : Below w.heap.size w w4 := bel_tr hB3 hb4
        have hsz2 := hB2.size
        have hsz3 := hB3.size
        have HS : Hid (TableAt w4 p m (l.foldl makeL []) ∧ RTab w.heap.size w4 x (l.foldl rmakeL []) ∧ Sync16 (l.foldl makeL []) (l.foldl rmakeL [])) := ⟨ht3.below hb4, hx4.mono hsz3, sync_new l Sync16.nil⟩
        have hpw : w.heap.size ≤ p := by omega
        have hmw : w.heap.size ≤ m := by omega
        have hdn40 : dn ≤ 40 := by omega
        clear ht3 hx4 hb1 hb2 hb3 hb4 hB1 hB2 hB3 hm3 hp3 hsz2 hsz3 h40
        go_wp2_with fail
        go_loopw [38, 7, 10, 11, 12, 51, 61, 83] (fun i v7 _ _ _ _ _ _ wr => ∃ (k p m : Nat) (L : List (ByteArray × RefD)) (R : List RefD), k ≤ dn ∧ i = .int .i64 k ∧ v7 = .pointer (some ⟨p, 0, none⟩) ∧ Hid (TableAt wr p m L ∧ RTab w.heap.size wr x R ∧ Sync16 L R) ∧ w.heap.size ≤ p ∧ w.heap.size ≤ m ∧ Below w.heap.size w wr) (fun i _ _ _ _ _ _ _ _ => dn - (intOf i).toNat)
        case atStart => exact ⟨0, p, m, _, _, Nat.zero_le _, rfl, rfl, HS.out, hpw, hmw, hB4⟩
        case round =>
          clear HS hpw hmw hB4
          obtain ⟨k, p, m, L, R, hk, rfl, rfl, hS, hpw, hmw, hB⟩ := hrel
          obtain ⟨hT, hX, hSy⟩ := hS.out
          clear hS
          by_cases hlt : k < dn
          · obtain ⟨b, off, rfl, hcell⟩ := HD.out.at_ (by omega)
            have hlk : ds[k]? = some (ds[k]'(by rw [HD.out.len]; exact hlt)) := List.getElem?_eq_getElem _
            obtain ⟨⟨dk, dm, dt, di, dold⟩, hlk⟩ : ∃ d, ds[k]? = some d := ⟨_, hlk⟩
            obtain ⟨e0, e1, e2, e3, e4⟩ := hcell k _ hlk
            clear hcell hlk
            simp only at e0 e1 e2 e3 e4
            replace e0 := cell_bel e0 hB
            replace e1 := cell_bel e1 hB
            replace e2 := cell_bel e2 hB
            replace e3 := cell_bel e3 hB
            replace e4 := cell_bel e4 hB
            have hz := hB.size
            by_cases h42 : 40 < dm.size
            · have g1 : decide ((40 : Int) < dm.size) = true := by simp; omega
              go_wp2
              go_ret
              exact ⟨rfl, by (repeat (first | (with_reducible exact Below.refl _ _) | (with_reducible assumption) | (with_reducible refine bel_al0 ?_ _) | (with_reducible refine bel_set ?_ (by first | (simp; done) | (simp; omega)) _) | (with_reducible refine bel_dr ?_) | (with_reducible refine bel_drn ?_ _) | (with_reducible refine bel_tr ?_ (by assumption))))⟩
            · have g1 : decide ((40 : Int) < dm.size) = false := by simp; omega
              have hdm : dm.size ≤ 1000000 := by omega
              clear h42
              have hBa := bel_al0 hB (.cells #[.int .i64 dk, .string dm, .bool dt, .int .u64 di, .int .u64 dold] 34)
              have HTa := Lib.hid (hT.below (bel_al0 (Below.refl _ wr) (.cells #[.int .i64 dk, .string dm, .bool dt, .int .u64 di, .int .u64 dold] 34)))
              have HXa := Lib.hid (hX.below (bel_al0 (Below.refl _ wr) (.cells #[.int .i64 dk, .string dm, .bool dt, .int .u64 di, .int .u64 dold] 34)))
              have HSy := Lib.hid hSy
              have hbx : wr.heap.size ≠ x := by
                obtain ⟨A9, k9, h9, _⟩ := hX.ex
                have := h9.lt
                omega
              have HBd := Lib.hid (blk_new wr #[.int .i64 dk, .string dm, .bool dt, .int .u64 di, .int .u64 dold] 34)
              obtain ⟨b0, hb0⟩ : ∃ b0, b0 = wr.heap.size := ⟨_, rfl⟩
              clear hT hX hSy
              have HBa := Lib.hid hBa; clear hBa
              by_cases k0 : dk = 0
              · subst k0
                have hsy := HSy.out.make ⟨dm, dt, di⟩
                have HM := Lib.hid (fun W hW => make_calls p m W L hW dm dt di)
                have HRM := Lib.hid (fun W (hW : RTab w.heap.size W x R) (hs : w.heap.size ≤ W.heap.size) => tmake_calls w.heap.size W x R hW hs (by have := HSy.out.le; omega) dm hdm dt di)
                rw [hsy.1] at HRM
                obtain ⟨ev, hev⟩ : ∃ ev, ev = makeE L ⟨dm, dt, di⟩ := ⟨_, rfl⟩
                obtain ⟨L2, hL2⟩ : ∃ L2, L2 = makeL L ⟨dm, dt, di⟩ := ⟨_, rfl⟩
                obtain ⟨R2, hR2⟩ : ∃ R2, R2 = rmakeL R ⟨dm, dt, di⟩ := ⟨_, rfl⟩
                rw [← hev, ← hL2] at HM
                rw [← hev, ← hR2] at HRM
                have HSy' : Hid (Sync16 L2 R2) := by rw [hL2, hR2]; exact hsy.2
                clear hev hL2 hR2 hsy
                go_upto_region 15 with fail
                obtain ⟨W, hW⟩ : ∃ W, W = wr.alloc (.cells #[.int .i64 0, .string dm, .bool dt, .int .u64 di, .int .u64 dold] 34) := ⟨_, rfl⟩
                rw [← hW] at HTa HXa HBd HBa ⊢
                rw [← hb0] at HBd ⊢
                have hbx0 : b0 ≠ x := by rw [hb0]; exact hbx
                clear hW hb0 hbx e0 e1 e2 e3 e4 hz
                obtain ⟨y0, y1, y2, y3, y4, _⟩ := HBd.out.five
                go_region_held3 (fun w' => w'.cell? ⟨b0, 0, none⟩ = some (.int .i64 0) ∧ w'.cell? ⟨b0, 1, none⟩ = some (.string dm) ∧ w'.cell? ⟨b0, 2, none⟩ = some (.bool dt) ∧ w'.cell? ⟨b0, 3, none⟩ = some (.int .u64 di) ∧ w'.cell? ⟨b0, 4, none⟩ = some (.int .u64 dold)) (((try dsimp only); (repeat' apply And.intro); all_goals (first | assumption | go_keep))) (first | (go_at_call 20; refine (HM.out _ (HTa.out.below (bel_dr (Below.refl _ _)))).mono ?_; rintro e w5 ⟨rfl, ht5, hbt5⟩; obtain ⟨o9, ho9, hoc9⟩ := (HTa.out.below (bel_dr (Below.refl _ W))).2.notCells; have z0 := hbt5.cell_keeps ho9 hoc9 y0; have z1 := hbt5.cell_keeps ho9 hoc9 y1; have z2 := hbt5.cell_keeps ho9 hoc9 y2; have z3 := hbt5.cell_keeps ho9 hoc9 y3; have z4 := hbt5.cell_keeps ho9 hoc9 y4; have HX5 := Lib.hid ((HXa.out.below (bel_dr (Below.refl _ W))).but (HTa.out.below (bel_dr (Below.refl _ W))) hbt5); have HT5 := Lib.hid ht5; clear ht5; have HB5 := Lib.hid (But.below (bel_dr HBa.out) (Nat.le_refl _) hmw hbt5); clear hbt5 ho9 hoc9) | (go_at_call 33; refine (HRM.out _ HX5.out HB5.out.size).mono ?_; rintro e w6 hd6; obtain rfl := hd6.e; have v0 := cells_done hd6 hbx0 z0 z0; have v1 := cells_done hd6 hbx0 z0 z1; have v2 := cells_done hd6 hbx0 z0 z2; have v3 := cells_done hd6 hbx0 z0 z3; have v4 := cells_done hd6 hbx0 z0 z4; have HT6 := Lib.hid (tab_done HT5.out HX5.out hd6); have HX6 := Lib.hid hd6.t; have HB6 := Lib.hid (HB5.out.trans hd6.b); clear hd6))
                clear v0 v1 v2 v3 v4 z0 z1 z2 z3 z4 y0 y1 y2 y3 y4
                have HS2 := HSy'
                obtain ⟨p2, hp2⟩ : ∃ p2, p2 = p := ⟨_, rfl⟩
                subst hp2
                obtain ⟨m2, hm2⟩ : ∃ m2, m2 = m := ⟨_, rfl⟩
                subst hm2
                have hpw2 := hpw
                have hmw2 := hmw
                clear HM HRM HX5 HT5 HB5 HTa HXa HBa HBd HSy hpw hmw
                go_upto_region 20 with fail
                obtain ⟨A8, k8, hblk8, hk8, _, hrow8⟩ := HX6.out.ex
                have xc := hblk8.one.1
                have hrr : RRow w.heap.size w6 A8 R2 := hrow8
                have HR6 := Lib.hid hrr.flat
                have hlenR := HS2.out.le
                have hlenL := HS2.out.len
                have HALL := Lib.hid (fun W hW => all16_calls W p2 m2 L2 hW (by omega) HS2.out.keys)
                rw [HS2.out.all] at HALL
                unfold RefsMade at HALL
                have HSM := Lib.hid (fun (W : World) (A : Option Addr) (c : Nat) (hf : Flat W A (refCells R2)) (hf2 : Flat W A8 (refCells R2)) => same_calls W A A8 R2.length c R2.length k8 R2 R2 rfl rfl (by omega) (by omega) hf hf2)
                rw [decide_eq_true (rfl : R2 = R2)] at HSM
                have HLN := Lib.hid (fun W hW => len16_calls p2 m2 W L2 hW)
                rw [hlenL] at HLN
                obtain ⟨nR, hnR⟩ : ∃ nR, nR = R2.length := ⟨_, rfl⟩
                rw [← hnR] at HALL HSM HLN xc
                clear hnR hblk8 hk8 hrow8 hrr hlenR hlenL
                go_region_held3 (fun w' => Below w6.heap.size w6 w' ∧ w'.cell? ⟨x, 0, none⟩ = some (.slice A8 nR k8)) (((try dsimp only); (repeat' apply And.intro); all_goals (first | assumption | ((repeat (first | (with_reducible exact Below.refl _ _) | (with_reducible assumption) | (with_reducible refine bel_al0 ?_ _) | (with_reducible refine bel_set ?_ (by first | (simp; done) | (simp; omega)) _) | (with_reducible refine bel_dr ?_) | (with_reducible refine bel_drn ?_ _) | (with_reducible refine bel_tr ?_ (by assumption)))); done) | go_keep))) (first | (go_at_call 38; refine (HALL.out _ (HT6.out.below (by (repeat (first | (with_reducible exact Below.refl _ _) | (with_reducible assumption) | (with_reducible refine bel_al0 ?_ _) | (with_reducible refine bel_set ?_ (by first | (simp; done) | (simp; omega)) _) | (with_reducible refine bel_dr ?_) | (with_reducible refine bel_drn ?_ _) | (with_reducible refine bel_tr ?_ (by assumption))))))).mono ?_; rintro e w7 ⟨v7, rfl, ho7, hb7⟩; have hb67 : Below w6.heap.size w6 w7 := bel_tr (by (repeat (first | (with_reducible exact Below.refl _ _) | (with_reducible assumption) | (with_reducible refine bel_al0 ?_ _) | (with_reducible refine bel_set ?_ (by first | (simp; done) | (simp; omega)) _) | (with_reducible refine bel_dr ?_) | (with_reducible refine bel_drn ?_ _) | (with_reducible refine bel_tr ?_ (by assumption))))) hb7; obtain ⟨A7, k7, rfl, _⟩ := own_form ho7; have HO7 := Lib.hid (own_flat ho7); clear ho7; have xc7 := cell_bel xc hb67) | (go_at_call 37; refine (HSM.out _ A7 k7 (HO7.out) (HR6.out.below hb67)).mono ?_; rintro e w8 ⟨rfl, hb8⟩; have hb68 : Below w6.heap.size w6 w8 := bel_tr hb67 hb8; have xc8 := cell_bel xc hb68) | (go_at_call 39; refine (HLN.out _ (HT6.out.below (by first | exact hb68 | ((repeat (first | (with_reducible exact Below.refl _ _) | (with_reducible assumption) | (with_reducible refine bel_al0 ?_ _) | (with_reducible refine bel_set ?_ (by first | (simp; done) | (simp; omega)) _) | (with_reducible refine bel_dr ?_) | (with_reducible refine bel_drn ?_ _) | (with_reducible refine bel_tr ?_ (by assumption)))))))).mono ?_; rintro e w9 ⟨rfl, rfl⟩))
                all_goals (
                  go_wp2
                  go_roundw
                  case rel => exact ⟨k + 1, p2, m2, L2, R2, by omega, by go_num, rfl, ⟨HT6.out.below (by first | assumption | ((repeat (first | (with_reducible exact Below.refl _ _) | (with_reducible assumption) | (with_reducible refine bel_al0 ?_ _) | (with_reducible refine bel_set ?_ (by first | (simp; done) | (simp; omega)) _) | (with_reducible refine bel_dr ?_) | (with_reducible refine bel_drn ?_ _) | (with_reducible refine bel_tr ?_ (by assumption)))))), HX6.out.below (by first | assumption | ((repeat (first | (with_reducible exact Below.refl _ _) | (with_reducible assumption) | (with_reducible refine bel_al0 ?_ _) | (with_reducible refine bel_set ?_ (by first | (simp; done) | (simp; omega)) _) | (with_reducible refine bel_dr ?_) | (with_reducible refine bel_drn ?_ _) | (with_reducible refine bel_tr ?_ (by assumption)))))), HS2.out⟩, hpw2, hmw2, bel_tr HB6.out (by first | assumption | ((repeat (first | (with_reducible exact Below.refl _ _) | (with_reducible assumption) | (with_reducible refine bel_al0 ?_ _) | (with_reducible refine bel_set ?_ (by first | (simp; done) | (simp; omega)) _) | (with_reducible refine bel_dr ?_) | (with_reducible refine bel_drn ?_ _) | (with_reducible refine bel_tr ?_ (by assumption))))))⟩
                  case measure => simp [intOf]; omega)
              by_cases k1 : dk = 1
              · subst k1
                have hsy := HSy.out.set dm dold di
                have HM := Lib.hid (fun W hW => set_calls p m W L hW dm dold di)
                have HRM := Lib.hid (fun W (hW : RTab w.heap.size W x R) (hs : w.heap.size ≤ W.heap.size) => tset_calls w.heap.size W x R hW hs (by have := HSy.out.le; omega) dm dold di)
                rw [hsy.1] at HRM
                obtain ⟨ev, hev⟩ : ∃ ev, ev = setE L dm dold := ⟨_, rfl⟩
                obtain ⟨L2, hL2⟩ : ∃ L2, L2 = setL L dm dold di := ⟨_, rfl⟩
                obtain ⟨R2, hR2⟩ : ∃ R2, R2 = rsetL R dm dold di := ⟨_, rfl⟩
                rw [← hev, ← hL2] at HM
                rw [← hev, ← hR2] at HRM
                have HSy' : Hid (Sync16 L2 R2) := by rw [hL2, hR2]; exact hsy.2
                clear hev hL2 hR2 hsy
                go_upto_region 17 with fail
                obtain ⟨W, hW⟩ : ∃ W, W = wr.alloc (.cells #[.int .i64 1, .string dm, .bool dt, .int .u64 di, .int .u64 dold] 34) := ⟨_, rfl⟩
                rw [← hW] at HTa HXa HBd HBa ⊢
                rw [← hb0] at HBd ⊢
                have hbx0 : b0 ≠ x := by rw [hb0]; exact hbx
                clear hW hb0 hbx e0 e1 e2 e3 e4 hz
                obtain ⟨y0, y1, y2, y3, y4, _⟩ := HBd.out.five
                go_region_held3 (fun w' => w'.cell? ⟨b0, 0, none⟩ = some (.int .i64 1) ∧ w'.cell? ⟨b0, 1, none⟩ = some (.string dm) ∧ w'.cell? ⟨b0, 2, none⟩ = some (.bool dt) ∧ w'.cell? ⟨b0, 3, none⟩ = some (.int .u64 di) ∧ w'.cell? ⟨b0, 4, none⟩ = some (.int .u64 dold)) (((try dsimp only); (repeat' apply And.intro); all_goals (first | assumption | go_keep))) (first | (go_at_call 21; refine (HM.out _ (HTa.out.below (bel_dr (Below.refl _ _)))).mono ?_; rintro e w5 ⟨rfl, ht5, hbt5⟩; obtain ⟨o9, ho9, hoc9⟩ := (HTa.out.below (bel_dr (Below.refl _ W))).2.notCells; have z0 := hbt5.cell_keeps ho9 hoc9 y0; have z1 := hbt5.cell_keeps ho9 hoc9 y1; have z2 := hbt5.cell_keeps ho9 hoc9 y2; have z3 := hbt5.cell_keeps ho9 hoc9 y3; have z4 := hbt5.cell_keeps ho9 hoc9 y4; have HX5 := Lib.hid ((HXa.out.below (bel_dr (Below.refl _ W))).but (HTa.out.below (bel_dr (Below.refl _ W))) hbt5); have HT5 := Lib.hid ht5; clear ht5; have HB5 := Lib.hid (But.below (bel_dr HBa.out) (Nat.le_refl _) hmw hbt5); clear hbt5 ho9 hoc9) | (go_at_call 34; refine (HRM.out _ HX5.out HB5.out.size).mono ?_; rintro e w6 hd6; obtain rfl := hd6.e; have v0 := cells_done hd6 hbx0 z0 z0; have v1 := cells_done hd6 hbx0 z0 z1; have v2 := cells_done hd6 hbx0 z0 z2; have v3 := cells_done hd6 hbx0 z0 z3; have v4 := cells_done hd6 hbx0 z0 z4; have HT6 := Lib.hid (tab_done HT5.out HX5.out hd6); have HX6 := Lib.hid hd6.t; have HB6 := Lib.hid (HB5.out.trans hd6.b); clear hd6))
                clear v0 v1 v2 v3 v4 z0 z1 z2 z3 z4 y0 y1 y2 y3 y4
                have HS2 := HSy'
                obtain ⟨p2, hp2⟩ : ∃ p2, p2 = p := ⟨_, rfl⟩
                subst hp2
                obtain ⟨m2, hm2⟩ : ∃ m2, m2 = m := ⟨_, rfl⟩
                subst hm2
                have hpw2 := hpw
                have hmw2 := hmw
                clear HM HRM HX5 HT5 HB5 HTa HXa HBa HBd HSy hpw hmw
                go_upto_region 20 with fail
                obtain ⟨A8, k8, hblk8, hk8, _, hrow8⟩ := HX6.out.ex
                have xc := hblk8.one.1
                have hrr : RRow w.heap.size w6 A8 R2 := hrow8
                have HR6 := Lib.hid hrr.flat
                have hlenR := HS2.out.le
                have hlenL := HS2.out.len
                have HALL := Lib.hid (fun W hW => all16_calls W p2 m2 L2 hW (by omega) HS2.out.keys)
                rw [HS2.out.all] at HALL
                unfold RefsMade at HALL
                have HSM := Lib.hid (fun (W : World) (A : Option Addr) (c : Nat) (hf : Flat W A (refCells R2)) (hf2 : Flat W A8 (refCells R2)) => same_calls W A A8 R2.length c R2.length k8 R2 R2 rfl rfl (by omega) (by omega) hf hf2)
                rw [decide_eq_true (rfl : R2 = R2)] at HSM
                have HLN := Lib.hid (fun W hW => len16_calls p2 m2 W L2 hW)
                rw [hlenL] at HLN
                obtain ⟨nR, hnR⟩ : ∃ nR, nR = R2.length := ⟨_, rfl⟩
                rw [← hnR] at HALL HSM HLN xc
                clear hnR hblk8 hk8 hrow8 hrr hlenR hlenL
                go_region_held3 (fun w' => Below w6.heap.size w6 w' ∧ w'.cell? ⟨x, 0, none⟩ = some (.slice A8 nR k8)) (((try dsimp only); (repeat' apply And.intro); all_goals (first | assumption | ((repeat (first | (with_reducible exact Below.refl _ _) | (with_reducible assumption) | (with_reducible refine bel_al0 ?_ _) | (with_reducible refine bel_set ?_ (by first | (simp; done) | (simp; omega)) _) | (with_reducible refine bel_dr ?_) | (with_reducible refine bel_drn ?_ _) | (with_reducible refine bel_tr ?_ (by assumption)))); done) | go_keep))) (first | (go_at_call 38; refine (HALL.out _ (HT6.out.below (by (repeat (first | (with_reducible exact Below.refl _ _) | (with_reducible assumption) | (with_reducible refine bel_al0 ?_ _) | (with_reducible refine bel_set ?_ (by first | (simp; done) | (simp; omega)) _) | (with_reducible refine bel_dr ?_) | (with_reducible refine bel_drn ?_ _) | (with_reducible refine bel_tr ?_ (by assumption))))))).mono ?_; rintro e w7 ⟨v7, rfl, ho7, hb7⟩; have hb67 : Below w6.heap.size w6 w7 := bel_tr (by (repeat (first | (with_reducible exact Below.refl _ _) | (with_reducible assumption) | (with_reducible refine bel_al0 ?_ _) | (with_reducible refine bel_set ?_ (by first | (simp; done) | (simp; omega)) _) | (with_reducible refine bel_dr ?_) | (with_reducible refine bel_drn ?_ _) | (with_reducible refine bel_tr ?_ (by assumption))))) hb7; obtain ⟨A7, k7, rfl, _⟩ := own_form ho7; have HO7 := Lib.hid (own_flat ho7); clear ho7; have xc7 := cell_bel xc hb67) | (go_at_call 37; refine (HSM.out _ A7 k7 (HO7.out) (HR6.out.below hb67)).mono ?_; rintro e w8 ⟨rfl, hb8⟩; have hb68 : Below w6.heap.size w6 w8 := bel_tr hb67 hb8; have xc8 := cell_bel xc hb68) | (go_at_call 39; refine (HLN.out _ (HT6.out.below (by first | exact hb68 | ((repeat (first | (with_reducible exact Below.refl _ _) | (with_reducible assumption) | (with_reducible refine bel_al0 ?_ _) | (with_reducible refine bel_set ?_ (by first | (simp; done) | (simp; omega)) _) | (with_reducible refine bel_dr ?_) | (with_reducible refine bel_drn ?_ _) | (with_reducible refine bel_tr ?_ (by assumption)))))))).mono ?_; rintro e w9 ⟨rfl, rfl⟩))
                all_goals (
                  go_wp2
                  go_roundw
                  case rel => exact ⟨k + 1, p2, m2, L2, R2, by omega, by go_num, rfl, ⟨HT6.out.below (by first | assumption | ((repeat (first | (with_reducible exact Below.refl _ _) | (with_reducible assumption) | (with_reducible refine bel_al0 ?_ _) | (with_reducible refine bel_set ?_ (by first | (simp; done) | (simp; omega)) _) | (with_reducible refine bel_dr ?_) | (with_reducible refine bel_drn ?_ _) | (with_reducible refine bel_tr ?_ (by assumption)))))), HX6.out.below (by first | assumption | ((repeat (first | (with_reducible exact Below.refl _ _) | (with_reducible assumption) | (with_reducible refine bel_al0 ?_ _) | (with_reducible refine bel_set ?_ (by first | (simp; done) | (simp; omega)) _) | (with_reducible refine bel_dr ?_) | (with_reducible refine bel_drn ?_ _) | (with_reducible refine bel_tr ?_ (by assumption)))))), HS2.out⟩, hpw2, hmw2, bel_tr HB6.out (by first | assumption | ((repeat (first | (with_reducible exact Below.refl _ _) | (with_reducible assumption) | (with_reducible refine bel_al0 ?_ _) | (with_reducible refine bel_set ?_ (by first | (simp; done) | (simp; omega)) _) | (with_reducible refine bel_dr ?_) | (with_reducible refine bel_drn ?_ _) | (with_reducible refine bel_tr ?_ (by assumption))))))⟩
                  case measure => simp [intOf]; omega)
              by_cases k2 : dk = 2
              · subst k2
                have hsy := HSy.out.drop dm
                have HM := Lib.hid (fun W hW => drop_calls p m W L hW dm)
                have HRM := Lib.hid (fun W (hW : RTab w.heap.size W x R) (hs : w.heap.size ≤ W.heap.size) => tdrop_calls w.heap.size W x R hW hs (by have := HSy.out.le; omega) dm)
                rw [hsy.1] at HRM
                obtain ⟨ev, hev⟩ : ∃ ev, ev = dropE L dm := ⟨_, rfl⟩
                obtain ⟨L2, hL2⟩ : ∃ L2, L2 = mdel L dm := ⟨_, rfl⟩
                obtain ⟨R2, hR2⟩ : ∃ R2, R2 = rdropL R dm := ⟨_, rfl⟩
                rw [← hev, ← hL2] at HM
                rw [← hev, ← hR2] at HRM
                have HSy' : Hid (Sync16 L2 R2) := by rw [hL2, hR2]; exact hsy.2
                clear hev hL2 hR2 hsy
                go_upto_region 19 with fail
                obtain ⟨W, hW⟩ : ∃ W, W = wr.alloc (.cells #[.int .i64 2, .string dm, .bool dt, .int .u64 di, .int .u64 dold] 34) := ⟨_, rfl⟩
                rw [← hW] at HTa HXa HBd HBa ⊢
                rw [← hb0] at HBd ⊢
                have hbx0 : b0 ≠ x := by rw [hb0]; exact hbx
                clear hW hb0 hbx e0 e1 e2 e3 e4 hz
                obtain ⟨y0, y1, y2, y3, y4, _⟩ := HBd.out.five
                go_region_held3 (fun w' => w'.cell? ⟨b0, 0, none⟩ = some (.int .i64 2) ∧ w'.cell? ⟨b0, 1, none⟩ = some (.string dm) ∧ w'.cell? ⟨b0, 2, none⟩ = some (.bool dt) ∧ w'.cell? ⟨b0, 3, none⟩ = some (.int .u64 di) ∧ w'.cell? ⟨b0, 4, none⟩ = some (.int .u64 dold)) (((try dsimp only); (repeat' apply And.intro); all_goals (first | assumption | go_keep))) (first | (go_at_call 23; refine (HM.out _ (HTa.out.below (bel_dr (Below.refl _ _)))).mono ?_; rintro e w5 ⟨rfl, ht5, hbt5⟩; obtain ⟨o9, ho9, hoc9⟩ := (HTa.out.below (bel_dr (Below.refl _ W))).2.notCells; have z0 := hbt5.cell_keeps ho9 hoc9 y0; have z1 := hbt5.cell_keeps ho9 hoc9 y1; have z2 := hbt5.cell_keeps ho9 hoc9 y2; have z3 := hbt5.cell_keeps ho9 hoc9 y3; have z4 := hbt5.cell_keeps ho9 hoc9 y4; have HX5 := Lib.hid ((HXa.out.below (bel_dr (Below.refl _ W))).but (HTa.out.below (bel_dr (Below.refl _ W))) hbt5); have HT5 := Lib.hid ht5; clear ht5; have HB5 := Lib.hid (But.below (bel_dr HBa.out) (Nat.le_refl _) hmw hbt5); clear hbt5 ho9 hoc9) | (go_at_call 35; refine (HRM.out _ HX5.out HB5.out.size).mono ?_; rintro e w6 hd6; obtain rfl := hd6.e; have v0 := cells_done hd6 hbx0 z0 z0; have v1 := cells_done hd6 hbx0 z0 z1; have v2 := cells_done hd6 hbx0 z0 z2; have v3 := cells_done hd6 hbx0 z0 z3; have v4 := cells_done hd6 hbx0 z0 z4; have HT6 := Lib.hid (tab_done HT5.out HX5.out hd6); have HX6 := Lib.hid hd6.t; have HB6 := Lib.hid (HB5.out.trans hd6.b); clear hd6))
                clear v0 v1 v2 v3 v4 z0 z1 z2 z3 z4 y0 y1 y2 y3 y4
                have HS2 := HSy'
                obtain ⟨p2, hp2⟩ : ∃ p2, p2 = p := ⟨_, rfl⟩
                subst hp2
                obtain ⟨m2, hm2⟩ : ∃ m2, m2 = m := ⟨_, rfl⟩
                subst hm2
                have hpw2 := hpw
                have hmw2 := hmw
                clear HM HRM HX5 HT5 HB5 HTa HXa HBa HBd HSy hpw hmw
                go_upto_region 20 with fail
                obtain ⟨A8, k8, hblk8, hk8, _, hrow8⟩ := HX6.out.ex
                have xc := hblk8.one.1
                have hrr : RRow w.heap.size w6 A8 R2 := hrow8
                have HR6 := Lib.hid hrr.flat
                have hlenR := HS2.out.le
                have hlenL := HS2.out.len
                have HALL := Lib.hid (fun W hW => all16_calls W p2 m2 L2 hW (by omega) HS2.out.keys)
                rw [HS2.out.all] at HALL
                unfold RefsMade at HALL
                have HSM := Lib.hid (fun (W : World) (A : Option Addr) (c : Nat) (hf : Flat W A (refCells R2)) (hf2 : Flat W A8 (refCells R2)) => same_calls W A A8 R2.length c R2.length k8 R2 R2 rfl rfl (by omega) (by omega) hf hf2)
                rw [decide_eq_true (rfl : R2 = R2)] at HSM
                have HLN := Lib.hid (fun W hW => len16_calls p2 m2 W L2 hW)
                rw [hlenL] at HLN
                obtain ⟨nR, hnR⟩ : ∃ nR, nR = R2.length := ⟨_, rfl⟩
                rw [← hnR] at HALL HSM HLN xc
                clear hnR hblk8 hk8 hrow8 hrr hlenR hlenL
                go_region_held3 (fun w' => Below w6.heap.size w6 w' ∧ w'.cell? ⟨x, 0, none⟩ = some (.slice A8 nR k8)) (((try dsimp only); (repeat' apply And.intro); all_goals (first | assumption | ((repeat (first | (with_reducible exact Below.refl _ _) | (with_reducible assumption) | (with_reducible refine bel_al0 ?_ _) | (with_reducible refine bel_set ?_ (by first | (simp; done) | (simp; omega)) _) | (with_reducible refine bel_dr ?_) | (with_reducible refine bel_drn ?_ _) | (with_reducible refine bel_tr ?_ (by assumption)))); done) | go_keep))) (first | (go_at_call 38; refine (HALL.out _ (HT6.out.below (by (repeat (first | (with_reducible exact Below.refl _ _) | (with_reducible assumption) | (with_reducible refine bel_al0 ?_ _) | (with_reducible refine bel_set ?_ (by first | (simp; done) | (simp; omega)) _) | (with_reducible refine bel_dr ?_) | (with_reducible refine bel_drn ?_ _) | (with_reducible refine bel_tr ?_ (by assumption))))))).mono ?_; rintro e w7 ⟨v7, rfl, ho7, hb7⟩; have hb67 : Below w6.heap.size w6 w7 := bel_tr (by (repeat (first | (with_reducible exact Below.refl _ _) | (with_reducible assumption) | (with_reducible refine bel_al0 ?_ _) | (with_reducible refine bel_set ?_ (by first | (simp; done) | (simp; omega)) _) | (with_reducible refine bel_dr ?_) | (with_reducible refine bel_drn ?_ _) | (with_reducible refine bel_tr ?_ (by assumption))))) hb7; obtain ⟨A7, k7, rfl, _⟩ := own_form ho7; have HO7 := Lib.hid (own_flat ho7); clear ho7; have xc7 := cell_bel xc hb67) | (go_at_call 37; refine (HSM.out _ A7 k7 (HO7.out) (HR6.out.below hb67)).mono ?_; rintro e w8 ⟨rfl, hb8⟩; have hb68 : Below w6.heap.size w6 w8 := bel_tr hb67 hb8; have xc8 := cell_bel xc hb68) | (go_at_call 39; refine (HLN.out _ (HT6.out.below (by first | exact hb68 | ((repeat (first | (with_reducible exact Below.refl _ _) | (with_reducible assumption) | (with_reducible refine bel_al0 ?_ _) | (with_reducible refine bel_set ?_ (by first | (simp; done) | (simp; omega)) _) | (with_reducible refine bel_dr ?_) | (with_reducible refine bel_drn ?_ _) | (with_reducible refine bel_tr ?_ (by assumption)))))))).mono ?_; rintro e w9 ⟨rfl, rfl⟩))
                all_goals (
                  go_wp2
                  go_roundw
                  case rel => exact ⟨k + 1, p2, m2, L2, R2, by omega, by go_num, rfl, ⟨HT6.out.below (by first | assumption | ((repeat (first | (with_reducible exact Below.refl _ _) | (with_reducible assumption) | (with_reducible refine bel_al0 ?_ _) | (with_reducible refine bel_set ?_ (by first | (simp; done) | (simp; omega)) _) | (with_reducible refine bel_dr ?_) | (with_reducible refine bel_drn ?_ _) | (with_reducible refine bel_tr ?_ (by assumption)))))), HX6.out.below (by first | assumption | ((repeat (first | (with_reducible exact Below.refl _ _) | (with_reducible assumption) | (with_reducible refine bel_al0 ?_ _) | (with_reducible refine bel_set ?_ (by first | (simp; done) | (simp; omega)) _) | (with_reducible refine bel_dr ?_) | (with_reducible refine bel_drn ?_ _) | (with_reducible refine bel_tr ?_ (by assumption)))))), HS2.out⟩, hpw2, hmw2, bel_tr HB6.out (by first | assumption | ((repeat (first | (with_reducible exact Below.refl _ _) | (with_reducible assumption) | (with_reducible refine bel_al0 ?_ _) | (with_reducible refine bel_set ?_ (by first | (simp; done) | (simp; omega)) _) | (with_reducible refine bel_dr ?_) | (with_reducible refine bel_drn ?_ _) | (with_reducible refine bel_tr ?_ (by assumption))))))⟩
                  case measure => simp [intOf]; omega)
              have f0 : (dk == 0) = false := by simpa using k0
              have f1 : (dk == 1) = false := by simpa using k1
              have f2 : (dk == 2) = false := by simpa using k2
              clear k0 k1 k2
              have hllen : L.length ≤ 1000000 := by have := HSy.out.len; have := HSy.out.le; omega
              have HCP := Lib.hid (copy_calls _ p m L HTa.out hllen HSy.out.keys)
              unfold CopyPost at HCP
              have hal := World.size_alloc wr (.cells #[.int .i64 dk, .string dm, .bool dt, .int .u64 di, .int .u64 dold] 34)
              go_upto_region 20 with (go_at_call 36; refine HCP.out.mono ?_; rintro e w6 ⟨p2, m2, rfl, ht6, hm6, hp6, hb6⟩)
              have HT6 := Lib.hid ht6
              have HX6 := Lib.hid (HXa.out.below hb6)
              have HB6 := Lib.hid (bel_tr HBa.out hb6)
              have HS2 := Lib.hid HSy.out.copy
              have hpw2 : w.heap.size ≤ p2 := by omega
              have hmw2 : w.heap.size ≤ m2 := by omega
              obtain ⟨L2, hL2⟩ : ∃ L2, L2 = copyL L := ⟨_, rfl⟩
              rw [← hL2] at HT6 HS2
              obtain ⟨R2, hR2⟩ : ∃ R2 : List RefD, R2 = R := ⟨_, rfl⟩
              subst hR2
              clear HCP HTa HXa HBa HBd HSy hL2 ht6 hb6 hm6 hp6 hbx hb0 hal hllen e0 e1 e2 e3 e4 hz hpw hmw
              skip
              obtain ⟨A8, k8, hblk8, hk8, _, hrow8⟩ := HX6.out.ex
              have xc := hblk8.one.1
              have hrr : RRow w.heap.size w6 A8 R2 := hrow8
              have HR6 := Lib.hid hrr.flat
              have hlenR := HS2.out.le
              have hlenL := HS2.out.len
              have HALL := Lib.hid (fun W hW => all16_calls W p2 m2 L2 hW (by omega) HS2.out.keys)
              rw [HS2.out.all] at HALL
              unfold RefsMade at HALL
              have HSM := Lib.hid (fun (W : World) (A : Option Addr) (c : Nat) (hf : Flat W A (refCells R2)) (hf2 : Flat W A8 (refCells R2)) => same_calls W A A8 R2.length c R2.length k8 R2 R2 rfl rfl (by omega) (by omega) hf hf2)
              rw [decide_eq_true (rfl : R2 = R2)] at HSM
              have HLN := Lib.hid (fun W hW => len16_calls p2 m2 W L2 hW)
              rw [hlenL] at HLN
              obtain ⟨nR, hnR⟩ : ∃ nR, nR = R2.length := ⟨_, rfl⟩
              rw [← hnR] at HALL HSM HLN xc
              clear hnR hblk8 hk8 hrow8 hrr hlenR hlenL
              go_region_held3 (fun w' => Below w6.heap.size w6 w' ∧ w'.cell? ⟨x, 0, none⟩ = some (.slice A8 nR k8)) (((try dsimp only); (repeat' apply And.intro); all_goals (first | assumption | ((repeat (first | (with_reducible exact Below.refl _ _) | (with_reducible assumption) | (with_reducible refine bel_al0 ?_ _) | (with_reducible refine bel_set ?_ (by first | (simp; done) | (simp; omega)) _) | (with_reducible refine bel_dr ?_) | (with_reducible refine bel_drn ?_ _) | (with_reducible refine bel_tr ?_ (by assumption)))); done) | go_keep))) (first | (go_at_call 38; refine (HALL.out _ (HT6.out.below (by (repeat (first | (with_reducible exact Below.refl _ _) | (with_reducible assumption) | (with_reducible refine bel_al0 ?_ _) | (with_reducible refine bel_set ?_ (by first | (simp; done) | (simp; omega)) _) | (with_reducible refine bel_dr ?_) | (with_reducible refine bel_drn ?_ _) | (with_reducible refine bel_tr ?_ (by assumption))))))).mono ?_; rintro e w7 ⟨v7, rfl, ho7, hb7⟩; have hb67 : Below w6.heap.size w6 w7 := bel_tr (by (repeat (first | (with_reducible exact Below.refl _ _) | (with_reducible assumption) | (with_reducible refine bel_al0 ?_ _) | (with_reducible refine bel_set ?_ (by first | (simp; done) | (simp; omega)) _) | (with_reducible refine bel_dr ?_) | (with_reducible refine bel_drn ?_ _) | (with_reducible refine bel_tr ?_ (by assumption))))) hb7; obtain ⟨A7, k7, rfl, _⟩ := own_form ho7; have HO7 := Lib.hid (own_flat ho7); clear ho7; have xc7 := cell_bel xc hb67) | (go_at_call 37; refine (HSM.out _ A7 k7 (HO7.out) (HR6.out.below hb67)).mono ?_; rintro e w8 ⟨rfl, hb8⟩; have hb68 : Below w6.heap.size w6 w8 := bel_tr hb67 hb8; have xc8 := cell_bel xc hb68) | (go_at_call 39; refine (HLN.out _ (HT6.out.below (by first | exact hb68 | ((repeat (first | (with_reducible exact Below.refl _ _) | (with_reducible assumption) | (with_reducible refine bel_al0 ?_ _) | (with_reducible refine bel_set ?_ (by first | (simp; done) | (simp; omega)) _) | (with_reducible refine bel_dr ?_) | (with_reducible refine bel_drn ?_ _) | (with_reducible refine bel_tr ?_ (by assumption)))))))).mono ?_; rintro e w9 ⟨rfl, rfl⟩))
              all_goals (
                go_wp2
                go_roundw
                case rel => exact ⟨k + 1, p2, m2, L2, R2, by omega, by go_num, rfl, ⟨HT6.out.below (by first | assumption | ((repeat (first | (with_reducible exact Below.refl _ _) | (with_reducible assumption) | (with_reducible refine bel_al0 ?_ _) | (with_reducible refine bel_set ?_ (by first | (simp; done) | (simp; omega)) _) | (with_reducible refine bel_dr ?_) | (with_reducible refine bel_drn ?_ _) | (with_reducible refine bel_tr ?_ (by assumption)))))), HX6.out.below (by first | assumption | ((repeat (first | (with_reducible exact Below.refl _ _) | (with_reducible assumption) | (with_reducible refine bel_al0 ?_ _) | (with_reducible refine bel_set ?_ (by first | (simp; done) | (simp; omega)) _) | (with_reducible refine bel_dr ?_) | (with_reducible refine bel_drn ?_ _) | (with_reducible refine bel_tr ?_ (by assumption)))))), HS2.out⟩, hpw2, hmw2, bel_tr HB6.out (by first | assumption | ((repeat (first | (with_reducible exact Below.refl _ _) | (with_reducible assumption) | (with_reducible refine bel_al0 ?_ _) | (with_reducible refine bel_set ?_ (by first | (simp; done) | (simp; omega)) _) | (with_reducible refine bel_dr ?_) | (with_reducible refine bel_drn ?_ _) | (with_reducible refine bel_tr ?_ (by assumption))))))⟩
                case measure => simp [intOf]; omega)
          · have hk' : k = dn := by omega
            have hget := hSy.get nm
            have hmem := hSy.mem nm
            have hll := hSy.le
            have hxl : x < wr.heap.size := by obtain ⟨A9, k9, h9, _⟩ := hX.ex; exact h9.lt
            have HG := Lib.hid (get_calls p m wr L hT nm)
            have HRG := Lib.hid (fun W hW => tget_calls w.heap.size W x R hW (by omega) nm)
            rw [← hget, ← hmem] at HRG
            have HN1 := Lib.hid (fun W => name_calls nm W)
            have HN2 := Lib.hid (fun W => rname_calls nm (by omega) W)
            obtain ⟨rr, hrr⟩ : ∃ rr, rr = rGet L nm := ⟨_, rfl⟩
            obtain ⟨bb, hbb⟩ : ∃ bb, bb = (mget L nm).isSome := ⟨_, rfl⟩
            obtain ⟨nb, hnb⟩ : ∃ nb, nb = nameB nm := ⟨_, rfl⟩
            rw [← hrr] at HG HRG
            rw [← hbb] at HG HRG
            rw [← hnb] at HN1 HN2
            obtain ⟨rn, rt, ri⟩ := rr
            have HX := Lib.hid hX
            clear hget hmem hrr hbb hnb hX hT hSy hll hxl
            go_wp2_with (first
              | (go_at_call 22; refine HG.out.mono ?_; rintro e w5 ⟨rfl, hb5⟩; have hx5 := HX.out.below hb5; have hB5 := bel_tr hB hb5; have Y0 := Lib.hid (blk_new w5 #[.string rn, .bool rt, .int .u64 ri] 26); have hBw5 := bel_al0 hB5 (.cells #[.string rn, .bool rt, .int .u64 ri] 26))
              | (go_at_call 40; refine (HRG.out _ (hx5.below (bel_al0 (Below.refl _ _) _))).mono ?_; rintro e w6 ⟨rfl, hb6⟩; obtain ⟨a0, a1, a2, _⟩ := (Y0.out.below hb6).three; have hl0 := cell_lt a0; have hB6 := bel_tr hBw5 hb6)
              | (go_at_call 41; refine (HN1.out _).mono ?_; rintro e w7 ⟨rfl, hb7⟩)
              | (go_at_call 42; refine (HN2.out _).mono ?_; rintro e w8 ⟨rfl, rfl⟩))
            go_ret
            exact ⟨rfl, bel_tr (bel_al0 hB6 _) hb7⟩
theorem refsDo_all (w : World) (A : Option Addr) (n c : Nat) (l : List RefD) (h : RefRow w A n l) (D : Option Addr) (dn dc : Nat) (ds : List DeedD) (hd : DeedRow w D dn ds) (nm : ByteArray) (_ : nm.size ≤ 140737488351232) :
    Calls Try.prog 5 #[.slice A n c, .slice D dn dc, .string nm] w fun e w' => e = .returned (.bool true) ∧ Below w.heap.size w w' := refsDo_calls w A n c l h D dn dc ds hd nm
end Go.Proofs.Ytehneliphhgegaa
