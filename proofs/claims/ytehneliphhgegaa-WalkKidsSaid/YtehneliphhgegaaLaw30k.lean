/- The law WalkKids: walked. -/
import Derived.Test.YtehneliphhgegaaPlainKids
set_option linter.unusedVariables false
set_option linter.unusedSimpArgs false
set_option maxRecDepth 100000
namespace Go.Proofs.Ytehneliphhgegaa
open Go.RowKit Go.Apo

def hd (R : List CommitD) (j : Nat) : List Int := ((R.take j).filter fun c => (rkids R c.id).isEmpty).map CommitD.id
def rt (R : List CommitD) (j : Nat) : List Int := ((R.take j).filter fun c => c.par.isEmpty).map CommitD.id
theorem hd_succ {R : List CommitD} {j : Nat} {c : CommitD} (h : R[j]? = some c) : hd R (j + 1) = if (rkids R c.id).isEmpty then hd R j ++ [c.id] else hd R j := by
  unfold hd
  rw [List.take_add_one, h, Option.toList_some, List.filter_append]
  cases hq : (rkids R c.id).isEmpty <;> simp [hq]
theorem rt_succ {R : List CommitD} {j : Nat} {c : CommitD} (h : R[j]? = some c) : rt R (j + 1) = if c.par.isEmpty then rt R j ++ [c.id] else rt R j := by
  unfold rt
  rw [List.take_add_one, h, Option.toList_some, List.filter_append]
  cases hq : c.par.isEmpty <;> simp [hq]
theorem hd_len (R : List CommitD) (j : Nat) : (hd R j).length ≤ R.length := by
  unfold hd
  rw [List.length_map]
  refine Nat.le_trans (List.length_filter_le _ _) ?_
  rw [List.length_take]; omega
theorem rt_len (R : List CommitD) (j : Nat) : (rt R j).length ≤ R.length := by
  unfold rt
  rw [List.length_map]
  refine Nat.le_trans (List.length_filter_le _ _) ?_
  rw [List.length_take]; omega
/-- what holds between two rounds -/
def KInv (w3 wr : World) (R : List CommitD) (n j : Nat) (h r : Value) : Prop :=
  ∃ nh nr : Nat, nh = (hd R j).length ∧ nr = (rt R j).length ∧ wr.ownsRow w3.heap.size 24 1 h nh (nums (hd R j)) ∧ wr.ownsRow w3.heap.size 24 1 r nr (nums (rt R j)) ∧ DJ h r
theorem len_zero {α : Type} (l : List α) : ((l.length : Int) == 0) = l.isEmpty := by cases l <;> simp; omega
theorem DJ.symm {a b : Value} (h : DJ a b) : DJ b a := fun k hk hb => h k hb hk
theorem own_ne_at {w : World} {base e size n r : Nat} {v : Value} {xs : List Value} (h : w.ownsRow base e size v n xs) (hr : w.heap.size ≤ r) : some r ≠ v.ownBlock := fun e => by
  have := (h.lt r e.symm).2; omega
theorem app_step {w5 w6 : World} {base nh nr : Nat} {h r h' : Value} {xs ys : List Value} {tmp : Obj} (hoh : w5.ownsRow base 24 1 h nh xs) (hor : w5.ownsRow base 24 1 r nr ys) (hdj : DJ h r) (hb : base ≤ w5.heap.size)
    (hg : (w5.alloc tmp).grownBy w6 h.ownBlock) (hat : h'.ownBlock = h.ownBlock ∨ h'.ownBlock = some (w5.alloc tmp).heap.size) :
    w6.ownsRow base 24 1 r nr ys ∧ DJ h' r ∧ Below base w5 w6 ∧ w5.heap.size < w6.heap.size :=
  ⟨(own_below hor (bel_al0 (Below.refl _ _) _)).kept hg hdj.left, hdj.grow_l hat (fun k hk => by have := (hor.lt k hk).2; simp; omega), ((Below.refl base w5).alloc hb _).grown hg (by simp; omega) (own_row_ge hoh), by have := hg.size; simp at this; omega⟩
theorem blk_app {w5 w6 : World} {b : Nat} {cs : Array Value} {t : TypeId} {row : Option Nat} {tmp : Obj} (h : Blk w5 b cs t) (hne : some b ≠ row) (hg : (w5.alloc tmp).grownBy w6 row) : Blk w6 b cs t :=
  (hg.block b (by have := h.lt; simp; omega) hne).trans (h.al tmp)
set_option maxHeartbeats 8000000 in
theorem walkKids_calls (w : World) (A : Option Addr) (n k : Nat) (l : List CommitD) (h : CIn w A n l) (id : Int) :
    Calls Try.prog 10 #[.slice A n k, .int .u64 id] w fun e w' => e = .returned (.bool true) ∧ Below w.heap.size w w' := by
  have HF := Lib.hid (fun W (hW : Below w.heap.size w W) => few15_calls W A n k l (h.below hW))
  by_cases hfew : few l = true
  · rw [hfew] at HF
    have HM := Lib.hid (fun W (hW : Below w.heap.size w W) => made_calls W A n k l (h.below hW) hfew)
    have hg2 := graph2 hfew
    have HNM := Lib.hid h.nums
    have hRp : ∀ c ∈ madeR l, c.par.length ≤ 2 := fun c hc => by
      have h1 := rFind_self hg2.sync.sorted c hc
      rw [hg2.sync.same] at h1
      exact (hg2.sync.two c.id c h1).1
    have HRKs := Lib.hid (fun W x (hW : RGraphAt W x (madeR l)) => rkids_calls W x (madeR l) hW (by have := hg2.rlen; omega) hRp)
    have HK := Lib.hid (fun W p m (hW : GraphAt W p m (madeL l)) => kids_calls W p m _ hW hg2.lok (by have := hg2.len; omega) HNM.out id)
    have HHE := Lib.hid (fun W p m (hW : GraphAt W p m (madeL l)) => heads_calls W p m _ hW hg2.lok (by have := hg2.len; omega) HNM.out)
    have HRO := Lib.hid (fun W p m (hW : GraphAt W p m (madeL l)) => roots_calls W p m _ hW hg2.lok (by have := hg2.len; omega) HNM.out)
    rw [hg2.sync.kids] at HK
    rw [hg2.sync.heads] at HHE
    rw [hg2.sync.roots] at HRO
    have hrl := hg2.rlen
    have HP := Lib.hid hRp
    unfold MadePost at HM
    obtain ⟨R, hR⟩ : ∃ R, R = madeR l := ⟨_, rfl⟩
    obtain ⟨L, hL⟩ : ∃ L, L = madeL l := ⟨_, rfl⟩
    rw [← hR] at HRKs HK HHE HRO hrl HP HM
    rw [← hL] at HK HHE HRO HM
    clear hR hL hg2 hfew h HNM hRp
    unfold NumsOwn at HRKs HK HHE HRO
    obtain ⟨N, hN⟩ : ∃ N, N = R.length := ⟨_, rfl⟩
    have HN := Lib.hid hN; clear hN
    go_enter Try.func10, Try.ntmps10
    go_wp2_with (first | (go_at_call 24; refine (awake30_calls _).mono ?_; rintro e w1 ⟨rfl, hb1⟩) | (go_at_call 25; refine (HF.out _ hb1).mono ?_; rintro e w2 ⟨rfl, hb2⟩) | (go_at_call 26; refine (HM.out _ (bel_tr hb1 hb2)).mono ?_; rintro e w3 ⟨p, m, x, rfl, hg3, hr3, hb3, _, _, _⟩; have HG := Lib.hid hg3; clear hg3; have HRG := Lib.hid hr3; obtain ⟨A3, k3, hblk3, hrow3, _⟩ := hr3; rw [← HN.out] at hblk3; have q3 := hblk3.one.1; clear hblk3; have HROW := Lib.hid hrow3; clear hrow3; have hq3 := cell_lt q3))
    have hbw3 : Below w.heap.size w w3 := bel_tr (bel_tr hb1 hb2) hb3
    clear hb1 hb2 hb3 HF HM
    have hN25 : N ≤ 25 := by have := HN.out; omega
    go_loopw [28, 8, 9] (fun v h r wr => ∃ j : Nat, j ≤ N ∧ v = .int .i64 j ∧ Hid (KInv w3 wr R N j h r) ∧ Below w3.heap.size w3 wr) (fun v _ _ _ => N - (intOf v).toNat)
    case atStart => exact ⟨0, Nat.zero_le _, rfl, ⟨0, 0, rfl, rfl, World.ownsRow_nil _ _ _ _, World.ownsRow_nil _ _ _ _, fun k hk => by simp [Value.ownBlock] at hk⟩, by (repeat (first | (with_reducible exact Below.refl _ _) | (with_reducible assumption) | (with_reducible refine bel_al0 ?_ _) | (with_reducible refine bel_set ?_ (by first | (simp; done) | (simp; omega)) _) | (with_reducible refine bel_dr ?_) | (with_reducible refine bel_drn ?_ _) | (with_reducible refine bel_tr ?_ (by assumption))))⟩
    case round =>
      obtain ⟨j, hj, rfl, hI, hB⟩ := hrel
      by_cases hlt : j < N
      · obtain ⟨c, hcj⟩ : ∃ c, R[j]? = some c := ⟨_, List.getElem?_eq_getElem (by rw [← HN.out]; exact hlt)⟩
        obtain ⟨b, off, A', k', rfl, c0, c1, c2, c3, c4, hFp, _⟩ := HROW.out.at_ hcj
        replace c0 := cell_bel c0 hB
        replace c1 := cell_bel c1 hB
        replace c2 := cell_bel c2 hB
        replace c3 := cell_bel c3 hB
        replace c4 := cell_bel c4 hB
        clear hFp
        have hHD := hd_succ hcj
        have hRT := rt_succ hcj
        have HHD := Lib.hid hHD; clear hHD
        have HRT := Lib.hid hRT; clear hRT
        obtain ⟨nh, nr, e1, e2, hoh, hor, hdj⟩ := hI.out
        have l1 := hd_len R j
        have l2 := rt_len R j
        rw [← e1] at l1
        rw [← e2] at l2
        have hHE0 := Lib.hid (len_zero (rkids R c.id))
        have hPE0 := len_zero c.par
        obtain ⟨ke, hke⟩ : ∃ ke, ke = (rkids R c.id).isEmpty := ⟨_, rfl⟩
        rw [← hke] at HHD hHE0
        obtain ⟨pe, hpe⟩ : ∃ pe, pe = c.par.isEmpty := ⟨_, rfl⟩
        rw [← hpe] at HRT hPE0
        have HRK := Lib.hid (fun W (hW : Below wr.heap.size wr W) => HRKs.out W x (HRG.out.below (bel_tr hB hW)))
        obtain ⟨np, hnp⟩ : ∃ np, np = c.par.length := ⟨_, rfl⟩
        rw [← hnp] at hPE0 c1
        have HKC := Lib.hid (fun W hW => HRK.out W hW c.id)
        obtain ⟨nk, hnk⟩ : ∃ nk, nk = (rkids R c.id).length := ⟨_, rfl⟩
        rw [← hnk] at hHE0 HKC
        clear hnp hnk hke hpe hcj
        obtain ⟨lh, hlh⟩ : ∃ lh, lh = hd R j := ⟨_, rfl⟩
        obtain ⟨lr, hlr⟩ : ∃ lr, lr = rt R j := ⟨_, rfl⟩
        rw [← hlh] at hoh HHD e1
        rw [← hlr] at hor HRT e2
        have E1 := Lib.hid e1
        have E2 := Lib.hid e2
        clear e1 e2 hlh hlr hI
        have HOH := Lib.hid hoh; clear hoh
        have HOR := Lib.hid hor; clear hor
        have HDJ := Lib.hid hdj; clear hdj
        have hk0 := hHE0.out
        have hsz := hB.size
        have hzr : w3.heap.size ≤ wr.heap.size := hsz
        cases ke with
        | false =>
          cases pe with
          | false =>
            go_wp2_with (first | (go_at_call 51; refine (HKC.out _ (by (repeat (first | (with_reducible exact Below.refl _ _) | (with_reducible assumption) | (with_reducible refine bel_al0 ?_ _) | (with_reducible refine bel_set ?_ (by first | (simp; done) | (simp; omega)) _) | (with_reducible refine bel_dr ?_) | (with_reducible refine bel_drn ?_ _) | (with_reducible refine bel_tr ?_ (by assumption)))))).mono ?_; rintro e w5 ⟨v5, rfl, ho5, hb5⟩; obtain ⟨A5, k5, rfl, _⟩ := own_form ho5; clear ho5; have hbk := (blk_new wr #[.int .u64 c.id, .slice A' np k', .int .u64 c.gen, .int .u64 c.root, .string c.text] 69).below hb5; obtain ⟨x0, x1, x2, x3, x4, xf⟩ := hbk.five; have hz5 : wr.heap.size < w5.heap.size := (by have := hb5.size; simp at this; omega); have hz5' : w3.heap.size ≤ w5.heap.size := (by omega); have hb05 : Below wr.heap.size wr w5 := bel_tr (bel_al0 (Below.refl _ _) _) hb5; have hoh5 := Lib.hid (own_below HOH.out hb05); have hor5 := Lib.hid (own_below HOR.out hb05); have hbw5 : Below w3.heap.size w3 w5 := bel_tr hB hb05))
            go_roundw
            case rel =>
              refine ⟨j + 1, by omega, by go_num, ⟨nh, nr, ?_, ?_, ?_, ?_, HDJ.out⟩, hbw5⟩
              · rw [HHD.out, E1.out]; simp
              · rw [HRT.out, E2.out]; simp
              · rw [HHD.out]; simp only [Bool.false_eq_true, if_false]; exact hoh5.out
              · rw [HRT.out]; simp only [Bool.false_eq_true, if_false]; exact hor5.out
            case measure => simp [intOf]; omega
          | true =>
            go_wp2_with (first | (go_at_call 51; refine (HKC.out _ (by (repeat (first | (with_reducible exact Below.refl _ _) | (with_reducible assumption) | (with_reducible refine bel_al0 ?_ _) | (with_reducible refine bel_set ?_ (by first | (simp; done) | (simp; omega)) _) | (with_reducible refine bel_dr ?_) | (with_reducible refine bel_drn ?_ _) | (with_reducible refine bel_tr ?_ (by assumption)))))).mono ?_; rintro e w5 ⟨v5, rfl, ho5, hb5⟩; obtain ⟨A5, k5, rfl, _⟩ := own_form ho5; clear ho5; have hbk := (blk_new wr #[.int .u64 c.id, .slice A' np k', .int .u64 c.gen, .int .u64 c.root, .string c.text] 69).below hb5; obtain ⟨x0, x1, x2, x3, x4, xf⟩ := hbk.five; have hz5 : wr.heap.size < w5.heap.size := (by have := hb5.size; simp at this; omega); have hz5' : w3.heap.size ≤ w5.heap.size := (by omega); have hb05 : Below wr.heap.size wr w5 := bel_tr (bel_al0 (Below.refl _ _) _) hb5; have hoh5 := Lib.hid (own_below HOH.out hb05); have hor5 := Lib.hid (own_below HOR.out hb05); have hbw5 : Below w3.heap.size w3 w5 := bel_tr hB hb05) | (at_builtin; refine wpl_append rfl _ _ 50 rfl w3.heap.size 24 _ 1 8 Try.underlying50 infoU64 rfl (by decide) _ nr (nums lr) rfl (own_below hor5.out (bel_al0 (Below.refl _ _) _)) (some ⟨w5.heap.size, 0, none⟩) 1 1 (nums [c.id]) rfl rfl (flat_one w5 c.id) (nums_one _) (by unfold maxLen; omega) (by omega) (by simp; omega) ?_; intro v7 w7 ho7 hg7 hat7; obtain ⟨s1, s2, s3, s4⟩ := app_step (hor5.out) (hoh5.out) (HDJ.out).symm hz5' hg7 hat7; have hoh7 := Lib.hid s1; have hdj7 := Lib.hid s2.symm; have hbw7 : Below w3.heap.size w3 w7 := (hbw5).trans s3; clear s1 s2 s3; have hor7 := Lib.hid ho7; clear ho7))
            go_roundw
            case rel =>
              refine ⟨j + 1, by omega, by go_num, ⟨nh, nr + 1, ?_, ?_, ?_, ?_, hdj7.out⟩, hbw7⟩
              · rw [HHD.out, E1.out]; simp
              · rw [HRT.out, E2.out]; simp
              · rw [HHD.out]; simp only [Bool.false_eq_true, if_false]; exact hoh7.out
              · rw [HRT.out]; simp only [if_true]; rw [nums_app]; exact hor7.out
            case measure => simp [intOf]; omega
        | true =>
          cases pe with
          | false =>
            go_wp2_with (first | (go_at_call 51; refine (HKC.out _ (by (repeat (first | (with_reducible exact Below.refl _ _) | (with_reducible assumption) | (with_reducible refine bel_al0 ?_ _) | (with_reducible refine bel_set ?_ (by first | (simp; done) | (simp; omega)) _) | (with_reducible refine bel_dr ?_) | (with_reducible refine bel_drn ?_ _) | (with_reducible refine bel_tr ?_ (by assumption)))))).mono ?_; rintro e w5 ⟨v5, rfl, ho5, hb5⟩; obtain ⟨A5, k5, rfl, _⟩ := own_form ho5; clear ho5; have hbk := (blk_new wr #[.int .u64 c.id, .slice A' np k', .int .u64 c.gen, .int .u64 c.root, .string c.text] 69).below hb5; obtain ⟨x0, x1, x2, x3, x4, xf⟩ := hbk.five; have hz5 : wr.heap.size < w5.heap.size := (by have := hb5.size; simp at this; omega); have hz5' : w3.heap.size ≤ w5.heap.size := (by omega); have hb05 : Below wr.heap.size wr w5 := bel_tr (bel_al0 (Below.refl _ _) _) hb5; have hoh5 := Lib.hid (own_below HOH.out hb05); have hor5 := Lib.hid (own_below HOR.out hb05); have hbw5 : Below w3.heap.size w3 w5 := bel_tr hB hb05) | (at_builtin; refine wpl_append rfl _ _ 50 rfl w3.heap.size 24 _ 1 8 Try.underlying50 infoU64 rfl (by decide) _ nh (nums lh) rfl (own_below hoh5.out (bel_al0 (Below.refl _ _) _)) (some ⟨w5.heap.size, 0, none⟩) 1 1 (nums [c.id]) rfl rfl (flat_one w5 c.id) (nums_one _) (by unfold maxLen; omega) (by omega) (by simp; omega) ?_; intro v6 w6 ho6 hg6 hat6; obtain ⟨s1, s2, s3, s4⟩ := app_step hoh5.out hor5.out HDJ.out hz5' hg6 hat6; have hor6 := Lib.hid s1; have hdj6 := Lib.hid s2; have hbk6 := blk_app hbk (own_ne_at HOH.out (Nat.le_refl _)) hg6; have hbw6 : Below w3.heap.size w3 w6 := hbw5.trans s3; obtain ⟨y0, y1, y2, y3, y4, yf⟩ := hbk6.five; clear x0 x1 x2 x3 x4 xf s1 s2 s3; have hz6 : wr.heap.size < w6.heap.size := (by omega); have hz6' : w3.heap.size ≤ w6.heap.size := (by omega); have hoh6 := Lib.hid ho6; clear ho6))
            go_roundw
            case rel =>
              refine ⟨j + 1, by omega, by go_num, ⟨nh + 1, nr, ?_, ?_, ?_, ?_, hdj6.out⟩, hbw6⟩
              · rw [HHD.out, E1.out]; simp
              · rw [HRT.out, E2.out]; simp
              · rw [HHD.out]; simp only [if_true]; rw [nums_app]; exact hoh6.out
              · rw [HRT.out]; simp only [Bool.false_eq_true, if_false]; exact hor6.out
            case measure => simp [intOf]; omega
          | true =>
            go_wp2_with (first | (go_at_call 51; refine (HKC.out _ (by (repeat (first | (with_reducible exact Below.refl _ _) | (with_reducible assumption) | (with_reducible refine bel_al0 ?_ _) | (with_reducible refine bel_set ?_ (by first | (simp; done) | (simp; omega)) _) | (with_reducible refine bel_dr ?_) | (with_reducible refine bel_drn ?_ _) | (with_reducible refine bel_tr ?_ (by assumption)))))).mono ?_; rintro e w5 ⟨v5, rfl, ho5, hb5⟩; obtain ⟨A5, k5, rfl, _⟩ := own_form ho5; clear ho5; have hbk := (blk_new wr #[.int .u64 c.id, .slice A' np k', .int .u64 c.gen, .int .u64 c.root, .string c.text] 69).below hb5; obtain ⟨x0, x1, x2, x3, x4, xf⟩ := hbk.five; have hz5 : wr.heap.size < w5.heap.size := (by have := hb5.size; simp at this; omega); have hz5' : w3.heap.size ≤ w5.heap.size := (by omega); have hb05 : Below wr.heap.size wr w5 := bel_tr (bel_al0 (Below.refl _ _) _) hb5; have hoh5 := Lib.hid (own_below HOH.out hb05); have hor5 := Lib.hid (own_below HOR.out hb05); have hbw5 : Below w3.heap.size w3 w5 := bel_tr hB hb05) | (at_builtin; refine wpl_append rfl _ _ 50 rfl w3.heap.size 24 _ 1 8 Try.underlying50 infoU64 rfl (by decide) _ nh (nums lh) rfl (own_below hoh5.out (bel_al0 (Below.refl _ _) _)) (some ⟨w5.heap.size, 0, none⟩) 1 1 (nums [c.id]) rfl rfl (flat_one w5 c.id) (nums_one _) (by unfold maxLen; omega) (by omega) (by simp; omega) ?_; intro v6 w6 ho6 hg6 hat6; obtain ⟨s1, s2, s3, s4⟩ := app_step hoh5.out hor5.out HDJ.out hz5' hg6 hat6; have hor6 := Lib.hid s1; have hdj6 := Lib.hid s2; have hbk6 := blk_app hbk (own_ne_at HOH.out (Nat.le_refl _)) hg6; have hbw6 : Below w3.heap.size w3 w6 := hbw5.trans s3; obtain ⟨y0, y1, y2, y3, y4, yf⟩ := hbk6.five; clear x0 x1 x2 x3 x4 xf s1 s2 s3; have hz6 : wr.heap.size < w6.heap.size := (by omega); have hz6' : w3.heap.size ≤ w6.heap.size := (by omega); have hoh6 := Lib.hid ho6; clear ho6) | (at_builtin; refine wpl_append rfl _ _ 50 rfl w3.heap.size 24 _ 1 8 Try.underlying50 infoU64 rfl (by decide) _ nr (nums lr) rfl (own_below hor6.out (bel_al0 (Below.refl _ _) _)) (some ⟨w6.heap.size, 0, none⟩) 1 1 (nums [c.id]) rfl rfl (flat_one w6 c.id) (nums_one _) (by unfold maxLen; omega) (by omega) (by simp; omega) ?_; intro v7 w7 ho7 hg7 hat7; obtain ⟨s1, s2, s3, s4⟩ := app_step (hor6.out) (hoh6.out) (hdj6.out).symm hz6' hg7 hat7; have hoh7 := Lib.hid s1; have hdj7 := Lib.hid s2.symm; have hbw7 : Below w3.heap.size w3 w7 := (hbw6).trans s3; clear s1 s2 s3; have hor7 := Lib.hid ho7; clear ho7))
            go_roundw
            case rel =>
              refine ⟨j + 1, by omega, by go_num, ⟨nh + 1, nr + 1, ?_, ?_, ?_, ?_, hdj7.out⟩, hbw7⟩
              · rw [HHD.out, E1.out]; simp
              · rw [HRT.out, E2.out]; simp
              · rw [HHD.out]; simp only [if_true]; rw [nums_app]; exact hoh7.out
              · rw [HRT.out]; simp only [if_true]; rw [nums_app]; exact hor7.out
            case measure => simp [intOf]; omega
      · have hj' : j = N := by omega
        obtain ⟨nh, nr, e1, e2, hoh, hor, hdj⟩ := hI.out
        have htk : R.take j = R := by rw [List.take_of_length_le]; have := HN.out; omega
        have eh : hd R j = rheads R := by unfold hd rheads; rw [htk]
        have er : rt R j = rroots R := by unfold rt rroots; rw [htk]
        have l1 := hd_len R j
        have l2 := rt_len R j
        have l3 := rkids_len R id
        rw [eh] at e1 hoh l1
        rw [er] at e2 hor l2
        clear htk eh er
        have HGr := Lib.hid (fun W (hW : Below wr.heap.size wr W) => HG.out.below (bel_tr hB hW))
        have HRK := Lib.hid (fun W (hW : Below wr.heap.size wr W) => HRKs.out W x (HRG.out.below (bel_tr hB hW)) id)
        obtain ⟨KS, hKS⟩ : ∃ KS, KS = rkids R id := ⟨_, rfl⟩
        rw [← hKS] at HK HRK l3
        obtain ⟨HS, hHS⟩ : ∃ HS, HS = rheads R := ⟨_, rfl⟩
        rw [← hHS] at HHE hoh e1 l1
        obtain ⟨RS, hRS⟩ : ∃ RS, RS = rroots R := ⟨_, rfl⟩
        rw [← hRS] at HRO hor e2 l2
        clear hKS hHS hRS hI hdj
        have HSN := Lib.hid (fun W A B n k k' (S : List Int) (hn : S.length = n) (hl : n ≤ 1000000) (h1 : Flat W A (nums S)) (h2 : Flat W B (nums S)) => same_calls W A B n n k k' S S hn hn h1 h2 (by omega) (by omega))
        have hcc : ∀ S : List Int, decide (S = S) = true := by simp
        simp only [hcc] at HSN
        clear hcc
        have HSN2 := HSN
        have HSN3 := HSN
        obtain ⟨nk, hnk⟩ : ∃ nk, nk = KS.length := ⟨_, rfl⟩
        rw [← hnk] at HK HRK l3
        rw [← e1] at HHE l1
        rw [← e2] at HRO l2
        obtain ⟨Ah, kh, rfl, _⟩ := own_form hoh
        obtain ⟨Ar, kr, rfl, _⟩ := own_form hor
        have HFH := Lib.hid (own_flat hoh); clear hoh
        have HFR := Lib.hid (own_flat hor); clear hor
        have E1 := Lib.hid e1.symm; clear e1
        have E2 := Lib.hid e2.symm; clear e2
        have E3 := Lib.hid hnk.symm; clear hnk
        have hNl : R.length ≤ 25 := hrl
        go_wp2_with (first | (go_at_call 52; refine (HK.out _ p m (HGr.out _ (by (repeat (first | (with_reducible exact Below.refl _ _) | (with_reducible assumption) | (with_reducible refine bel_al0 ?_ _) | (with_reducible refine bel_set ?_ (by first | (simp; done) | (simp; omega)) _) | (with_reducible refine bel_dr ?_) | (with_reducible refine bel_drn ?_ _) | (with_reducible refine bel_tr ?_ (by assumption))))))).mono ?_; rintro e w5 ⟨v5, rfl, ho5, hb5⟩; obtain ⟨A5, k5, rfl, _⟩ := own_form ho5; have HF5 := Lib.hid (own_flat ho5); clear ho5) | (go_at_call 51; refine (HRK.out _ (by (repeat (first | (with_reducible exact Below.refl _ _) | (with_reducible assumption) | (with_reducible refine bel_al0 ?_ _) | (with_reducible refine bel_set ?_ (by first | (simp; done) | (simp; omega)) _) | (with_reducible refine bel_dr ?_) | (with_reducible refine bel_drn ?_ _) | (with_reducible refine bel_tr ?_ (by assumption)))))).mono ?_; rintro e w6 ⟨v6, rfl, ho6, hb6⟩; obtain ⟨A6, k6, rfl, _⟩ := own_form ho6; have HF6 := Lib.hid (own_flat ho6); clear ho6) | (go_at_call 29; refine (HSN.out _ A5 A6 nk k5 k6 KS E3.out (by omega) (HF5.out.below hb6) HF6.out).mono ?_; clear HSN; rintro e w7 ⟨rfl, hb7⟩) | (go_at_call 53; refine (HHE.out _ p m (HGr.out _ (by (repeat (first | (with_reducible exact Below.refl _ _) | (with_reducible assumption) | (with_reducible refine bel_al0 ?_ _) | (with_reducible refine bel_set ?_ (by first | (simp; done) | (simp; omega)) _) | (with_reducible refine bel_dr ?_) | (with_reducible refine bel_drn ?_ _) | (with_reducible refine bel_tr ?_ (by assumption))))))).mono ?_; rintro e w8 ⟨v8, rfl, ho8, hb8⟩; obtain ⟨A8, k8, rfl, _⟩ := own_form ho8; have HF8 := Lib.hid (own_flat ho8); clear ho8) | (go_at_call 29; refine (HSN2.out _ A8 Ah nh k8 kh HS E1.out (by omega) HF8.out (HFH.out.below (by (repeat (first | (with_reducible exact Below.refl _ _) | (with_reducible assumption) | (with_reducible refine bel_al0 ?_ _) | (with_reducible refine bel_set ?_ (by first | (simp; done) | (simp; omega)) _) | (with_reducible refine bel_dr ?_) | (with_reducible refine bel_drn ?_ _) | (with_reducible refine bel_tr ?_ (by assumption))))))).mono ?_; clear HSN2; rintro e w9 ⟨rfl, hb9⟩) | (go_at_call 54; refine (HRO.out _ p m (HGr.out _ (by (repeat (first | (with_reducible exact Below.refl _ _) | (with_reducible assumption) | (with_reducible refine bel_al0 ?_ _) | (with_reducible refine bel_set ?_ (by first | (simp; done) | (simp; omega)) _) | (with_reducible refine bel_dr ?_) | (with_reducible refine bel_drn ?_ _) | (with_reducible refine bel_tr ?_ (by assumption))))))).mono ?_; rintro e w10 ⟨v10, rfl, ho10, hb10⟩; obtain ⟨A10, k10, rfl, _⟩ := own_form ho10; have HF10 := Lib.hid (own_flat ho10); clear ho10) | (go_at_call 29; refine (HSN3.out _ A10 Ar nr k10 kr RS E2.out (by omega) HF10.out (HFR.out.below (by (repeat (first | (with_reducible exact Below.refl _ _) | (with_reducible assumption) | (with_reducible refine bel_al0 ?_ _) | (with_reducible refine bel_set ?_ (by first | (simp; done) | (simp; omega)) _) | (with_reducible refine bel_dr ?_) | (with_reducible refine bel_drn ?_ _) | (with_reducible refine bel_tr ?_ (by assumption))))))).mono ?_; rintro e w11 ⟨rfl, hb11⟩))
        go_ret
        exact ⟨rfl, bel_tr hbw3 (bel_tr hB (by (repeat (first | (with_reducible exact Below.refl _ _) | (with_reducible assumption) | (with_reducible refine bel_al0 ?_ _) | (with_reducible refine bel_set ?_ (by first | (simp; done) | (simp; omega)) _) | (with_reducible refine bel_dr ?_) | (with_reducible refine bel_drn ?_ _) | (with_reducible refine bel_tr ?_ (by assumption))))))⟩
  · have hfew' : few l = false := by simpa using hfew
    rw [hfew'] at HF
    clear hfew hfew' h
    go_enter Try.func10, Try.ntmps10
    go_wp2_with (first | (go_at_call 24; refine (awake30_calls _).mono ?_; rintro e w1 ⟨rfl, hb1⟩) | (go_at_call 25; refine (HF.out _ hb1).mono ?_; rintro e w2 ⟨rfl, hb2⟩))
    go_ret
    exact ⟨rfl, bel_tr hb1 hb2⟩
theorem walkKids_all (w : World) (A : Option Addr) (n k : Nat) (l : List CommitD) (h : CIn w A n l) (id : Int) (_ : (Lit.int .u64 id).wf = true) :
    Calls Try.prog 10 #[.slice A n k, .int .u64 id] w fun e w' => e = .returned (.bool true) ∧ Below w.heap.size w w' := walkKids_calls w A n k l h id
end Go.Proofs.Ytehneliphhgegaa
