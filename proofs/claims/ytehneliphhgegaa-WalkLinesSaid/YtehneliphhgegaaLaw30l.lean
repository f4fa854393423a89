/- The law WalkLines: walked. -/
import Derived.Test.YtehneliphhgegaaRefLog
import Derived.Test.YtehneliphhgegaaTopoAll
import Derived.Test.YtehneliphhgegaaRefLine
import Derived.Test.YtehneliphhgegaaLaw15a
import Derived.Test.YtehneliphhgegaaWalkPaths
set_option linter.unusedVariables false
set_option linter.unusedSimpArgs false
set_option maxRecDepth 100000
namespace Go.Proofs.Ytehneliphhgegaa
open Go.RowKit Go.Apo

theorem flat_two (w : World) (x y : Int) : Flat (w.alloc (.cells #[.int .u64 x, .int .u64 y] 24)) (some ⟨w.heap.size, 0, none⟩) (nums [x, y]) := fun _ => ⟨w.heap.size, 0, rfl, fun q u hq => by
  refine (blk_new w #[.int .u64 x, .int .u64 y] 24).cell ?_
  rw [Nat.zero_add]
  simpa [nums] using hq⟩
theorem rises_unique {L : List (Int × CommitD)} : ∀ {l l' : List CommitD}, l.Perm l' → Rises l → Rises l' → (∀ c ∈ l, c = gGet L c.id) → l = l'
  | [], l', hp, _, _, _ => hp.nil_eq
  | c :: l, [], hp, _, _, _ => by have := hp.length_eq; simp at this
  | c :: l, x :: l', hp, r1, r2, hg => by
    have q1 := r1
    have q2 := r2
    unfold Rises at q1 q2
    rw [List.pairwise_cons] at q1 q2
    have hcx : c = x := by
      have e1 : ltQ c x = false := by
        rcases List.mem_cons.1 (hp.mem_iff.1 List.mem_cons_self) with e | e
        · subst e; rw [ltQ_no]; omega
        · exact q2.1 c e
      have hx := hp.mem_iff.2 (List.mem_cons_self (a := x) (l := l'))
      have e2 : ltQ x c = false := by
        rcases List.mem_cons.1 hx with e | e
        · subst e; rw [ltQ_no]; omega
        · exact q1.1 x e
      rw [ltQ_no] at e1 e2
      have e3 : c.id = x.id := by omega
      rw [hg c List.mem_cons_self, hg x hx, e3]
    subst hcx
    rw [rises_unique (List.Perm.cons_inv hp) q1.2 q2.2 (fun a ha => hg a (List.mem_cons_of_mem _ ha))]

set_option maxHeartbeats 8000000 in
theorem walkLines_calls (w : World) (A : Option Addr) (n k : Nat) (l : List CommitD) (h : CIn w A n l) (a b : Int) :
    Calls Try.prog 15 #[.slice A n k, .int .u64 a, .int .u64 b] w fun e w' => e = .returned (.bool true) ∧ Below w.heap.size w w' := by
  have HF := Lib.hid (fun W (hW : Below w.heap.size w W) => few15_calls W A n k l (h.below hW))
  by_cases hfew : few l = true
  · rw [hfew] at HF
    have HM := Lib.hid (fun W (hW : Below w.heap.size w W) => made_calls W A n k l (h.below hW) hfew)
    have hg2 := graph2 hfew
    have hsy := hg2.sync
    have hlen := hg2.len
    have HNM := Lib.hid h.nums
    have hfl := hsy.falls HNM.out
    have hz0 : mget (madeL l) 0 = none := by
      cases hq : mget (madeL l) 0 with
      | none => rfl
      | some c => exact absurd rfl (made_nz l 0 (mem_keys.1 (by rw [hq]; rfl)))
    have hll := hsy.lineLen hfl a
    have hrlen := hg2.rlen
    have hpr : ∀ c ∈ madeR l, c.par.length ≤ 2 := fun c hc => by
      have h1 := rFind_self hsy.sorted c hc
      rw [hsy.same] at h1
      exact (hsy.two c.id c h1).1
    have hrp : ∀ i, (rPar (madeR l) i).length ≤ 2 := fun i => (hsy.rclosed i).1
    have HLI := Lib.hid (fun W p m (hW : GraphAt W p m (madeL l)) => line_calls W (some ⟨p, 0, none⟩) _ hW.gp hfl a (by omega))
    have HRL := Lib.hid (fun W x (hW : RGraphAt W x (madeR l)) => rline_calls W x _ _ hW hsy hfl hz0 (by omega) a)
    have HBT := Lib.hid (fun W p m (hW : GraphAt W p m (madeL l)) => between_calls W (some ⟨p, 0, none⟩) _ hW.gp hg2.lok (by omega) HNM.out a b)
    have HRI := Lib.hid (fun W x (hW : RGraphAt W x (madeR l)) o => ris_calls W x _ hW (by omega) hrp hpr o a)
    have HRE := Lib.hid (fun W x (hW : RGraphAt W x (madeR l)) => rreach_calls (W.alloc (.cells #[.int .u64 b] 24)) x _ (hW.below (bel_al0 (Below.refl _ _) _)) (by omega) hrp hpr (some ⟨W.heap.size, 0, none⟩) 1 1 [b] rfl (flat_one W b) (by omega))
    have HTO := Lib.hid (fun W p m (hW : GraphAt W p m (madeL l)) => topo_calls (W.alloc (.cells #[.int .u64 a, .int .u64 b] 24)) (some ⟨p, 0, none⟩) _ (hW.gp.below (bel_al0 (Below.refl _ _) _)) hg2.lok (by omega) HNM.out (some ⟨W.heap.size, 0, none⟩) 2 2 [a, b] rfl (flat_two W a b) (fun e => by cases e) (by omega))
    have HR2 := Lib.hid (fun W x (hW : RGraphAt W x (madeR l)) => rreach_calls (W.alloc (.cells #[.int .u64 a, .int .u64 b] 24)) x _ (hW.below (bel_al0 (Below.refl _ _) _)) (by omega) hrp hpr (some ⟨W.heap.size, 0, none⟩) 2 2 [a, b] rfl (flat_two W a b) (by omega))
    have HSO := Lib.hid (fun W x (hW : RGraphAt W x (madeR l)) A n k ids hn hf hn2 => rsorted_calls W x _ hW (by omega) A n k ids hn hf hn2 true)
    have hbe : (rreach (madeR l) [b]).filter (fun x => !decide (x ∈ rreach (madeR l) [a])) = betweenL (madeL l) a b := by
      unfold betweenL
      rw [hsy.reach hg2.lok, hsy.reach hg2.lok]
      refine List.filter_congr fun x _ => ?_
      simp [List.contains_eq_mem]
    have hget : ∀ i, (rFind (madeR l) i).getD CommitD.zero = gGet (madeL l) i := fun i => by rw [hsy.same]; rfl
    have hunq : ∀ cs ls : List CommitD, cs.Perm ((reachL (madeL l) [a, b]).map (gGet (madeL l))) → Rises cs → ls.Perm ((rreach (madeR l) [a, b]).map fun i => (rFind (madeR l) i).getD CommitD.zero) → ls.Pairwise (ordS true) → cs.map CommitD.id = ls.map CommitD.id ∧ cs.length ≤ 25 := fun cs ls h1 h2 h3 h4 => by
      rw [hsy.reach hg2.lok] at h3
      simp only [hget] at h3
      have h5 : Rises ls := h4.imp fun {x y} hxy => by unfold ordS at hxy; simpa using hxy
      refine ⟨congrArg _ (rises_unique (L := madeL l) (h1.trans h3.symm) h2 h5 fun c hc => ?_), ?_⟩
      · obtain ⟨x, hx, rfl⟩ := List.mem_map.1 (h1.mem_iff.1 hc)
        have hx2 : (mget (madeL l) x).isSome = true := by
          unfold reachL at hx
          rw [mem_sortI] at hx
          exact (reachS_ok hg2.lok [a, b]).sub x hx
        obtain ⟨d, hd⟩ := Option.isSome_iff_exists.1 hx2
        rw [gGet_at hd, hsy.ids x d hd, gGet_at hd]
      · have := h1.length_eq
        rw [List.length_map] at this
        have := reachL_len hg2.lok [a, b]
        omega
    have hbl := (show (rreach (madeR l) [b]).length ≤ (madeR l).length by unfold rreach; rw [List.length_reverse]; exact rmet_len _ _ 0)
    have hbl2 := (show (rreach (madeR l) [a, b]).length ≤ (madeR l).length by unfold rreach; rw [List.length_reverse]; exact rmet_len _ _ 0)
    have hbw : (betweenL (madeL l) a b).length ≤ 25 := by
      unfold betweenL
      exact Nat.le_trans (List.length_filter_le _ _) (by have := reachL_len hg2.lok [b]; omega)
    have hL25 : (lineL (madeL l) a).length ≤ 25 := by omega
    have HUNQ := Lib.hid hunq
    unfold MadePost at HM
    unfold NumsOwn at HLI HRL HBT HRE HR2
    unfold TopoPost at HTO
    unfold RSortPost at HSO
    obtain ⟨L, hL⟩ : ∃ L, L = madeL l := ⟨_, rfl⟩
    obtain ⟨R, hR⟩ : ∃ R, R = madeR l := ⟨_, rfl⟩
    rw [← hL, ← hR] at HM HUNQ hbe
    rw [← hL] at HLI HBT HTO hbw hL25
    rw [← hL] at HRL
    rw [← hR] at HRL HRI HRE HR2 HSO hbl hbl2
    obtain ⟨LI, hLI⟩ : ∃ LI, LI = lineL L a := ⟨_, rfl⟩
    rw [← hLI] at HLI HRL hL25
    obtain ⟨nl, hnl⟩ : ∃ nl, nl = LI.length := ⟨_, rfl⟩
    rw [← hnl] at HLI HRL hL25
    have HNL := Lib.hid hnl
    obtain ⟨BT, hBT⟩ : ∃ BT, BT = betweenL L a b := ⟨_, rfl⟩
    rw [← hBT] at HBT hbe hbw
    obtain ⟨nb, hnb⟩ : ∃ nb, nb = BT.length := ⟨_, rfl⟩
    rw [← hnb] at HBT hbw
    have HNB := Lib.hid hnb
    obtain ⟨X, hX⟩ : ∃ X, X = rreach R [b] := ⟨_, rfl⟩
    rw [← hX] at HRE hbe hbl
    obtain ⟨nx, hnx⟩ : ∃ nx, nx = X.length := ⟨_, rfl⟩
    rw [← hnx] at HRE hbl
    have HNX := Lib.hid hnx
    obtain ⟨Y, hY⟩ : ∃ Y, Y = rreach R [a, b] := ⟨_, rfl⟩
    rw [← hY] at HR2 hbl2 HUNQ
    obtain ⟨ny, hny⟩ : ∃ ny, ny = Y.length := ⟨_, rfl⟩
    rw [← hny] at HR2 hbl2
    have HNY := Lib.hid hny
    have HBE := Lib.hid hbe
    have HS1 := Lib.hid (fun W A B k k' (h1 : Flat W A (nums LI)) (h2 : Flat W B (nums LI)) => same_calls W A B nl nl k k' LI LI HNL.out.symm HNL.out.symm h1 h2 (by omega) (by omega))
    have HS2 := Lib.hid (fun W A B k k' (h1 : Flat W A (nums BT)) (h2 : Flat W B (nums BT)) => same_calls W A B nb nb k k' BT BT HNB.out.symm HNB.out.symm h1 h2 (by omega) (by omega))
    have ht1 : decide (LI = LI) = true := by simp
    have ht2 : decide (BT = BT) = true := by simp
    rw [ht1] at HS1
    rw [ht2] at HS2
    have hn25 : nx ≤ 25 ∧ ny ≤ 25 := by rw [hR] at hbl hbl2; omega
    clear hL hR hLI hnl hBT hnb hX hnx hY hny hg2 hsy hlen hfew h HNM hfl hz0 hll hrlen hpr hrp hbe hget hunq ht1 ht2 hbl hbl2
    obtain ⟨hnx25, hny25⟩ := hn25
    go_enter Try.func15, Try.ntmps15
    go_wp2_with (first | (go_at_call 24; refine (awake30_calls _).mono ?_; rintro e w1 ⟨rfl, hb1⟩) | (go_at_call 25; refine (HF.out _ hb1).mono ?_; rintro e w2 ⟨rfl, hb2⟩) | (go_at_call 26; refine (HM.out _ (bel_tr hb1 hb2)).mono ?_; rintro e w3 ⟨p, m, x, rfl, hg3, hr3, hb3, _, _, _⟩; have HG := Lib.hid hg3; clear hg3; have HRG := Lib.hid hr3; clear hr3; have hbw3 : Below w.heap.size w w3 := bel_tr (bel_tr hb1 hb2) hb3) | (go_at_call 60; refine (HRE.out _ x HRG.out).mono ?_; rintro e w4 ⟨v4, rfl, ho4, hb4⟩; obtain ⟨A4, k4, rfl, _⟩ := own_form ho4; have HF4 := Lib.hid (own_flat ho4); clear ho4))
    have hb34 : Below w3.heap.size w3 w4 := bel_tr (bel_al0 (Below.refl _ _) _) hb4
    have hbw4 := bel_tr hbw3 hb34
    have HG4 := Lib.hid (HG.out.below hb34)
    have HRG4 := Lib.hid (HRG.out.below hb34)
    clear hb1 hb2 hb3 hb4 hb34 HG HRG HF HM HRE
    go_loopw [29, 10] (fun v v10 wr => ∃ (i no k10 : Nat) (A10 : Option Addr), i ≤ nx ∧ v = .int .i64 i ∧ v10 = .slice A10 no k10 ∧ no ≤ i ∧ Hid (((X.take i).filter fun x => !decide (x ∈ rreach R [a])).length = no) ∧ Hid (wr.ownsRow w4.heap.size 24 1 (.slice A10 no k10) no (nums ((X.take i).filter fun x => !decide (x ∈ rreach R [a])))) ∧ Below w4.heap.size w4 wr) (fun v _ _ => nx - (intOf v).toNat)
    case atStart => exact ⟨0, 0, 0, none, Nat.zero_le _, rfl, rfl, Nat.le_refl _, rfl, World.ownsRow_nil _ _ _ _, Below.refl _ _⟩
    case round =>
      obtain ⟨i, no, k10, A10, hi, rfl, rfl, hnoi, hnol, hoo, hB⟩ := hrel
      have hsz := hB.size
      by_cases hlt : i < nx
      · obtain ⟨id, hid⟩ : ∃ id, X[i]? = some id := ⟨_, List.getElem?_eq_getElem (by rw [← HNX.out]; exact hlt)⟩
        obtain ⟨bb, off, rfl, cj⟩ := HF4.out.at_ (nums_at hid)
        replace cj := cell_bel cj hB
        have hbl := cell_lt cj
        have hft : (X.take (i + 1)).filter (fun x => !decide (x ∈ rreach R [a])) = (X.take i).filter (fun x => !decide (x ∈ rreach R [a])) ++ (if (!decide (id ∈ rreach R [a])) = true then [id] else []) := by
          rw [List.take_add_one, hid, List.filter_append]
          by_cases hp : (!decide (id ∈ rreach R [a])) = true
          · simp [hp]
          · simp [hp]
        clear hid
        have HII := Lib.hid (HRI.out wr x (HRG4.out.below hB) id)
        obtain ⟨pre, hpre⟩ : ∃ pre, pre = (X.take i).filter fun x => !decide (x ∈ rreach R [a]) := ⟨_, rfl⟩
        rw [← hpre] at hoo hft hnol
        clear hpre
        obtain ⟨t, ht⟩ : ∃ t, t = decide (id ∈ rreach R [a]) := ⟨_, rfl⟩
        rw [← ht] at HII hft
        clear ht
        cases t with
        | true =>
          rw [if_neg (by simp), List.append_nil] at hft
          have HFT := Lib.hid hft; clear hft
          go_wp2_with (go_at_call 56; refine HII.out.mono ?_; rintro e w5 ⟨rfl, hb5⟩)
          go_roundw
          case rel =>
            refine ⟨i + 1, no, k10, A10, by omega, by go_num, rfl, by omega, ?_, ?_, bel_tr hB hb5⟩
            · show _ = _; rw [HFT.out]; exact hnol.out
            · show World.ownsRow _ _ _ _ _ _ _
              rw [HFT.out]; exact own_below hoo.out hb5
          case measure => simp [intOf]; omega
        | false =>
          rw [if_pos (by simp)] at hft
          have HFT := Lib.hid hft; clear hft
          go_wp2_with (first | (go_at_call 56; refine HII.out.mono ?_; rintro e w5 ⟨rfl, hb5⟩; have hz5 := hb5.size; have HOO := Lib.hid (own_below hoo.out hb5)) | (at_builtin; refine wpl_append rfl _ _ 50 rfl w4.heap.size 24 _ 1 8 Try.underlying50 infoU64 rfl (by decide) _ no (nums pre) rfl (own_below HOO.out (bel_al0 (Below.refl _ _) _)) (some ⟨w5.heap.size, 0, none⟩) 1 1 (nums [id]) rfl rfl (flat_one w5 id) (nums_one _) (by unfold maxLen; omega) (by omega) (by simp; omega) ?_; intro v' w6 ho6 hg6 hat6; obtain ⟨A6, k6, rfl, _⟩ := own_form ho6))
          have hb6 : Below w4.heap.size w4 w6 := grown_bel (bel_al0 (bel_tr hB hb5) _) (Nat.le_refl _) hg6 (own_row_ge hoo.out)
          go_roundw
          case rel =>
            refine ⟨i + 1, no + 1, k6, A6, by omega, by go_num, rfl, by omega, ?_, ?_, hb6⟩
            · show _ = _; rw [HFT.out, List.length_append, hnol.out]; rfl
            · show World.ownsRow _ _ _ _ _ _ _
              rw [HFT.out, nums_app]; exact ho6
          case measure => simp [intOf]; omega
      · have hin : X.take i = X := by rw [List.take_of_length_le]; have := HNX.out; omega
        rw [hin, HBE.out] at hoo hnol
        have hno : no = nb := by rw [HNB.out]; exact hnol.out.symm
        subst hno
        have HFB := Lib.hid (own_flat hoo.out)
        obtain ⟨wo, rfl⟩ : ∃ wo : World, wo = wr := ⟨_, rfl⟩
        have HGo := Lib.hid (HG4.out.below hB)
        have HRGo := Lib.hid (HRG4.out.below hB)
        have hbwo := bel_tr hbw4 hB
        clear hin hoo hnol hB hsz HG4 HRG4 hbw4
        go_wp2_with (first
          | (go_at_call 69; refine (HLI.out _ p m HGo.out).mono ?_; rintro e u1 ⟨y1, rfl, o1, d1⟩; obtain ⟨B1, j1, rfl, _⟩ := own_form o1; have G1 := Lib.hid (own_flat o1); clear o1)
          | (go_at_call 70; refine (HRL.out _ x (HRGo.out.below d1)).mono ?_; rintro e u2 ⟨y2, rfl, o2, d2⟩; obtain ⟨B2, j2, rfl, _⟩ := own_form o2; have G2 := Lib.hid (own_flat o2); clear o2)
          | (go_at_call 29; refine (HS1.out _ B1 B2 j1 j2 (G1.out.below d2) G2.out).mono ?_; clear HS1; rintro e u3 ⟨rfl, d3⟩; have d13 := bel_tr (bel_tr d1 d2) d3)
          | (go_at_call 71; refine (HBT.out _ p m (HGo.out.below d13)).mono ?_; rintro e u4 ⟨y4, rfl, o4, d4⟩; obtain ⟨B4, j4, rfl, _⟩ := own_form o4; have G4 := Lib.hid (own_flat o4); clear o4)
          | (go_at_call 29; refine (HS2.out _ B4 A10 j4 k10 G4.out ((HFB.out.below d13).below d4)).mono ?_; clear HS2; rintro e u5 ⟨rfl, d5⟩; have d15 := bel_tr (bel_tr d13 d4) d5)
          | (go_at_call 64; refine (HTO.out _ p m (HGo.out.below d15)).mono ?_; rintro e u6 ⟨y6, cs, rfl, o6, p6, r6, d6⟩; obtain ⟨B6, j6, rfl, _⟩ := own_form o6; have G6 := Lib.hid (own_flat o6); clear o6; have P6 := Lib.hid p6; have R6 := Lib.hid r6; clear p6 r6; have d16 := bel_tr d15 (bel_tr (bel_al0 (Below.refl _ _) _) d6); obtain ⟨nc, hnc⟩ : ∃ nc, nc = cs.length := ⟨_, rfl⟩; rw [← hnc]; have HNC := Lib.hid hnc; clear hnc)
          | (go_at_call 60; refine (HR2.out _ x (HRGo.out.below d16)).mono ?_; rintro e u7 ⟨y7, rfl, o7, d7⟩; obtain ⟨B7, j7, rfl, _⟩ := own_form o7; have G7 := Lib.hid (own_flat o7); clear o7; have d67 := bel_tr (bel_al0 (Below.refl _ u6) (.cells #[.int .u64 a, .int .u64 b] 24)) d7)
          | (go_at_call 73; refine (HSO.out _ x ((HRGo.out.below d16).below d67) B7 ny j7 Y HNY.out.symm G7.out (by omega)).mono ?_; rintro e u8 ⟨B8, j8, ls, rfl, r8, n8, _, p8, s8, d8⟩; obtain ⟨hq1, hq2⟩ := HUNQ.out cs ls P6.out R6.out p8 s8; have hq3 : ls.length = nc := (by have := congrArg List.length hq1; rw [HNC.out]; simpa using this.symm); rw [hq3]; have HQ1 := Lib.hid hq1; have HQ3 := Lib.hid hq3; have R8 := Lib.hid r8; have hnc25 : nc ≤ 25 := (by rw [HNC.out]; exact hq2); clear hq1 hq2 hq3 r8 n8 p8 s8; have HNU := Lib.hid (numbers_calls u8 B8 nc j8 ls HQ3.out R8.out (by omega)); unfold NumsOwn at HNU; rw [← HQ1.out, List.length_map, ← HNC.out] at HNU)
          | (go_at_call 72; refine HNU.out.mono ?_; rintro e u9 ⟨y9, rfl, o9, d9⟩; obtain ⟨B9, j9, rfl, _⟩ := own_form o9; have G9 := Lib.hid (own_flat o9); clear o9; have HS3 := Lib.hid (same_calls u9 B6 B9 nc nc j6 j9 (cs.map CommitD.id) (cs.map CommitD.id) (by rw [List.length_map]; exact HNC.out.symm) (by rw [List.length_map]; exact HNC.out.symm) (((G6.out.below d67).below d8).below d9) G9.out (by omega) (by omega)); have ht3 : decide (cs.map CommitD.id = cs.map CommitD.id) = true := (by simp); rw [ht3] at HS3; clear ht3)
          | (go_at_call 29; refine HS3.out.mono ?_; rintro e u10 ⟨rfl, d10⟩))
        go_ret
        exact ⟨rfl, bel_tr hbwo (bel_tr (bel_tr (bel_tr (bel_tr d16 d67) d8) d9) d10)⟩
  · have hfew' : few l = false := by simpa using hfew
    rw [hfew'] at HF
    clear hfew hfew' h
    go_enter Try.func15, Try.ntmps15
    go_wp2_with (first | (go_at_call 24; refine (awake30_calls _).mono ?_; rintro e w1 ⟨rfl, hb1⟩) | (go_at_call 25; refine (HF.out _ hb1).mono ?_; rintro e w2 ⟨rfl, hb2⟩))
    go_ret
    exact ⟨rfl, bel_tr hb1 hb2⟩
theorem walkLines_all (w : World) (A : Option Addr) (n k : Nat) (l : List CommitD) (h : CIn w A n l) (a : Int) (_ : (Lit.int .u64 a).wf = true) (b : Int) (_ : (Lit.int .u64 b).wf = true) :
    Calls Try.prog 15 #[.slice A n k, .int .u64 a, .int .u64 b] w fun e w' => e = .returned (.bool true) ∧ Below w.heap.size w w' := walkLines_calls w A n k l h a b
end Go.Proofs.Ytehneliphhgegaa
