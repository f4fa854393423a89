/- The law GraphOrders: walked. -/
import Derived.Test.YtehneliphhgegaaLogAll
import Derived.Test.YtehneliphhgegaaPlainBases
import Derived.Test.YtehneliphhgegaaLaw15a
import Derived.Deep.CutBlock
set_option linter.unusedVariables false
set_option linter.unusedSimpArgs false
set_option maxRecDepth 100000
namespace Go.Proofs.Ytehneliphhgegaa
open Go.RowKit Go.Apo

set_option maxHeartbeats 8000000 in
theorem graphOrders_calls (w : World) (A : Option Addr) (n k : Nat) (l : List CommitD) (h : CIn w A n l) (a b c : Int) :
    Calls Try.prog 12 #[.slice A n k, .int .u64 a, .int .u64 b, .int .u64 c] w fun e w' => e = .returned (.bool true) ∧ Below w.heap.size w w' := by
  have HF := Lib.hid (fun W (hW : Below w.heap.size w W) => few15_calls W A n k l (h.below hW))
  by_cases hfew : few l = true
  · rw [hfew] at HF
    have HM := Lib.hid (fun W (hW : Below w.heap.size w W) => made_calls W A n k l (h.below hW) hfew)
    have hg2 := graph2 hfew
    have hsy := hg2.sync
    have hlen := hg2.len
    have HNM := Lib.hid h.nums
    have HIS := Lib.hid (fun W p m (hW : GraphAt W p m (madeL l)) o t => is_calls W p m _ hW hg2.lok (by omega) o t)
    have HLO := Lib.hid (fun W p m (hW : GraphAt W p m (madeL l)) => O.log_calls W (some ⟨p, 0, none⟩) _ _ hW.gp hsy (by omega) c 100)
    have HRE := Lib.hid (fun W p m (hW : GraphAt W p m (madeL l)) => Reach_calls (W.alloc (.cells #[.int .u64 c] 24)) p m _ (hW.below (bel_al0 (Below.refl _ _) _)) hg2.lok (by omega) HNM.out (some ⟨W.heap.size, 0, none⟩) 1 1 [c] rfl (flat_one W c) (fun e => by cases e) (by omega))
    have HLL := Lib.hid (fun cs hc => log_len hsy (id := c) (most := 100) (cs := cs) hc (by omega))
    have hrl := reachL_len hg2.lok [c]
    have hT : isB (madeL l) a b = true → isB (madeL l) b c = true → isB (madeL l) a c = true := fun h1 h2 => (isB_iff hg2.lok).2 (((isB_iff hg2.lok).1 h1).trans ((isB_iff hg2.lok).1 h2))
    have hU : a ≠ b → isB (madeL l) a b = true → isB (madeL l) b a = false := fun hne h1 => by
      rw [Bool.eq_false_iff]
      intro h2
      have h3 := hsy.is_gen hne h1
      have h4 := hsy.is_gen (fun e => hne e.symm) h2
      omega
    unfold MadePost at HM
    unfold O.LogPost at HLO
    unfold NumsOwn at HRE
    obtain ⟨L, hL⟩ : ∃ L, L = madeL l := ⟨_, rfl⟩
    rw [← hL] at HM HIS HLO HRE HLL hrl hT hU
    rw [← hL] at hlen
    obtain ⟨S, hS⟩ : ∃ S, S = reachL L [c] := ⟨_, rfl⟩
    rw [← hS] at HRE HLL hrl
    obtain ⟨N, hN⟩ : ∃ N, N = S.length := ⟨_, rfl⟩
    rw [← hN] at HRE HLL hrl
    have hN25 : N ≤ 25 := by omega
    clear hL hS hN hg2 hsy hlen hfew h HNM hrl
    go_enter Try.func12, Try.ntmps12
    go_upto_region 6 with (first | (go_at_call 43; refine (awake15_calls _).mono ?_; rintro e w1 ⟨rfl, hb1⟩) | (go_at_call 25; refine (HF.out _ hb1).mono ?_; rintro e w2 ⟨rfl, hb2⟩) | (go_at_call 26; refine (HM.out _ (bel_tr hb1 hb2)).mono ?_; rintro e w3 ⟨p, m, x, rfl, hg3, hr3, hb3, _, _, _⟩; have HG := Lib.hid hg3; clear hg3 hr3; have hbw3 : Below w.heap.size w w3 := bel_tr (bel_tr hb1 hb2) hb3))
    clear hb1 hb2 hb3 HF HM
    go_cut [65] from 28 to 65 (fun s65 wx => s65 = .bool false ∧ Below w3.heap.size w3 wx)
    case first =>
      have HISg := Lib.hid (fun W (hW : Below w3.heap.size w3 W) o t => HIS.out W p m (HG.out.below hW) o t)
      by_cases hab : a = b
      · subst hab
        cases h1 : isB L a a with
        | false =>
          clear hT hU
          go_wp2_with (go_at_call 50; refine (HISg.out _ (by (repeat (first | (with_reducible exact Below.refl _ _) | (with_reducible assumption) | (with_reducible refine bel_al0 ?_ _) | (with_reducible refine bel_set ?_ (by first | (simp; done) | (simp; omega)) _) | (with_reducible refine bel_dr ?_) | (with_reducible refine bel_drn ?_ _) | (with_reducible refine bel_tr ?_ (by assumption))))) _ _).mono ?_; rintro e w4 ⟨rfl, hb4⟩)
          go_meet
          exact ⟨rfl, by (repeat (first | (with_reducible exact Below.refl _ _) | (with_reducible assumption) | (with_reducible refine bel_al0 ?_ _) | (with_reducible refine bel_set ?_ (by first | (simp; done) | (simp; omega)) _) | (with_reducible refine bel_dr ?_) | (with_reducible refine bel_drn ?_ _) | (with_reducible refine bel_tr ?_ (by assumption))))⟩
        | true =>
          cases h2 : isB L a c with
          | false =>
            clear hT hU
            go_wp2_with (go_at_call 50; refine (HISg.out _ (by (repeat (first | (with_reducible exact Below.refl _ _) | (with_reducible assumption) | (with_reducible refine bel_al0 ?_ _) | (with_reducible refine bel_set ?_ (by first | (simp; done) | (simp; omega)) _) | (with_reducible refine bel_dr ?_) | (with_reducible refine bel_drn ?_ _) | (with_reducible refine bel_tr ?_ (by assumption))))) _ _).mono ?_; rintro e w4 ⟨rfl, hb4⟩)
            go_meet
            exact ⟨rfl, by (repeat (first | (with_reducible exact Below.refl _ _) | (with_reducible assumption) | (with_reducible refine bel_al0 ?_ _) | (with_reducible refine bel_set ?_ (by first | (simp; done) | (simp; omega)) _) | (with_reducible refine bel_dr ?_) | (with_reducible refine bel_drn ?_ _) | (with_reducible refine bel_tr ?_ (by assumption))))⟩
          | true =>
            clear hT hU
            go_wp2_with (go_at_call 50; refine (HISg.out _ (by (repeat (first | (with_reducible exact Below.refl _ _) | (with_reducible assumption) | (with_reducible refine bel_al0 ?_ _) | (with_reducible refine bel_set ?_ (by first | (simp; done) | (simp; omega)) _) | (with_reducible refine bel_dr ?_) | (with_reducible refine bel_drn ?_ _) | (with_reducible refine bel_tr ?_ (by assumption))))) _ _).mono ?_; rintro e w4 ⟨rfl, hb4⟩)
            go_meet
            exact ⟨rfl, by (repeat (first | (with_reducible exact Below.refl _ _) | (with_reducible assumption) | (with_reducible refine bel_al0 ?_ _) | (with_reducible refine bel_set ?_ (by first | (simp; done) | (simp; omega)) _) | (with_reducible refine bel_dr ?_) | (with_reducible refine bel_drn ?_ _) | (with_reducible refine bel_tr ?_ (by assumption))))⟩
      · cases h1 : isB L a b with
        | false =>
          clear hT hU
          go_wp2_with (go_at_call 50; refine (HISg.out _ (by (repeat (first | (with_reducible exact Below.refl _ _) | (with_reducible assumption) | (with_reducible refine bel_al0 ?_ _) | (with_reducible refine bel_set ?_ (by first | (simp; done) | (simp; omega)) _) | (with_reducible refine bel_dr ?_) | (with_reducible refine bel_drn ?_ _) | (with_reducible refine bel_tr ?_ (by assumption))))) _ _).mono ?_; rintro e w4 ⟨rfl, hb4⟩)
          go_meet
          exact ⟨rfl, by (repeat (first | (with_reducible exact Below.refl _ _) | (with_reducible assumption) | (with_reducible refine bel_al0 ?_ _) | (with_reducible refine bel_set ?_ (by first | (simp; done) | (simp; omega)) _) | (with_reducible refine bel_dr ?_) | (with_reducible refine bel_drn ?_ _) | (with_reducible refine bel_tr ?_ (by assumption))))⟩
        | true =>
          have h3 := hU hab h1
          cases h2 : isB L b c with
          | false =>
            clear hT hU
            go_wp2_with (go_at_call 50; refine (HISg.out _ (by (repeat (first | (with_reducible exact Below.refl _ _) | (with_reducible assumption) | (with_reducible refine bel_al0 ?_ _) | (with_reducible refine bel_set ?_ (by first | (simp; done) | (simp; omega)) _) | (with_reducible refine bel_dr ?_) | (with_reducible refine bel_drn ?_ _) | (with_reducible refine bel_tr ?_ (by assumption))))) _ _).mono ?_; rintro e w4 ⟨rfl, hb4⟩)
            go_meet
            exact ⟨rfl, by (repeat (first | (with_reducible exact Below.refl _ _) | (with_reducible assumption) | (with_reducible refine bel_al0 ?_ _) | (with_reducible refine bel_set ?_ (by first | (simp; done) | (simp; omega)) _) | (with_reducible refine bel_dr ?_) | (with_reducible refine bel_drn ?_ _) | (with_reducible refine bel_tr ?_ (by assumption))))⟩
          | true =>
            have h4 := hT h1 h2
            clear hT hU
            go_wp2_with (go_at_call 50; refine (HISg.out _ (by (repeat (first | (with_reducible exact Below.refl _ _) | (with_reducible assumption) | (with_reducible refine bel_al0 ?_ _) | (with_reducible refine bel_set ?_ (by first | (simp; done) | (simp; omega)) _) | (with_reducible refine bel_dr ?_) | (with_reducible refine bel_drn ?_ _) | (with_reducible refine bel_tr ?_ (by assumption))))) _ _).mono ?_; rintro e w4 ⟨rfl, hb4⟩)
            go_meet
            exact ⟨rfl, by (repeat (first | (with_reducible exact Below.refl _ _) | (with_reducible assumption) | (with_reducible refine bel_al0 ?_ _) | (with_reducible refine bel_set ?_ (by first | (simp; done) | (simp; omega)) _) | (with_reducible refine bel_dr ?_) | (with_reducible refine bel_drn ?_ _) | (with_reducible refine bel_tr ?_ (by assumption))))⟩
    case rest =>
      obtain ⟨rfl, hbc⟩ := hcut
      clear hT hU
      have HGc := Lib.hid (HG.out.below hbc)
      have hbwc := bel_tr hbw3 hbc
      clear HG hbc hbw3
      go_wp2_with (first | (go_at_call 62; refine (HLO.out _ p m HGc.out).mono ?_; rintro e w4 ⟨A4, k4, cs, he, hk4, hrow, hlog, hb4⟩; obtain ⟨hl1, hl2, hl3⟩ := HLL.out cs hlog; rw [hl1] at he hk4; have HL1 := Lib.hid hl1; have HL2 := Lib.hid hl2; have HL3 := Lib.hid hl3; have HROW := Lib.hid hrow; clear hl1 hl2 hl3 hrow hlog; subst he) | (go_at_call 59; refine (HRE.out _ p m (HGc.out.below hb4)).mono ?_; rintro e w5 ⟨v5, rfl, ho5, hb5⟩; obtain ⟨A5, k5, rfl, _⟩ := own_form ho5; clear ho5))
      have hb45 : Below w4.heap.size w4 w5 := bel_tr (bel_al0 (Below.refl _ _) _) hb5
      have HROW5 := Lib.hid (HROW.out.below hb45)
      have HG5 := Lib.hid ((HGc.out.below hb4).below hb45)
      have hbw5 := bel_tr (bel_tr hbwc hb4) hb45
      clear HROW HGc hb4 hb5 hb45 hbwc HLO HRE HLL
      go_loopw [79] (fun v wr => ∃ i : Nat, i ≤ N ∧ v = .int .i64 i ∧ Below w5.heap.size w5 wr) (fun v _ => N - (intOf v).toNat)
      case atStart => exact ⟨0, Nat.zero_le _, rfl, Below.refl _ _⟩
      case round =>
        obtain ⟨i, hi, rfl, hB⟩ := hrel
        obtain ⟨wo, rfl⟩ : ∃ wo : World, wo = wr := ⟨_, rfl⟩
        by_cases hlt : i < N
        · obtain ⟨x, hx⟩ : ∃ x, cs[i]? = some x := ⟨_, List.getElem?_eq_getElem (by rw [HL1.out]; exact hlt)⟩
          obtain ⟨bb, off, A6, k6, rfl, c0, c1, c2, c3, c4, _, _⟩ := (HROW5.out.below hB).at_ hx
          have hbl := cell_lt c0
          have his := HL2.out i x hx
          have HL3i := Lib.hid (fun q y (hq : q < i) (hy : cs[q]? = some y) => HL3.out i q x y hq hx hy)
          clear hx
          obtain ⟨np, hnp⟩ : ∃ np, np = x.par.length := ⟨_, rfl⟩
          rw [← hnp] at c1
          clear hnp
          have hik : i ≤ k4 := by omega
          go_wp2_with (go_at_call 50; refine (HIS.out _ p m (HG5.out.below (bel_al0 hB _)) _ _).mono ?_; rintro e w7 ⟨rfl, hb7⟩; have HBX := Lib.hid ((blk_new wo _ _).below hb7); have hz7 : wo.heap.size < w7.heap.size := (by have := hb7.size; simp at this; omega))
          have hb57 : Below w5.heap.size w5 w7 := bel_tr (bel_al0 hB _) hb7
          clear c0 c1 c2 c3 c4 his
          go_loopw [94] (fun v wr => ∃ q : Nat, q ≤ i ∧ v = .int .i64 q ∧ Below w7.heap.size w7 wr) (fun v _ => i - (intOf v).toNat)
          case atStart => exact ⟨0, Nat.zero_le _, rfl, Below.refl _ _⟩
          case round =>
            obtain ⟨q, hq, rfl, hBq⟩ := hrel
            by_cases hlq : q < i
            · obtain ⟨y, hy⟩ : ∃ y, cs[q]? = some y := ⟨_, List.getElem?_eq_getElem (by rw [HL1.out]; omega)⟩
              obtain ⟨b2, o2, A8, k8, e2, d0, d1, d2, d3, d4, _, _⟩ := (HROW5.out.below (bel_tr hb57 hBq)).at_ hy
              cases e2
              have hbl2 := cell_lt d0
              obtain ⟨hne, his⟩ := HL3i.out q y hlq hy
              have g1 : (y.id == x.id) = false := by simpa using hne
              clear hne hy
              obtain ⟨nq, hnq⟩ : ∃ nq, nq = y.par.length := ⟨_, rfl⟩
              rw [← hnq] at d1
              clear hnq
              obtain ⟨x0, x1, x2, x3, x4, xf⟩ := (HBX.out.below hBq).five
              clear x1 x2 x3 x4 xf
              have hbx := cell_lt x0
              go_wp2_with (go_at_call 50; refine (HIS.out _ p m (HG5.out.below (bel_tr hb57 (bel_al0 hBq _))) _ _).mono ?_; rintro e w9 ⟨rfl, hb9⟩)
              go_roundw
              case rel => exact ⟨q + 1, by omega, by go_num, by (repeat (first | (with_reducible exact Below.refl _ _) | (with_reducible assumption) | (with_reducible refine bel_al0 ?_ _) | (with_reducible refine bel_set ?_ (by first | (simp; done) | (simp; omega)) _) | (with_reducible refine bel_dr ?_) | (with_reducible refine bel_drn ?_ _) | (with_reducible refine bel_tr ?_ (by assumption))))⟩
              case measure => simp [intOf]; omega
            · go_wp2_with fail
              go_roundw
              case rel => exact ⟨i + 1, by omega, by go_num, bel_tr hb57 hBq⟩
              case measure => simp [intOf]; omega
        · go_wp2_with fail
          go_ret
          exact ⟨rfl, bel_tr hbw5 hB⟩
  · have hfew' : few l = false := by simpa using hfew
    rw [hfew'] at HF
    clear hfew hfew' h
    go_enter Try.func12, Try.ntmps12
    go_wp2_with (first | (go_at_call 43; refine (awake15_calls _).mono ?_; rintro e w1 ⟨rfl, hb1⟩) | (go_at_call 25; refine (HF.out _ hb1).mono ?_; rintro e w2 ⟨rfl, hb2⟩))
    go_ret
    exact ⟨rfl, bel_tr hb1 hb2⟩
theorem graphOrders_all (w : World) (A : Option Addr) (n k : Nat) (l : List CommitD) (h : CIn w A n l) (a : Int) (_ : (Lit.int .u64 a).wf = true) (b : Int) (_ : (Lit.int .u64 b).wf = true) (c : Int) (_ : (Lit.int .u64 c).wf = true) :
    Calls Try.prog 12 #[.slice A n k, .int .u64 a, .int .u64 b, .int .u64 c] w fun e w' => e = .returned (.bool true) ∧ Below w.heap.size w w' := graphOrders_calls w A n k l h a b c
end Go.Proofs.Ytehneliphhgegaa
