/- The document's Bases, Base: walked once. -/
import Derived.Test.YtehneliphhgegaaRefLine
import Derived.Test.YtehneliphhgegaaPlainBases
import Derived.Test.YtehneliphhgegaaLaw15a
set_option linter.unusedVariables false
set_option linter.unusedSimpArgs false
set_option maxRecDepth 100000
namespace Go.Proofs.Ytehneliphhgegaa
open Go.RowKit Go.Apo

theorem all_take {p : Int → Bool} {l : List Int} {q : Nat} {k : Int} (h : l[q]? = some k) : (l.take (q + 1)).all p = ((l.take q).all p && p k) := by
  rw [List.take_add_one, h]; simp
theorem filter_take {p : Int → Bool} {l : List Int} {q : Nat} {k : Int} (h : l[q]? = some k) : (l.take (q + 1)).filter p = (l.take q).filter p ++ (if p k = true then [k] else []) := by
  rw [List.take_add_one, h, List.filter_append]
  by_cases hp : p k = true
  · simp [hp]
  · simp [hp]
theorem rreach_len (R : List CommitD) (ids : List Int) : (rreach R ids).length ≤ R.length := by unfold rreach; rw [List.length_reverse]; exact rmet_len R ids 0
def isR (R : List CommitD) (old late : Int) : Bool := decide (old ∈ rreach R [late])

set_option maxHeartbeats 8000000 in
theorem rbases_calls (w : World) (x : Nat) (R : List CommitD) (h : RGraphAt w x R) (hR : R.length ≤ 90000) (h2 : ∀ i, (rPar R i).length ≤ 2) (hpar : ∀ c ∈ R, c.par.length ≤ 2) (a b : Int) :
    Calls Try.prog 58 #[.pointer (some ⟨x, 0, none⟩), .int .u64 a, .int .u64 b] w (NumsOwn w (rbasesL R a b)) := by
  have HR := Lib.hid (fun W (hW : Below w.heap.size w W) i => rreach_calls (W.alloc (.cells #[.int .u64 i] 24)) x R ((h.below hW).below (bel_al0 (Below.refl _ _) _)) (by omega) h2 hpar (some ⟨W.heap.size, 0, none⟩) 1 1 [i] rfl (flat_one W i) (by omega))
  have HI := Lib.hid (fun W (hW : Below w.heap.size w W) o l => ris_calls W x R (h.below hW) hR h2 hpar o l)
  have HRa := Lib.hid (HR.out w (Below.refl _ _) a)
  have HRb := Lib.hid (fun W hW => HR.out W hW b)
  have hla := rreach_len R [a]
  have hlb := rreach_len R [b]
  obtain ⟨RES, hRES⟩ : ∃ RES, RES = rbasesL R a b := ⟨_, rfl⟩
  rw [← hRES]
  unfold rbasesL rbest rcommon at hRES
  unfold NumsOwn at HRa HRb ⊢
  obtain ⟨X, hX⟩ : ∃ X, X = rreach R [a] := ⟨_, rfl⟩
  obtain ⟨Y, hY⟩ : ∃ Y, Y = rreach R [b] := ⟨_, rfl⟩
  rw [← hX] at HRa hla hRES
  rw [← hY] at HRb hlb hRES
  clear hX hY h h2 hpar HR
  obtain ⟨nx, hnx⟩ : ∃ nx, nx = X.length := ⟨_, rfl⟩
  rw [← hnx] at HRa hla
  obtain ⟨ny, hny⟩ : ∃ ny, ny = Y.length := ⟨_, rfl⟩
  rw [← hny] at HRb hlb
  have HNX := Lib.hid hnx; clear hnx
  have HNY := Lib.hid hny; clear hny
  have HRES := Lib.hid hRES; clear hRES
  go_enter Try.func58, Try.ntmps58
  go_wp2_with (first | (go_at_call 60; refine HRa.out.mono ?_; clear HRa; rintro e w1 ⟨v1, rfl, ho1, hb1⟩; obtain ⟨A1, k1, rfl, _⟩ := own_form ho1; have HF1 := Lib.hid (own_flat ho1); clear ho1; have hb1' := bel_tr (bel_al0 (Below.refl _ w) (.cells #[.int .u64 a] 24)) hb1) | (go_at_call 60; refine (HRb.out _ hb1').mono ?_; rintro e w2 ⟨v2, rfl, ho2, hb2⟩; obtain ⟨A2, k2, rfl, _⟩ := own_form ho2; have HF2 := Lib.hid (own_flat ho2); clear ho2))
  have hb2' : Below w1.heap.size w1 w2 := bel_tr (bel_al0 (Below.refl _ w1) _) hb2
  have HF1' := Lib.hid (HF1.out.below hb2')
  have hbw : Below w.heap.size w w2 := bel_tr hb1' hb2'
  clear HF1 hb1 hb2 hb1' hb2' HRb
  go_loopw [28, 9] (fun v v9 wr => ∃ (j nc k9 : Nat) (A9 : Option Addr), j ≤ nx ∧ v = .int .i64 j ∧ v9 = .slice A9 nc k9 ∧ nc ≤ j ∧ Hid (((X.take j).filter fun x => decide (x ∈ Y)).length = nc) ∧ Hid (wr.ownsRow w2.heap.size 24 1 (.slice A9 nc k9) nc (nums ((X.take j).filter fun x => decide (x ∈ Y)))) ∧ Below w2.heap.size w2 wr) (fun v _ _ => nx - (intOf v).toNat)
  case atStart => exact ⟨0, 0, 0, none, Nat.zero_le _, rfl, rfl, Nat.le_refl _, rfl, World.ownsRow_nil _ _ _ _, Below.refl _ _⟩
  case round =>
    obtain ⟨j, nc, k9, A9, hj, rfl, rfl, hncj, hncl, ho, hB⟩ := hrel
    have hsz := hB.size
    by_cases hlt : j < nx
    · obtain ⟨id, hid⟩ : ∃ id, X[j]? = some id := ⟨_, List.getElem?_eq_getElem (by rw [← HNX.out]; exact hlt)⟩
      obtain ⟨bb, off, rfl, cj⟩ := HF1'.out.at_ (nums_at hid)
      replace cj := cell_bel cj hB
      have hbl := cell_lt cj
      have HH := Lib.hid (has_calls wr A2 ny k2 Y HNY.out.symm (HF2.out.below hB) (by omega) id)
      have hft := filter_take (p := fun x => decide (x ∈ Y)) hid
      clear hid
      obtain ⟨t, ht⟩ : ∃ t, t = decide (id ∈ Y) := ⟨_, rfl⟩
      rw [← ht] at HH hft
      clear ht
      obtain ⟨pre, hpre⟩ : ∃ pre, pre = (X.take j).filter fun x => decide (x ∈ Y) := ⟨_, rfl⟩
      rw [← hpre] at ho hft hncl
      clear hpre
      cases t with
      | true =>
        rw [if_pos rfl] at hft
        have HFT := Lib.hid hft; clear hft
        go_wp2_with (first | (go_at_call 79; refine HH.out.mono ?_; rintro e w3 ⟨rfl, rfl⟩) | (at_builtin; refine wpl_append rfl _ _ 50 rfl w2.heap.size 24 _ 1 8 Try.underlying50 infoU64 rfl (by decide) _ nc (nums pre) rfl (own_below ho.out (bel_al0 (Below.refl _ _) _)) (some ⟨wr.heap.size, 0, none⟩) 1 1 (nums [id]) rfl rfl (flat_one wr id) (nums_one _) (by unfold maxLen; omega) (by omega) (by simp; omega) ?_; intro v' w6 ho6 hg6 hat6; obtain ⟨A6, k6, rfl, _⟩ := own_form ho6))
        have hb6 : Below w2.heap.size w2 w6 := grown_bel (bel_al0 hB _) (Nat.le_refl _) hg6 (own_row_ge ho.out)
        go_roundw
        case rel =>
          refine ⟨j + 1, nc + 1, k6, A6, by omega, by go_num, rfl, by omega, ?_, ?_, hb6⟩
          · show _ = _; rw [HFT.out, List.length_append, hncl.out]; rfl
          · show World.ownsRow _ _ _ _ _ _ _
            rw [HFT.out, nums_app]; exact ho6
        case measure => simp [intOf]; omega
      | false =>
        rw [if_neg (by simp), List.append_nil] at hft
        have HFT := Lib.hid hft; clear hft
        go_wp2_with (go_at_call 79; refine HH.out.mono ?_; rintro e w3 ⟨rfl, rfl⟩)
        go_roundw
        case rel =>
          refine ⟨j + 1, nc, k9, A9, by omega, by go_num, rfl, by omega, ?_, ?_, hB⟩
          · show _ = _; rw [HFT.out]; exact hncl.out
          · show World.ownsRow _ _ _ _ _ _ _
            rw [HFT.out]; exact ho.out
        case measure => simp [intOf]; omega
    · have hjn : X.take j = X := by rw [List.take_of_length_le]; have := HNX.out; omega
      rw [hjn] at ho hncl
      obtain ⟨C, hC⟩ : ∃ C, C = X.filter fun x => decide (x ∈ Y) := ⟨_, rfl⟩
      have hres := HRES.out
      rw [← hC] at ho hncl hres
      have HRES2 := Lib.hid hres
      have HFC := Lib.hid (own_flat ho.out)
      have HO := Lib.hid ho.out
      clear hjn hC hres ho
      obtain ⟨wo, rfl⟩ : ∃ wo : World, wo = wr := ⟨_, rfl⟩
      have hbwo := bel_tr hbw hB
      have hnc9 : nc ≤ 90000 := by omega
      go_wp2_with fail
      go_loopw [42, 10] (fun v v10 wr => ∃ (i no k10 : Nat) (A10 : Option Addr), i ≤ nc ∧ v = .int .i64 i ∧ v10 = .slice A10 no k10 ∧ no ≤ i ∧ Hid (((C.take i).filter fun id => C.all fun k => (k == id) || !decide (id ∈ rreach R [k])).length = no) ∧ Hid (wr.ownsRow wo.heap.size 24 1 (.slice A10 no k10) no (nums ((C.take i).filter fun id => C.all fun k => (k == id) || !decide (id ∈ rreach R [k])))) ∧ Below wo.heap.size wo wr) (fun v _ _ => nc - (intOf v).toNat)
      case atStart => exact ⟨0, 0, 0, none, Nat.zero_le _, rfl, rfl, Nat.le_refl _, rfl, World.ownsRow_nil _ _ _ _, Below.refl _ _⟩
      case round =>
        obtain ⟨i, no, k10, A10, hi, rfl, rfl, hnoi, hnol, hoo, hB2⟩ := hrel
        obtain ⟨wp, rfl⟩ : ∃ wp : World, wp = wr := ⟨_, rfl⟩
        have hsz2 := hB2.size
        by_cases hlt2 : i < nc
        · obtain ⟨id, hid⟩ : ∃ id, C[i]? = some id := ⟨_, List.getElem?_eq_getElem (by rw [hncl.out]; exact hlt2)⟩
          obtain ⟨bb, off, rfl, cj⟩ := HFC.out.at_ (nums_at hid)
          have cj2 := cell_bel cj hB2
          have hbl := cell_lt cj2
          clear cj
          have hft := filter_take (p := fun id => C.all fun k => (k == id) || !decide (id ∈ rreach R [k])) hid
          clear hid
          obtain ⟨pre, hpre⟩ : ∃ pre, pre = (C.take i).filter fun id => C.all fun k => (k == id) || !decide (id ∈ rreach R [k]) := ⟨_, rfl⟩
          rw [← hpre] at hoo hft hnol
          clear hpre
          obtain ⟨bst, hbst⟩ : ∃ bst, bst = C.all fun k => (k == id) || !decide (id ∈ rreach R [k]) := ⟨_, rfl⟩
          rw [← hbst] at hft
          have HBST := Lib.hid hbst
          have HFT := Lib.hid hft
          clear hbst hft
          go_wp2_with fail
          go_loopw [48, 15] (fun v v15 wr => ∃ (q : Nat) (bq : Bool), q ≤ nc ∧ v = .int .i64 q ∧ v15 = .bool bq ∧ Hid (bq = (C.take q).all fun k => (k == id) || !decide (id ∈ rreach R [k])) ∧ Below wp.heap.size wp wr) (fun v _ _ => nc - (intOf v).toNat)
          case atStart => exact ⟨0, true, Nat.zero_le _, rfl, rfl, rfl, Below.refl _ _⟩
          case round =>
            obtain ⟨q, bq, hq, rfl, rfl, hbq, hB3⟩ := hrel
            by_cases hlt3 : q < nc
            · obtain ⟨k, hk⟩ : ∃ k, C[q]? = some k := ⟨_, List.getElem?_eq_getElem (by rw [hncl.out]; exact hlt3)⟩
              obtain ⟨b2, o2, e2, ck⟩ := HFC.out.at_ (nums_at hk)
              cases e2
              replace ck := cell_bel ck (bel_tr hB2 hB3)
              have hckl := cell_lt ck
              have hat := all_take (p := fun k => (k == id) || !decide (id ∈ rreach R [k])) hk
              rw [← hbq.out] at hat
              clear hk
              have HII := Lib.hid (HI.out wr (bel_tr hbwo (bel_tr hB2 hB3)) id k)
              obtain ⟨ir, hir⟩ : ∃ ir, ir = decide (id ∈ rreach R [k]) := ⟨_, rfl⟩
              rw [← hir] at hat HII
              clear hir
              have HAT := Lib.hid hat; clear hat hbq
              cases bq with
              | false =>
                go_wp2
                go_roundw
                case rel => exact ⟨q + 1, false, by omega, by go_num, rfl, by show _ = _; rw [HAT.out]; rfl, hB3⟩
                case measure => simp [intOf]; omega
              | true =>
                by_cases hki : k = id
                · subst hki
                  go_wp2
                  go_roundw
                  case rel => exact ⟨q + 1, true, by omega, by go_num, rfl, by show _ = _; rw [HAT.out]; simp, hB3⟩
                  case measure => simp [intOf]; omega
                · have hki' : (k == id) = false := by simpa using hki
                  have HAT2 : Hid ((!ir) = (C.take (q + 1)).all fun k => (k == id) || !decide (id ∈ rreach R [k])) := by show _ = _; rw [HAT.out, hki']; simp
                  clear HAT
                  cases ir with
                  | false =>
                    go_wp2_with (go_at_call 56; refine HII.out.mono ?_; rintro e w4 ⟨rfl, hb4⟩)
                    go_roundw
                    case rel => exact ⟨q + 1, true, by omega, by go_num, rfl, HAT2, bel_tr hB3 hb4⟩
                    case measure => simp [intOf]; omega
                  | true =>
                    go_wp2_with (go_at_call 56; refine HII.out.mono ?_; rintro e w4 ⟨rfl, hb4⟩)
                    go_roundw
                    case rel => exact ⟨q + 1, false, by omega, by go_num, rfl, HAT2, bel_tr hB3 hb4⟩
                    case measure => simp [intOf]; omega
            · have hqn : C.take q = C := by rw [List.take_of_length_le]; have := hncl.out; omega
              have hbq2 := hbq.out
              rw [hqn, ← HBST.out] at hbq2
              subst hbq2
              clear hqn
              have HOO := Lib.hid (own_below hoo.out hB3)
              have hsz3 := hB3.size
              cases bq with
              | true =>
                have hft := HFT.out
                rw [if_pos rfl] at hft
                have HFT2 := Lib.hid hft; clear hft
                go_wp2_with (at_builtin; refine wpl_append rfl _ _ 50 rfl wo.heap.size 24 _ 1 8 Try.underlying50 infoU64 rfl (by decide) _ no (nums pre) rfl (own_below HOO.out (bel_al0 (Below.refl _ _) _)) (some ⟨wr.heap.size, 0, none⟩) 1 1 (nums [id]) rfl rfl (flat_one wr id) (nums_one _) (by unfold maxLen; omega) (by omega) (by simp; omega) ?_; intro v' w6 ho6 hg6 hat6; obtain ⟨A6, k6, rfl, _⟩ := own_form ho6)
                have hb6 : Below wo.heap.size wo w6 := grown_bel (bel_al0 (bel_tr hB2 hB3) _) (Nat.le_refl _) hg6 (own_row_ge hoo.out)
                go_roundw
                case rel =>
                  refine ⟨i + 1, no + 1, k6, A6, by omega, by go_num, rfl, by omega, ?_, ?_, hb6⟩
                  · show _ = _; rw [HFT2.out, List.length_append, hnol.out]; rfl
                  · show World.ownsRow _ _ _ _ _ _ _
                    rw [HFT2.out, nums_app]; exact ho6
                case measure => simp [intOf]; omega
              | false =>
                have hft := HFT.out
                rw [if_neg (by simp), List.append_nil] at hft
                have HFT2 := Lib.hid hft; clear hft
                go_wp2_with fail
                go_roundw
                case rel =>
                  refine ⟨i + 1, no, k10, A10, by omega, by go_num, rfl, by omega, ?_, ?_, bel_tr hB2 hB3⟩
                  · show _ = _; rw [HFT2.out]; exact hnol.out
                  · show World.ownsRow _ _ _ _ _ _ _
                    rw [HFT2.out]; exact HOO.out
                case measure => simp [intOf]; omega
        · have hin : C.take i = C := by rw [List.take_of_length_le]; have := hncl.out; omega
          rw [hin, ← HRES2.out] at hoo hnol
          have HNOL := Lib.hid hnol.out
          have HOO := Lib.hid hoo.out
          clear hin hoo hnol
          go_wp2_with fail
          go_ret
          exact ⟨_, rfl, by rw [HNOL.out]; exact own_mono HOO.out hbwo.size, bel_tr hbwo hB2⟩

set_option maxHeartbeats 4000000 in
theorem rbase_calls (w : World) (x : Nat) (R : List CommitD) (h : RGraphAt w x R) (hR : R.length ≤ 90000) (h2 : ∀ i, (rPar R i).length ≤ 2) (hpar : ∀ c ∈ R, c.par.length ≤ 2) (a b : Int) :
    Calls Try.prog 55 #[.pointer (some ⟨x, 0, none⟩), .int .u64 a, .int .u64 b] w fun e w' => e = .returned (.tuple #[.int .u64 (rbaseOf R (rbasesL R a b)).1, .bool (decide (0 < (rbaseOf R (rbasesL R a b)).2))]) ∧ Below w.heap.size w w' := by
  have HB := Lib.hid (rbases_calls w x R h hR h2 hpar a b)
  have HG := Lib.hid (fun W (hW : Below w.heap.size w W) i => rget_calls W W x R (h.below hW) (Below.refl _ _) (by omega) i)
  have hlen : (rbasesL R a b).length ≤ R.length := by
    unfold rbasesL rcommon
    exact Nat.le_trans (List.length_filter_le _ _) (Nat.le_trans (List.length_filter_le _ _) (rreach_len R [a]))
  obtain ⟨S, hS⟩ : ∃ S, S = rbasesL R a b := ⟨_, rfl⟩
  unfold NumsOwn at HB
  unfold GetPost at HG
  rw [← hS] at HB hlen ⊢
  clear hS h h2 hpar
  obtain ⟨n, hn⟩ : ∃ n, n = S.length := ⟨_, rfl⟩
  rw [← hn] at HB hlen
  have HN := Lib.hid hn; clear hn
  obtain ⟨RES, hRES⟩ : ∃ RES, RES = rbaseOf R S := ⟨_, rfl⟩
  rw [← hRES]
  have HRES := Lib.hid hRES; clear hRES
  go_enter Try.func55, Try.ntmps55
  go_wp2_with (go_at_call 58; refine HB.out.mono ?_; rintro e w1 ⟨v1, rfl, ho1, hb1⟩; obtain ⟨A1, k1, rfl, _⟩ := own_form ho1; have HF1 := Lib.hid (own_flat ho1); clear ho1)
  go_loopw [19, 8, 9] (fun v v8 v9 wr => ∃ (j : Nat) (s : Int × Int), j ≤ n ∧ v = .int .i64 j ∧ v8 = .int .u64 s.1 ∧ v9 = .int .u64 s.2 ∧ Hid (s = (S.take j).foldl (rbaseStep R) (0, 0)) ∧ Below w1.heap.size w1 wr) (fun v _ _ _ => n - (intOf v).toNat)
  case atStart => exact ⟨0, (0, 0), Nat.zero_le _, rfl, rfl, rfl, rfl, Below.refl _ _⟩
  case round =>
    obtain ⟨j, ⟨s1, s2⟩, hj, rfl, rfl, rfl, hs, hB⟩ := hrel
    by_cases hlt : j < n
    · obtain ⟨id, hid⟩ : ∃ id, S[j]? = some id := ⟨_, List.getElem?_eq_getElem (by rw [← HN.out]; exact hlt)⟩
      obtain ⟨bb, off, rfl, cj⟩ := HF1.out.at_ (nums_at hid)
      replace cj := cell_bel cj hB
      have hbl := cell_lt cj
      have HGi := Lib.hid (HG.out wr (bel_tr hb1 hB) id)
      have htk : (S.take (j + 1)).foldl (rbaseStep R) (0, 0) = rbaseStep R (s1, s2) id := by rw [List.take_add_one, hid, hs.out]; simp
      unfold rbaseStep at htk
      obtain ⟨c, hc⟩ : ∃ c, c = (rFind R id).getD CommitD.zero := ⟨_, rfl⟩
      rw [← hc] at HGi
      clear hid
      by_cases hg : s2 < c.gen
      · have hnew : Hid ((id, c.gen) = (S.take (j + 1)).foldl (rbaseStep R) (0, 0)) := by
          show _ = _
          unfold rbaseStep
          rw [htk]; simp only; rw [← hc, if_pos hg]
        clear htk hc hs
        go_wp2_with (go_at_call 45; refine HGi.out.mono ?_; rintro e w5 ⟨A5, k5, rfl, _, _, hb5⟩)
        go_region
        all_goals go_wp2
        all_goals go_roundw
        case rel => exact ⟨j + 1, (id, c.gen), by omega, by go_num, rfl, rfl, hnew, by (repeat (first | (with_reducible exact Below.refl _ _) | (with_reducible assumption) | (with_reducible refine bel_al0 ?_ _) | (with_reducible refine bel_set ?_ (by first | (simp; done) | (simp; omega)) _) | (with_reducible refine bel_dr ?_) | (with_reducible refine bel_drn ?_ _) | (with_reducible refine bel_tr ?_ (by assumption))))⟩
        case measure => simp [intOf]; omega
      · have hnew : Hid ((s1, s2) = (S.take (j + 1)).foldl (rbaseStep R) (0, 0)) := by
          show _ = _
          unfold rbaseStep
          rw [htk]; simp only; rw [← hc, if_neg hg]
        clear htk hc hs
        go_wp2_with (go_at_call 45; refine HGi.out.mono ?_; rintro e w5 ⟨A5, k5, rfl, _, _, hb5⟩)
        go_roundw
        case rel => exact ⟨j + 1, (s1, s2), by omega, by go_num, rfl, rfl, hnew, by (repeat (first | (with_reducible exact Below.refl _ _) | (with_reducible assumption) | (with_reducible refine bel_al0 ?_ _) | (with_reducible refine bel_set ?_ (by first | (simp; done) | (simp; omega)) _) | (with_reducible refine bel_dr ?_) | (with_reducible refine bel_drn ?_ _) | (with_reducible refine bel_tr ?_ (by assumption))))⟩
        case measure => simp [intOf]; omega
    · have htk : S.take j = S := by rw [List.take_of_length_le]; have := HN.out; omega
      have hs2 := hs.out
      rw [htk] at hs2
      have hs3 : (s1, s2) = RES := by rw [HRES.out]; exact hs2
      subst hs3
      clear hs2 htk hs HRES
      go_wp2_with fail
      go_ret2
      exact ⟨rfl, bel_tr hb1 hB⟩
end Go.Proofs.Ytehneliphhgegaa
