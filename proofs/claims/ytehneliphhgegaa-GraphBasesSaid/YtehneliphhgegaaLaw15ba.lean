/- The law GraphBases: walked. -/
import Derived.Test.YtehneliphhgegaaRefLog
import Derived.Test.YtehneliphhgegaaRefBases
import Derived.Test.YtehneliphhgegaaLogAll
import Derived.Test.YtehneliphhgegaaLaw15a
set_option linter.unusedVariables false
set_option linter.unusedSimpArgs false
set_option maxRecDepth 100000
namespace Go.Proofs.Ytehneliphhgegaa
open Go.RowKit Go.Apo

theorem flat_two' (w : World) (x y : Int) : Flat (w.alloc (.cells #[.int .u64 x, .int .u64 y] 24)) (some ⟨w.heap.size, 0, none⟩) (nums [x, y]) := fun _ => ⟨w.heap.size, 0, rfl, fun q u hq => by
  refine (blk_new w #[.int .u64 x, .int .u64 y] 24).cell ?_
  rw [Nat.zero_add]
  simpa [nums] using hq⟩
set_option maxHeartbeats 8000000 in
theorem graphBases_calls (w : World) (A : Option Addr) (n k : Nat) (l : List CommitD) (h : CIn w A n l) (a b most : Int) :
    Calls Try.prog 11 #[.slice A n k, .int .u64 a, .int .u64 b, .int .i64 most] w fun e w' => e = .returned (.bool true) ∧ Below w.heap.size w w' := by
  have HF := Lib.hid (fun W (hW : Below w.heap.size w W) => few15_calls W A n k l (h.below hW))
  by_cases hfew : few l = true
  · rw [hfew] at HF
    have HM := Lib.hid (fun W (hW : Below w.heap.size w W) => made_calls W A n k l (h.below hW) hfew)
    have hg2 := graph2 hfew
    have hsy := hg2.sync
    have hlen := hg2.len
    have hrlen := hg2.rlen
    have HNM := Lib.hid h.nums
    have hpr : ∀ c ∈ madeR l, c.par.length ≤ 2 := fun c hc => by
      have h1 := rFind_self hsy.sorted c hc
      rw [hsy.same] at h1
      exact (hsy.two c.id c h1).1
    have hrp : ∀ i, (rPar (madeR l) i).length ≤ 2 := fun i => (hsy.rclosed i).1
    have HBA := Lib.hid (fun W p m (hW : GraphAt W p m (madeL l)) => base_calls W p m _ hW hg2.lok (by omega) HNM.out a b)
    have HRBA := Lib.hid (fun W x (hW : RGraphAt W x (madeR l)) => rbase_calls W x _ hW (by omega) hrp hpr a b)
    rw [(hsy.baseR (made_nz l) a b).1, (hsy.baseR (made_nz l) a b).2] at HRBA
    have HIS := Lib.hid (fun W p m (hW : GraphAt W p m (madeL l)) => is_calls W p m _ hW hg2.lok (by omega) a b)
    have HRIS := Lib.hid (fun W x (hW : RGraphAt W x (madeR l)) => ris_calls W x _ hW (by omega) hrp hpr a b)
    rw [hsy.isR] at HRIS
    have HBS := Lib.hid (fun W p m (hW : GraphAt W p m (madeL l)) => bases_calls W p m _ hW hg2.lok (by omega) HNM.out a b)
    have HRBS := Lib.hid (fun W x (hW : RGraphAt W x (madeR l)) => rbases_calls W x _ hW (by omega) hrp hpr a b)
    rw [hsy.basesR] at HRBS
    have HRE := Lib.hid (fun W p m (hW : GraphAt W p m (madeL l)) => Reach_calls (W.alloc (.cells #[.int .u64 a, .int .u64 b] 24)) p m _ (hW.below (bel_al0 (Below.refl _ _) _)) hg2.lok (by omega) HNM.out (some ⟨W.heap.size, 0, none⟩) 2 2 [a, b] rfl (flat_two' W a b) (fun e => by cases e) (by omega))
    have HRRE := Lib.hid (fun W x (hW : RGraphAt W x (madeR l)) => rreach_calls (W.alloc (.cells #[.int .u64 a, .int .u64 b] 24)) x _ (hW.below (bel_al0 (Below.refl _ _) _)) (by omega) hrp hpr (some ⟨W.heap.size, 0, none⟩) 2 2 [a, b] rfl (flat_two' W a b) (by omega))
    rw [hsy.reach hg2.lok] at HRRE
    have HLO := Lib.hid (fun W p m (hW : GraphAt W p m (madeL l)) => O.log_calls W (some ⟨p, 0, none⟩) _ _ hW.gp hsy (by omega) a most)
    have HRLO := Lib.hid (fun W x (hW : RGraphAt W x (madeR l)) => rlog_calls W x _ hW (by omega) hrp hpr a most)
    have HSA := Lib.hid (fun cs ls (hc : O.LogIs (madeL l) a most cs) hp hr => log_same hsy (id := a) (most := most) (cs := cs) (l := ls) hc hp hr)
    have hcs : ∀ cs, O.LogIs (madeL l) a most cs → cs.length ≤ 25 ∧ ∀ c ∈ cs, c.par.length ≤ 1000000 := fun cs hc => by
      refine ⟨?_, fun c hcc => ?_⟩
      · have := nodup_le2 hc.nodup (b := mkeys (madeL l)) (fun x hx => by
          obtain ⟨c, hcc, rfl⟩ := List.mem_map.1 hx
          exact mem_keys.1 (hc.mem c hcc).1.of)
        have h3 : (mkeys (madeL l)).length = (madeL l).length := by simp [mkeys]
        rw [List.length_map] at this
        omega
      · obtain ⟨h1, h2⟩ := hc.mem c hcc
        obtain ⟨d, hd⟩ := Option.isSome_iff_exists.1 h1.of
        rw [gGet_at hd] at h2
        have := (hsy.two _ d hd).1
        rw [h2]; omega
    have HCS := Lib.hid hcs
    have hbl := basesL_len hg2.lok a b
    have hrl := reachL_len hg2.lok [a, b]
    unfold MadePost at HM
    unfold NumsOwn at HBS HRBS HRE HRRE
    unfold O.LogPost at HLO
    unfold RLogPost at HRLO
    obtain ⟨L, hL⟩ : ∃ L, L = madeL l := ⟨_, rfl⟩
    obtain ⟨R, hR⟩ : ∃ R, R = madeR l := ⟨_, rfl⟩
    rw [← hL, ← hR] at HM HSA
    rw [← hL] at HBA HIS HBS HRE HLO HCS hbl hrl
    rw [← hL] at HRBA HRIS HRBS HRRE
    rw [← hR] at HRBA HRIS HRBS HRRE HRLO
    rw [← hL] at hlen
    obtain ⟨z, hz⟩ : ∃ z, z = (baseC L a b).id := ⟨_, rfl⟩
    obtain ⟨zb, hzb⟩ : ∃ zb, zb = !(z == 0) := ⟨_, rfl⟩
    rw [← hz, ← hzb] at HBA HRBA
    obtain ⟨ib, hib⟩ : ∃ ib, ib = isB L a b := ⟨_, rfl⟩
    rw [← hib] at HIS HRIS
    obtain ⟨BS, hBS⟩ : ∃ BS, BS = basesL L a b := ⟨_, rfl⟩
    rw [← hBS] at HBS HRBS hbl
    obtain ⟨nb, hnb⟩ : ∃ nb, nb = BS.length := ⟨_, rfl⟩
    rw [← hnb] at HBS HRBS hbl
    have HNB := Lib.hid hnb
    obtain ⟨RE, hRE⟩ : ∃ RE, RE = reachL L [a, b] := ⟨_, rfl⟩
    rw [← hRE] at HRE HRRE hrl
    obtain ⟨ne, hne⟩ : ∃ ne, ne = RE.length := ⟨_, rfl⟩
    rw [← hne] at HRE HRRE hrl
    have HNE := Lib.hid hne
    have HS1 := Lib.hid (fun W A B k k' (h1 : Flat W A (nums BS)) (h2 : Flat W B (nums BS)) => same_calls W A B nb nb k k' BS BS HNB.out.symm HNB.out.symm h1 h2 (by omega) (by omega))
    have HS2 := Lib.hid (fun W A B k k' (h1 : Flat W A (nums RE)) (h2 : Flat W B (nums RE)) => same_calls W A B ne ne k k' RE RE HNE.out.symm HNE.out.symm h1 h2 (by omega) (by omega))
    have ht1 : decide (BS = BS) = true := by simp
    have ht2 : decide (RE = RE) = true := by simp
    rw [ht1] at HS1
    rw [ht2] at HS2
    clear hL hR hz hzb hib hBS hnb hRE hne hg2 hsy hlen hrlen hfew h HNM hpr hrp ht1 ht2 hcs hbl hrl
    go_enter Try.func11, Try.ntmps11
    go_wp2_with (first
      | (go_at_call 43; refine (awake15_calls _).mono ?_; rintro e w1 ⟨rfl, hb1⟩)
      | (go_at_call 25; refine (HF.out _ hb1).mono ?_; rintro e w2 ⟨rfl, hb2⟩)
      | (go_at_call 26; refine (HM.out _ (bel_tr hb1 hb2)).mono ?_; rintro e w3 ⟨p, m, x, rfl, hg3, hr3, hb3, _, _, _⟩; have HG := Lib.hid hg3; clear hg3; have HRG := Lib.hid hr3; clear hr3; have hbw3 : Below w.heap.size w w3 := bel_tr (bel_tr hb1 hb2) hb3)
      | (go_at_call 49; refine (HBA.out _ p m HG.out).mono ?_; rintro e u1 ⟨rfl, d1⟩)
      | (go_at_call 55; refine (HRBA.out _ x (HRG.out.below d1)).mono ?_; rintro e u2 ⟨rfl, d2⟩; have d12 := bel_tr d1 d2)
      | (go_at_call 50; refine (HIS.out _ p m (HG.out.below d12)).mono ?_; rintro e u3 ⟨rfl, d3⟩; have d13 := bel_tr d12 d3)
      | (go_at_call 56; refine (HRIS.out _ x (HRG.out.below d13)).mono ?_; rintro e u4 ⟨rfl, d4⟩; have d14 := bel_tr d13 d4)
      | (go_at_call 57; refine (HBS.out _ p m (HG.out.below d14)).mono ?_; rintro e u5 ⟨y5, rfl, o5, d5⟩; obtain ⟨B5, j5, rfl, _⟩ := own_form o5; have G5 := Lib.hid (own_flat o5); clear o5; have d15 := bel_tr d14 d5)
      | (go_at_call 58; refine (HRBS.out _ x (HRG.out.below d15)).mono ?_; rintro e u6 ⟨y6, rfl, o6, d6⟩; obtain ⟨B6, j6, rfl, _⟩ := own_form o6; have G6 := Lib.hid (own_flat o6); clear o6; have d16 := bel_tr d15 d6)
      | (go_at_call 29; refine (HS1.out _ B5 B6 j5 j6 (G5.out.below d6) G6.out).mono ?_; clear HS1; rintro e u7 ⟨rfl, d7⟩; have d17 := bel_tr d16 d7)
      | (go_at_call 59; refine (HRE.out _ p m (HG.out.below d17)).mono ?_; rintro e u8 ⟨y8, rfl, o8, d8⟩; obtain ⟨B8, j8, rfl, _⟩ := own_form o8; have G8 := Lib.hid (own_flat o8); clear o8; have d18 := bel_tr d17 (bel_tr (bel_al0 (Below.refl _ _) _) d8))
      | (go_at_call 60; refine (HRRE.out _ x (HRG.out.below d18)).mono ?_; rintro e u9 ⟨y9, rfl, o9, d9⟩; obtain ⟨B9, j9, rfl, _⟩ := own_form o9; have G9 := Lib.hid (own_flat o9); clear o9; have d89 := bel_tr (bel_al0 (Below.refl _ u8) (.cells #[.int .u64 a, .int .u64 b] 24)) d9; have d19 := bel_tr d18 d89)
      | (go_at_call 29; refine (HS2.out _ B8 B9 j8 j9 (G8.out.below d89) G9.out).mono ?_; clear HS2; rintro e u10 ⟨rfl, d10⟩; have d110 := bel_tr d19 d10)
      | (go_at_call 62; refine (HLO.out _ p m (HG.out.below d110)).mono ?_; rintro e u11 ⟨B11, j11, cs, rfl, k11, r11, l11, d11⟩; have R11 := Lib.hid r11; have L11 := Lib.hid l11; clear r11 l11 k11; have d111 := bel_tr d110 d11; obtain ⟨nc, hnc⟩ : ∃ nc, nc = cs.length := ⟨_, rfl⟩; rw [← hnc]; have HNC := Lib.hid hnc; clear hnc)
      | (go_at_call 63; refine (HRLO.out _ x (HRG.out.below d111)).mono ?_; rintro e u12 ⟨B12, j12, ls, rfl, r12, p12, s12, d12'⟩; have hsm := HSA.out cs ls L11.out p12 s12; rw [← hsm] at r12 ⊢; rw [← HNC.out]; have R12 := Lib.hid r12; clear hsm r12 p12 s12; have HSC := Lib.hid (sameCommits_yes u12 B11 B12 nc j11 j12 cs HNC.out.symm (R11.out.below d12') R12.out (HCS.out cs L11.out).2 (by rw [HNC.out]; exact Nat.le_trans (HCS.out cs L11.out).1 (by omega))))
      | (go_at_call 61; refine HSC.out.mono ?_; rintro e u13 ⟨rfl, d13'⟩))
    go_ret
    exact ⟨rfl, bel_tr hbw3 (bel_tr (bel_tr d111 d12') d13')⟩
  · have hfew' : few l = false := by simpa using hfew
    rw [hfew'] at HF
    clear hfew hfew' h
    go_enter Try.func11, Try.ntmps11
    go_wp2_with (first | (go_at_call 43; refine (awake15_calls _).mono ?_; rintro e w1 ⟨rfl, hb1⟩) | (go_at_call 25; refine (HF.out _ hb1).mono ?_; rintro e w2 ⟨rfl, hb2⟩))
    go_ret
    exact ⟨rfl, bel_tr hb1 hb2⟩
theorem graphBases_all (w : World) (A : Option Addr) (n k : Nat) (l : List CommitD) (h : CIn w A n l) (a : Int) (_ : (Lit.int .u64 a).wf = true) (b : Int) (_ : (Lit.int .u64 b).wf = true) (most : Int) (_ : (Lit.int .i64 most).wf = true) :
    Calls Try.prog 11 #[.slice A n k, .int .u64 a, .int .u64 b, .int .i64 most] w fun e w' => e = .returned (.bool true) ∧ Below w.heap.size w w' := graphBases_calls w A n k l h a b most
end Go.Proofs.Ytehneliphhgegaa
