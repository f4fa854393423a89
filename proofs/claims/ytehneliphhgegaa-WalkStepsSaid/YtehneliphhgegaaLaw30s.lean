/- The law WalkSteps: walked. -/
import Derived.Test.YtehneliphhgegaaPlainSteps
import Derived.Test.YtehneliphhgegaaLineAll
import Derived.Test.YtehneliphhgegaaLaw15a
import Derived.Test.YtehneliphhgegaaWalkPaths
set_option linter.unusedVariables false
set_option linter.unusedSimpArgs false
set_option maxRecDepth 100000
namespace Go.Proofs.Ytehneliphhgegaa
open Go.RowKit Go.Apo

set_option maxHeartbeats 8000000 in
theorem walkSteps_calls (w : World) (A : Option Addr) (n k : Nat) (l : List CommitD) (h : CIn w A n l) (old late : Int) :
    Calls Try.prog 16 #[.slice A n k, .int .u64 old, .int .u64 late] w fun e w' => e = .returned (.bool true) ∧ Below w.heap.size w w' := by
  have HF := Lib.hid (fun W (hW : Below w.heap.size w W) => few15_calls W A n k l (h.below hW))
  by_cases hfew : few l = true
  · rw [hfew] at HF
    have HM := Lib.hid (fun W (hW : Below w.heap.size w W) => made_calls W A n k l (h.below hW) hfew)
    have hg2 := graph2 hfew
    have hsy := hg2.sync
    have hlen := hg2.len
    have hto := hg2.lok.two
    have HGE := Lib.hid (fun W p m (hW : GraphAt W p m (madeL l)) => gget_calls p m W _ hW)
    have HIS := Lib.hid (fun W p m (hW : GraphAt W p m (madeL l)) => is_calls W p m _ hW hg2.lok (by have := hg2.len; omega) old late)
    have HCF := Lib.hid (fun W p m (hW : GraphAt W p m (madeL l)) => Far_calls W p m _ hW hsy.closed (by omega) old late)
    have HCP := Lib.hid (fun W p m (hW : GraphAt W p m (madeL l)) => path_calls W p m _ hW hsy.closed (by omega) old late)
    rw [← far_is hsy hg2.lok] at HIS
    have HTWO : Hid (∀ i, (gGet (madeL l) i).par.length ≤ 2) := fun i => by
      unfold gGet
      cases hq : mget (madeL l) i with
      | none => simp [CommitD.zero]
      | some c => exact hto i c hq
    unfold MadePost at HM
    unfold NumsPost at HCP
    unfold GetOwn at HGE
    cases hcf : codeFar (madeL l) old late with
    | none =>
      have hcp : codePath (madeL l) old late = [] := by unfold codePath; rw [hcf]
      rw [hcf] at HIS HCF
      rw [hcp] at HCP
      simp only [Option.getD_none, Option.isSome_none, List.length_nil] at HIS HCF HCP
      obtain ⟨L, hL⟩ : ∃ L, L = madeL l := ⟨_, rfl⟩
      rw [← hL] at HM HGE HIS HCF HCP
      clear hcf hcp hto hlen hsy hg2 hfew h hL
      go_enter Try.func16, Try.ntmps16
      go_wp2_with (first | (go_at_call 24; refine (awake30_calls _).mono ?_; rintro e w1 ⟨rfl, hb1⟩) | (go_at_call 25; refine (HF.out _ hb1).mono ?_; rintro e w2 ⟨rfl, hb2⟩) | (go_at_call 26; refine (HM.out _ (bel_tr hb1 hb2)).mono ?_; rintro e w3 ⟨p, m, x, rfl, hg3, _, hb3, _, _, _⟩; have HG := Lib.hid hg3; clear hg3) | (go_at_call 30; refine (HCP.out _ p m HG.out).mono ?_; rintro e w4 ⟨A4, k4, rfl, hf4, hb4⟩; have HF4 := Lib.hid hf4; clear hf4) | (go_at_call 27; refine (HCF.out _ p m (HG.out.below hb4)).mono ?_; rintro e w5 ⟨rfl, hb5⟩) | (go_at_call 50; refine (HIS.out _ p m ((HG.out.below hb4).below hb5)).mono ?_; rintro e w6 ⟨rfl, hb6⟩))
      go_ret
      exact ⟨rfl, by (repeat (first | (with_reducible exact Below.refl _ _) | (with_reducible assumption) | (with_reducible refine bel_al0 ?_ _) | (with_reducible refine bel_set ?_ (by first | (simp; done) | (simp; omega)) _) | (with_reducible refine bel_dr ?_) | (with_reducible refine bel_drn ?_ _) | (with_reducible refine bel_tr ?_ (by assumption))))⟩
    | some dz =>
      have hbd := codeFar_bound hsy.closed hcf
      obtain ⟨d, rfl⟩ : ∃ d : Nat, dz = (d : Int) := ⟨dz.toNat, by omega⟩
      obtain ⟨p1, p2, p3, p4⟩ := codePath_spec hsy hcf
      rw [hcf] at HIS HCF
      simp only [Option.getD_some, Option.isSome_some] at HIS HCF
      obtain ⟨L, hL⟩ : ∃ L, L = madeL l := ⟨_, rfl⟩
      rw [← hL] at HM HGE HIS HCF HCP p1 p2 p3 p4 HTWO
      obtain ⟨P, hP⟩ : ∃ P, P = codePath L old late := ⟨_, rfl⟩
      rw [← hP] at HCP p1 p2 p3 p4
      rw [p1] at HCP
      have hd25 : d ≤ 25 := by omega
      have P1 := Lib.hid p1; clear p1
      have P2 := Lib.hid p2; clear p2
      have P3 := Lib.hid p3; clear p3
      have P4 := Lib.hid p4; clear p4
      clear hcf hto hlen hsy hg2 hfew h hL hP hbd
      go_enter Try.func16, Try.ntmps16
      go_wp2_with (first | (go_at_call 24; refine (awake30_calls _).mono ?_; rintro e w1 ⟨rfl, hb1⟩) | (go_at_call 25; refine (HF.out _ hb1).mono ?_; rintro e w2 ⟨rfl, hb2⟩) | (go_at_call 26; refine (HM.out _ (bel_tr hb1 hb2)).mono ?_; rintro e w3 ⟨p, m, x, rfl, hg3, _, hb3, _, _, _⟩; have HG := Lib.hid hg3; clear hg3) | (go_at_call 30; refine (HCP.out _ p m HG.out).mono ?_; rintro e w4 ⟨A4, k4, rfl, hf4, hb4⟩; have HF4 := Lib.hid hf4; clear hf4) | (go_at_call 27; refine (HCF.out _ p m (HG.out.below hb4)).mono ?_; rintro e w5 ⟨rfl, hb5⟩) | (go_at_call 50; refine (HIS.out _ p m ((HG.out.below hb4).below hb5)).mono ?_; rintro e w6 ⟨rfl, hb6⟩))
      have HG6 := Lib.hid (((HG.out.below hb4).below hb5).below hb6)
      have HF6 := Lib.hid ((HF4.out.below hb5).below hb6)
      have hw6 : Below w.heap.size w w6 := bel_tr (bel_tr (bel_tr (bel_tr (bel_tr hb1 hb2) hb3) hb4) hb5) hb6
      clear hb1 hb2 hb3 hb4 hb5 hb6 HF4 HG HF HM HCF HIS HCP
      obtain ⟨bp, offp, rfl, _⟩ := HF6.out.at_ (nums_at P3.out)
      go_loopw [13] (fun v wr => ∃ q : Nat, q ≤ d ∧ v = .int .i64 ((q + 1 : Nat) : Int) ∧ Below w6.heap.size w6 wr) (fun v _ => d + 1 - (intOf v).toNat)
      case atStart => exact ⟨0, Nat.zero_le _, rfl, Below.refl _ _⟩
      case round =>
        obtain ⟨q, hq, rfl, hB⟩ := hrel
        obtain ⟨wo, rfl⟩ : ∃ wo : World, wo = wr := ⟨_, rfl⟩
        have HFo := Lib.hid (HF6.out.below hB)
        by_cases hlt : q < d
        · have hpl := P1.out
          obtain ⟨a, ha⟩ : ∃ a, P[q]? = some a := ⟨_, List.getElem?_eq_getElem (by omega)⟩
          obtain ⟨b, hb⟩ : ∃ b, P[q + 1]? = some b := ⟨_, List.getElem?_eq_getElem (by omega)⟩
          have hmem := P2.out q a b ha hb
          obtain ⟨x1, x2, e1, ca⟩ := HFo.out.at_ (nums_at ha)
          cases e1
          obtain ⟨x1, x2, e1, cb⟩ := HFo.out.at_ (nums_at hb)
          cases e1
          have hbl := cell_lt ca
          have HGa := Lib.hid (HGE.out wo p m (HG6.out.below hB) a)
          have h2 := HTWO.out a
          obtain ⟨c, hc⟩ : ∃ c, c = gGet L a := ⟨_, rfl⟩
          rw [← hc] at HGa hmem h2
          obtain ⟨np, hnp⟩ : ∃ np, np = c.par.length := ⟨_, rfl⟩
          rw [← hnp] at HGa h2
          have HNP := Lib.hid hnp
          have HME := Lib.hid hmem
          clear hnp hmem hc ha hb hpl
          go_wp2_with (go_at_call 44; refine HGa.out.mono ?_; rintro e w7 ⟨A7, k7, rfl, ho7, hb7⟩; have HF7 := Lib.hid (own_flat ho7); clear ho7)
          obtain ⟨w8, hw8⟩ : ∃ w8, w8 = w7.alloc (.cells #[.int .u64 c.id, .slice A7 np k7, .int .u64 c.gen, .int .u64 c.root, .string c.text] 69) := ⟨_, rfl⟩
          have hb8 : Below wo.heap.size wo w8 := by rw [hw8]; exact bel_al0 hb7 _
          have HF8 : Hid (Flat w8 A7 (nums c.par)) := by show Flat _ _ _; rw [hw8]; exact HF7.out.below (bel_al0 (Below.refl _ _) _)
          have cb8 := cell_bel cb hb8
          rw [← hw8]
          clear hw8
          have hb78 : bp < w8.heap.size := cell_lt cb8
          go_loopw [81, 16] (fun v s w' => ∃ j : Nat, ∃ sb : Bool, j ≤ np ∧ v = .int .i64 j ∧ s = .bool sb ∧ Hid (sb = (c.par.take j).any fun k => k == b) ∧ Below w8.heap.size w8 w') (fun v _ _ => np - (intOf v).toNat)
          case atStart => exact ⟨0, false, Nat.zero_le _, rfl, rfl, rfl, Below.refl _ _⟩
          case round =>
            obtain ⟨j, sb, hj, rfl, rfl, hsb, hBj⟩ := hrel
            have cb9 := cell_bel cb8 hBj
            have hb79 : bp < wr.heap.size := cell_lt cb9
            by_cases hlj : j < np
            · obtain ⟨pj, hpj⟩ : ∃ pj, c.par[j]? = some pj := ⟨_, List.getElem?_eq_getElem (by rw [← HNP.out]; exact hlj)⟩
              obtain ⟨b2, off2, rfl, cq⟩ := HF8.out.at_ (nums_at hpj)
              replace cq := cell_bel cq hBj
              have hbq := cell_lt cq
              have hnew : Hid ((sb || (pj == b)) = (c.par.take (j + 1)).any fun k => k == b) := by
                show _ = _
                rw [List.take_add_one, hpj, Option.toList_some, List.any_append, ← hsb.out]; simp
              clear hpj
              cases sb with
              | true =>
                go_wp2_with fail
                go_roundw
                case rel => exact ⟨j + 1, true, by omega, by go_num, rfl, hnew, by (repeat (first | (with_reducible exact Below.refl _ _) | (with_reducible assumption) | (with_reducible refine bel_al0 ?_ _) | (with_reducible refine bel_set ?_ (by first | (simp; done) | (simp; omega)) _) | (with_reducible refine bel_dr ?_) | (with_reducible refine bel_drn ?_ _) | (with_reducible refine bel_tr ?_ (by assumption))))⟩
                case measure => simp [intOf]; omega
              | false =>
                obtain ⟨y, hy⟩ : ∃ y, y = (pj == b) := ⟨_, rfl⟩
                rw [Bool.false_or, ← hy] at hnew
                have hy' := hy.symm
                clear hy
                go_wp2_with fail
                go_roundw
                case rel => exact ⟨j + 1, y, by omega, by go_num, rfl, hnew, by (repeat (first | (with_reducible exact Below.refl _ _) | (with_reducible assumption) | (with_reducible refine bel_al0 ?_ _) | (with_reducible refine bel_set ?_ (by first | (simp; done) | (simp; omega)) _) | (with_reducible refine bel_dr ?_) | (with_reducible refine bel_drn ?_ _) | (with_reducible refine bel_tr ?_ (by assumption))))⟩
                case measure => simp [intOf]; omega
            · have hj' : j = np := by omega
              have htk : c.par.take j = c.par := by rw [List.take_of_length_le]; have := HNP.out; omega
              have hst : sb = true := by
                rw [hsb.out, htk, List.any_eq_true]
                exact ⟨b, HME.out, by simp⟩
              subst hst
              clear htk hsb
              go_wp2_with fail
              go_roundw
              case rel => exact ⟨q + 1, by omega, by go_num, bel_tr hB (bel_tr hb8 (by (repeat (first | (with_reducible exact Below.refl _ _) | (with_reducible assumption) | (with_reducible refine bel_al0 ?_ _) | (with_reducible refine bel_set ?_ (by first | (simp; done) | (simp; omega)) _) | (with_reducible refine bel_dr ?_) | (with_reducible refine bel_drn ?_ _) | (with_reducible refine bel_tr ?_ (by assumption))))))⟩
              case measure => simp [intOf]; omega
        · have hq' : q = d := by omega
          subst hq'
          obtain ⟨x1, x2, e1, ca⟩ := HFo.out.at_ (nums_at P3.out)
          cases e1
          obtain ⟨x1, x2, e1, cb⟩ := HFo.out.at_ (nums_at P4.out)
          cases e1
          have hbl := cell_lt ca
          rw [Nat.add_zero] at ca
          clear hlt hq
          go_wp2_with (first | (go_at_call 69; refine (line_nil _ _).mono ?_; rintro e v1 ⟨B1, j1, rfl, d1⟩; replace cb := cell_bel cb d1) | (go_at_call 64; refine (topo_nil _ late v1.heap.size (by first | exact cell_at_new v1 _ _ 0 rfl | (have := cell_at_new v1 #[.int .u64 late] 24 0 (v := .int .u64 late) rfl; exact this))).mono ?_; rintro e v2 ⟨rfl, d2⟩) | (go_at_call 53; refine (heads_nil _).mono ?_; rintro e v3 ⟨B3, j3, rfl, d3⟩) | (go_at_call 54; refine (roots_nil _).mono ?_; rintro e v4 ⟨B4, j4, rfl, d4⟩) | (go_at_call 52; refine (kids_nil _ _).mono ?_; rintro e v5 ⟨B5, j5, rfl, d5⟩) | (go_at_call 30; refine (path_nil _ _ _).mono ?_; rintro e v6 ⟨B6, j6, rfl, d6⟩) | (go_at_call 71; refine (between_nil _ _ _).mono ?_; rintro e v7 ⟨B7, j7, rfl, d7⟩))
          go_ret
          exact ⟨rfl, bel_tr hw6 (bel_tr hB (by (repeat (first | (with_reducible exact Below.refl _ _) | (with_reducible assumption) | (with_reducible refine bel_al0 ?_ _) | (with_reducible refine bel_set ?_ (by first | (simp; done) | (simp; omega)) _) | (with_reducible refine bel_dr ?_) | (with_reducible refine bel_drn ?_ _) | (with_reducible refine bel_tr ?_ (by assumption))))))⟩
  · have hfew' : few l = false := by simpa using hfew
    rw [hfew'] at HF
    clear hfew hfew' h
    go_enter Try.func16, Try.ntmps16
    go_wp2_with (first | (go_at_call 24; refine (awake30_calls _).mono ?_; rintro e w1 ⟨rfl, hb1⟩) | (go_at_call 25; refine (HF.out _ hb1).mono ?_; rintro e w2 ⟨rfl, hb2⟩))
    go_ret
    exact ⟨rfl, bel_tr hb1 hb2⟩
theorem walkSteps_all (w : World) (A : Option Addr) (n k : Nat) (l : List CommitD) (h : CIn w A n l) (old : Int) (_ : (Lit.int .u64 old).wf = true) (late : Int) (_ : (Lit.int .u64 late).wf = true) :
    Calls Try.prog 16 #[.slice A n k, .int .u64 old, .int .u64 late] w fun e w' => e = .returned (.bool true) ∧ Below w.heap.size w w' := walkSteps_calls w A n k l h old late
end Go.Proofs.Ytehneliphhgegaa
