/- The law WalkPaths, walked. -/
import Derived.Test.YtehneliphhgegaaPlainFar
set_option linter.unusedVariables false
set_option linter.unusedSimpArgs false
set_option maxRecDepth 100000
namespace Go.Proofs.Ytehneliphhgegaa
open Go.RowKit Go.Apo

/-- the chapter's example -/
def ex30 : List CommitD := [⟨1, [], 1, 0, ⟨#[]⟩⟩, ⟨2, [1], 2, 0, ⟨#[]⟩⟩]
theorem ex30_path : codePath (madeL ex30) 1 2 = [2, 1] := by decide +kernel
theorem ex30_few : few ex30 = true := by decide +kernel
theorem ex30_in (w : World) : CIn ((w.alloc (.cells #[.int .u64 1] 24)).alloc (.cells #[.int .u64 1, .slice none 0 0, .int .u64 1, .int .u64 0, .string ⟨#[]⟩, .int .u64 2, .slice (some ⟨w.heap.size, 0, none⟩) 1 1, .int .u64 2, .int .u64 0, .string ⟨#[]⟩] 69)) (some ⟨w.heap.size + 1, 0, none⟩) 2 ex30 := by
  have hf : Flat ((w.alloc (.cells #[.int .u64 1] 24)).alloc (.cells #[.int .u64 1, .slice none 0 0, .int .u64 1, .int .u64 0, .string ⟨#[]⟩, .int .u64 2, .slice (some ⟨w.heap.size, 0, none⟩) 1 1, .int .u64 2, .int .u64 0, .string ⟨#[]⟩] 69)) (some ⟨w.heap.size, 0, none⟩) (nums [1]) := by
    refine Flat.below (w := w.alloc (.cells #[.int .u64 1] 24)) (fun _ => ⟨w.heap.size, 0, rfl, fun j u hj => ?_⟩) (by (repeat (first | (with_reducible exact Below.refl _ _) | (with_reducible assumption) | (with_reducible refine bel_al0 ?_ _) | (with_reducible refine bel_set ?_ (by first | (simp; done) | (simp; omega)) _) | (with_reducible refine bel_dr ?_) | (with_reducible refine bel_drn ?_ _) | (with_reducible refine bel_tr ?_ (by assumption)))))
    cases j with
    | zero => simp [nums] at hj; subst hj; exact cell_at_new w _ _ 0 rfl
    | succ j => simp [nums] at hj
  refine ⟨rfl, ⟨[.int .u64 1, .slice none 0 0, .int .u64 1, .int .u64 0, .string ⟨#[]⟩, .int .u64 2, .slice (some ⟨w.heap.size, 0, none⟩) 1 1, .int .u64 2, .int .u64 0, .string ⟨#[]⟩], ⟨⟨none, 0, rfl, Flat.nil _ _, fun _ => rfl⟩, ⟨some ⟨w.heap.size, 0, none⟩, 1, rfl, hf, (fun e => by cases e)⟩, trivial⟩, fun _ => ⟨w.heap.size + 1, 0, rfl, fun j u hj => ?_⟩⟩, by omega, ?_⟩
  · have := cell_at_new (w.alloc (.cells #[.int .u64 1] 24)) #[.int .u64 1, .slice none 0 0, .int .u64 1, .int .u64 0, .string ⟨#[]⟩, .int .u64 2, .slice (some ⟨w.heap.size, 0, none⟩) 1 1, .int .u64 2, .int .u64 0, .string ⟨#[]⟩] 69 j (v := u) (by rw [← Array.getElem?_toList]; exact hj)
    rw [Nat.zero_add]
    have hz : (w.alloc (.cells #[.int .u64 1] 24)).heap.size = w.heap.size + 1 := by simp
    rw [hz] at this
    exact this
  · intro c hc
    simp only [ex30, List.mem_cons, List.not_mem_nil, or_false] at hc
    rcases hc with rfl | rfl <;> simp [u64ok]

theorem awake30_calls (w : World) :
    Calls Try.prog 24 #[] w fun e w' => e = .returned (.bool true) ∧ Below w.heap.size w w' := by
  have hin := ex30_in w
  have HM := Lib.hid (made_calls _ _ 2 2 ex30 hin ex30_few)
  clear hin
  have hsy := made_sync ex30
  have hln := made_len ex30
  have HC := Lib.hid hsy.closed
  have HLN := Lib.hid (show (madeL ex30).length ≤ 100000 by simp [ex30] at hln; exact Nat.le_trans hln (by omega))
  clear hsy hln
  have HP := Lib.hid ex30_path
  go_enter Try.func24, Try.ntmps24
  go_wp2_with (first | (go_at_call 26; refine HM.out.mono ?_; rintro e w1 ⟨p, m, x, rfl, hg1, hr1, hb1, hl1, hl2, hl3⟩; have HG := Lib.hid hg1; clear hg1 hr1) | (go_at_call 30; refine (path_calls _ p m _ HG.out HC.out HLN.out 1 2).mono ?_; rw [HP.out]; rintro e w2 ⟨A, k, rfl, hf2, hb2⟩; obtain ⟨b, off, rfl, c0⟩ := hf2.at_ (j := 0) (u := .int .u64 2) rfl; rw [Nat.add_zero] at c0; obtain ⟨b', off', e', c1⟩ := hf2.at_ (j := 1) (u := .int .u64 1) rfl; simp only [Option.some.injEq, Addr.mk.injEq, and_true] at e'; obtain ⟨rfl, rfl⟩ := e'; clear hf2; simp only [List.length_cons, List.length_nil]))
  go_ret
  exact ⟨rfl, by (repeat (first | (with_reducible exact Below.refl _ _) | (with_reducible assumption) | (with_reducible refine bel_al0 ?_ _) | (with_reducible refine bel_set ?_ (by first | (simp; done) | (simp; omega)) _) | (with_reducible refine bel_dr ?_) | (with_reducible refine bel_drn ?_ _) | (with_reducible refine bel_tr ?_ (by assumption))))⟩
theorem pathRun_len (L : List (Int × CommitD)) (old : Int) : ∀ (k : Nat) (out : List Int), (pathRun L old k out).length ≤ out.length + k
  | 0, out => by simp [pathRun]
  | k + 1, out => by
    simp only [pathRun]
    split
    · rename_i p _
      have := pathRun_len L old k (out ++ [p])
      rw [List.length_append] at this
      simp at this
      omega
    · have := pathRun_len L old k out
      omega
theorem codePath_len {L : List (Int × CommitD)} (hC : Closed L) (old late : Int) : (codePath L old late).length ≤ L.length + 1 := by
  unfold codePath
  cases h : codeFar L old late with
  | none => simp
  | some d =>
    have := codeFar_bound hC h
    have := pathRun_len L old d.toNat [late]
    simp at this ⊢
    omega
set_option maxHeartbeats 4000000 in
theorem walkPaths_calls (w : World) (A : Option Addr) (n k : Nat) (l : List CommitD) (h : CIn w A n l) (old late : Int) :
    Calls Try.prog 4 #[.slice A n k, .int .u64 old, .int .u64 late] w fun e w' => e = .returned (.bool true) ∧ Below w.heap.size w w' := by
  have HF := Lib.hid (fun W (hW : Below w.heap.size w W) => few15_calls W A n k l (h.below hW))
  by_cases hfew : few l = true
  · rw [hfew] at HF
    have HM := Lib.hid (fun W (hW : Below w.heap.size w W) => made_calls W A n k l (h.below hW) hfew)
    have hn : l.length ≤ 25 := by
      unfold few at hfew
      rw [Bool.and_eq_true, decide_eq_true_iff] at hfew
      exact hfew.2
    have hsy := made_sync l
    have hln := made_len l
    have HC := Lib.hid hsy.closed
    have HRC := Lib.hid hsy.rclosed
    have HLN := Lib.hid (show (madeL l).length ≤ 100000 by omega)
    have HRN := Lib.hid (show (madeR l).length ≤ 100000 by rw [hsy.len]; omega)
    have hfar := far_same hsy old late
    have HPS := Lib.hid (path_same hsy old late)
    have hpl : (codePath (madeL l) old late).length ≤ 1000000000000 := by
      have := codePath_len hsy.closed old late
      have := HLN.out
      omega
    obtain ⟨cp, hcp⟩ : ∃ cp, cp = codePath (madeL l) old late := ⟨_, rfl⟩
    obtain ⟨cf, hcf⟩ : ∃ cf, cf = codeFar (madeL l) old late := ⟨_, rfl⟩
    obtain ⟨rf, hrf⟩ : ∃ rf, rf = refFar (madeR l) old late := ⟨_, rfl⟩
    have HCF := Lib.hid (fun W p m (hW : GraphAt W p m (madeL l)) => Far_calls W p m _ hW HC.out HLN.out old late)
    have HRF := Lib.hid (fun W x (hW : RGraphAt W x (madeR l)) => refFar_calls W x _ hW HRC.out HRN.out old late)
    have HCP := Lib.hid (fun W p m (hW : GraphAt W p m (madeL l)) => path_calls W p m _ hW HC.out HLN.out old late)
    have HRP := Lib.hid (fun W x (hW : RGraphAt W x (madeR l)) => refPath_calls W x _ hW HRC.out HRN.out old late)
    unfold NumsPost at HCP
    unfold RNumsPost at HRP
    rw [← HPS.out] at HRP
    rw [← hcp] at HCP HRP hpl
    rw [← hcf] at HCF hfar
    rw [← hrf] at HRF hfar
    obtain ⟨np, hnp⟩ : ∃ np, np = cp.length := ⟨_, rfl⟩
    rw [← hnp] at HCP HRP hpl
    have HNP := Lib.hid hnp.symm; clear hnp
    clear hcp hcf hrf HPS hsy hln hn hfew h
    have HSN := Lib.hid (fun W A B k k' (h1 : Flat W A (nums cp)) (h2 : Flat W B (nums cp)) => same_calls W A B np np k k' cp cp HNP.out HNP.out h1 h2 hpl hpl)
    have hcc : decide (cp = cp) = true := by simp
    rw [hcc] at HSN
    clear hcc
    obtain ⟨cv, hcv⟩ : ∃ cv, cv = cf.getD 0 := ⟨_, rfl⟩
    obtain ⟨cb, hcb⟩ : ∃ cb, cb = cf.isSome := ⟨_, rfl⟩
    have g1 : (cb == decide ((0 : Int) ≤ rf)) = true := by
      rcases hfar with ⟨rfl, rfl⟩ | ⟨d, rfl, rfl⟩
      · subst hcb; decide
      · subst hcb; simp
    have g2 : (cv == max rf 0) = true := by
      rcases hfar with ⟨rfl, rfl⟩ | ⟨d, rfl, rfl⟩
      · subst hcv; decide
      · subst hcv; simp
    rw [← hcv, ← hcb] at HCF
    clear hcv hcb hfar
    go_enter Try.func4, Try.ntmps4
    go_wp2_with (first | (go_at_call 24; refine (awake30_calls _).mono ?_; rintro e w1 ⟨rfl, hb1⟩) | (go_at_call 25; refine (HF.out _ hb1).mono ?_; rintro e w2 ⟨rfl, hb2⟩) | (go_at_call 26; refine (HM.out _ (bel_tr hb1 hb2)).mono ?_; rintro e w3 ⟨p, m, x, rfl, hg3, hr3, hb3, _, _, _⟩; have HG := Lib.hid hg3; clear hg3; have HRG := Lib.hid hr3; clear hr3) | (go_at_call 27; refine (HCF.out _ p m HG.out).mono ?_; rintro e w4 ⟨rfl, hb4⟩) | (go_at_call 28; refine (HRF.out _ x (HRG.out.below hb4)).mono ?_; rintro e w5 ⟨rfl, hb5⟩) | (go_at_call 30; refine (HCP.out _ p m (HG.out.below (bel_tr hb4 hb5))).mono ?_; rintro e w6 ⟨A6, k6, rfl, hf6, hb6⟩; have HF6 := Lib.hid hf6; clear hf6) | (go_at_call 31; refine (HRP.out _ x (HRG.out.below (bel_tr (bel_tr hb4 hb5) hb6))).mono ?_; rintro e w7 ⟨A7, k7, rfl, hf7, hb7⟩; have HF7 := Lib.hid hf7; clear hf7) | (go_at_call 29; refine (HSN.out _ A6 A7 k6 k7 (HF6.out.below hb7) HF7.out).mono ?_; rintro e w8 ⟨rfl, hb8⟩))
    go_ret
    exact ⟨rfl, by (repeat (first | (with_reducible exact Below.refl _ _) | (with_reducible assumption) | (with_reducible refine bel_al0 ?_ _) | (with_reducible refine bel_set ?_ (by first | (simp; done) | (simp; omega)) _) | (with_reducible refine bel_dr ?_) | (with_reducible refine bel_drn ?_ _) | (with_reducible refine bel_tr ?_ (by assumption))))⟩
  · have hfew' : few l = false := by simpa using hfew
    rw [hfew'] at HF
    clear hfew hfew' h
    go_enter Try.func4, Try.ntmps4
    go_wp2_with (first | (go_at_call 24; refine (awake30_calls _).mono ?_; rintro e w1 ⟨rfl, hb1⟩) | (go_at_call 25; refine (HF.out _ hb1).mono ?_; rintro e w2 ⟨rfl, hb2⟩))
    go_ret
    exact ⟨rfl, bel_tr hb1 hb2⟩
theorem walkPaths_all (w : World) (A : Option Addr) (n k : Nat) (l : List CommitD) (h : CIn w A n l) (old : Int) (_ : (Lit.int .u64 old).wf = true) (late : Int) (_ : (Lit.int .u64 late).wf = true) :
    Calls Try.prog 4 #[.slice A n k, .int .u64 old, .int .u64 late] w fun e w' => e = .returned (.bool true) ∧ Below w.heap.size w w' := walkPaths_calls w A n k l h old late
end Go.Proofs.Ytehneliphhgegaa
