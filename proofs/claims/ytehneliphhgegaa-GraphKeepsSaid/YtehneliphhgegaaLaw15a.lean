/- The chapter's example; and the law GraphAdds, walked. -/
import Derived.Test.YtehneliphhgegaaAdds
set_option linter.unusedVariables false
set_option linter.unusedSimpArgs false
set_option maxRecDepth 100000
namespace Go.Proofs.Ytehneliphhgegaa
open Go.RowKit Go.Apo

def ex15 : List CommitD := [⟨1, [], 1, 0, ⟨#[]⟩⟩, ⟨2, [1], 2, 0, ⟨#[]⟩⟩, ⟨3, [1], 2, 0, ⟨#[]⟩⟩]
theorem ex15_few : few ex15 = true := by decide +kernel
theorem ex15_anc {L : List (Int × CommitD)} (hL : L = madeL ex15) : L = [(1, ⟨1, [], 1, 0, ⟨#[]⟩⟩), (2, ⟨2, [1], 2, 0, ⟨#[]⟩⟩), (3, ⟨3, [1], 2, 0, ⟨#[]⟩⟩)] := by
  subst hL
  have h1 : addE [] ⟨1, [], 1, 0, ⟨#[]⟩⟩ = 0 := by decide +kernel
  have e1 : addL [] ⟨1, [], 1, 0, ⟨#[]⟩⟩ = [(1, ⟨1, [], 1, 0, ⟨#[]⟩⟩)] := by unfold addL; rw [if_pos h1]; rfl
  have h2 : addE [(1, ⟨1, [], 1, 0, ⟨#[]⟩⟩)] ⟨2, [1], 2, 0, ⟨#[]⟩⟩ = 0 := by decide +kernel
  have e2 : addL [(1, ⟨1, [], 1, 0, ⟨#[]⟩⟩)] ⟨2, [1], 2, 0, ⟨#[]⟩⟩ = [(1, ⟨1, [], 1, 0, ⟨#[]⟩⟩), (2, ⟨2, [1], 2, 0, ⟨#[]⟩⟩)] := by unfold addL; rw [if_pos h2]; rfl
  have h3 : addE [(1, ⟨1, [], 1, 0, ⟨#[]⟩⟩), (2, ⟨2, [1], 2, 0, ⟨#[]⟩⟩)] ⟨3, [1], 2, 0, ⟨#[]⟩⟩ = 0 := by decide +kernel
  have e3 : addL [(1, ⟨1, [], 1, 0, ⟨#[]⟩⟩), (2, ⟨2, [1], 2, 0, ⟨#[]⟩⟩)] ⟨3, [1], 2, 0, ⟨#[]⟩⟩ = [(1, ⟨1, [], 1, 0, ⟨#[]⟩⟩), (2, ⟨2, [1], 2, 0, ⟨#[]⟩⟩), (3, ⟨3, [1], 2, 0, ⟨#[]⟩⟩)] := by unfold addL; rw [if_pos h3]; rfl
  unfold madeL ex15
  simp only [List.foldl_cons, List.foldl_nil, e1, e2, e3]
theorem ex15_base : (baseC (madeL ex15) 2 3).id = 1 := by
  rw [ex15_anc rfl]
  have r2 : reachS [(1, ⟨1, [], 1, 0, ⟨#[]⟩⟩), (2, ⟨2, [1], 2, 0, ⟨#[]⟩⟩), (3, ⟨3, [1], 2, 0, ⟨#[]⟩⟩)] [2] = [(2, ()), (1, ())] := by decide +kernel
  have r3 : reachS [(1, ⟨1, [], 1, 0, ⟨#[]⟩⟩), (2, ⟨2, [1], 2, 0, ⟨#[]⟩⟩), (3, ⟨3, [1], 2, 0, ⟨#[]⟩⟩)] [3] = [(3, ()), (1, ())] := by decide +kernel
  have hc : commonL [(1, ⟨1, [], 1, 0, ⟨#[]⟩⟩), (2, ⟨2, [1], 2, 0, ⟨#[]⟩⟩), (3, ⟨3, [1], 2, 0, ⟨#[]⟩⟩)] 2 3 = [1] := by
    unfold commonL
    rw [r2, r3]
    have : (mkeys [((2 : Int), ()), (1, ())]).filter (fun x => (mget [((3 : Int), ()), (1, ())] x).isSome) = [1] := by decide +kernel
    rw [this]
    simp [sortI]
  have hb : basesL [(1, ⟨1, [], 1, 0, ⟨#[]⟩⟩), (2, ⟨2, [1], 2, 0, ⟨#[]⟩⟩), (3, ⟨3, [1], 2, 0, ⟨#[]⟩⟩)] 2 3 = [1] := by
    unfold basesL
    rw [hc]
    simp [belowB]
  unfold baseC
  rw [hb]
  decide +kernel

theorem ex15_in (w : World) : CIn (((w.alloc (.cells #[.int .u64 1] 24)).alloc (.cells #[.int .u64 1] 24)).alloc (.cells #[.int .u64 1, .slice none 0 0, .int .u64 1, .int .u64 0, .string ⟨#[]⟩, .int .u64 2, .slice (some ⟨w.heap.size, 0, none⟩) 1 1, .int .u64 2, .int .u64 0, .string ⟨#[]⟩, .int .u64 3, .slice (some ⟨w.heap.size + 1, 0, none⟩) 1 1, .int .u64 2, .int .u64 0, .string ⟨#[]⟩] 69)) (some ⟨w.heap.size + 2, 0, none⟩) 3 ex15 := by
  have hz1 : (w.alloc (.cells #[.int .u64 1] 24)).heap.size = w.heap.size + 1 := by simp
  have hz2 : ((w.alloc (.cells #[.int .u64 1] 24)).alloc (.cells #[.int .u64 1] 24)).heap.size = w.heap.size + 2 := by simp
  have hf1 := ((flat_one w 1).below (bel_al0 (Below.refl _ _) (.cells #[.int .u64 1] 24))).below (bel_al0 (Below.refl _ _) (.cells #[.int .u64 1, .slice none 0 0, .int .u64 1, .int .u64 0, .string ⟨#[]⟩, .int .u64 2, .slice (some ⟨w.heap.size, 0, none⟩) 1 1, .int .u64 2, .int .u64 0, .string ⟨#[]⟩, .int .u64 3, .slice (some ⟨w.heap.size + 1, 0, none⟩) 1 1, .int .u64 2, .int .u64 0, .string ⟨#[]⟩] 69))
  have hf2 := (flat_one (w.alloc (.cells #[.int .u64 1] 24)) 1).below (bel_al0 (Below.refl _ _) (.cells #[.int .u64 1, .slice none 0 0, .int .u64 1, .int .u64 0, .string ⟨#[]⟩, .int .u64 2, .slice (some ⟨w.heap.size, 0, none⟩) 1 1, .int .u64 2, .int .u64 0, .string ⟨#[]⟩, .int .u64 3, .slice (some ⟨w.heap.size + 1, 0, none⟩) 1 1, .int .u64 2, .int .u64 0, .string ⟨#[]⟩] 69))
  rw [hz1] at hf2
  refine ⟨rfl, ⟨[.int .u64 1, .slice none 0 0, .int .u64 1, .int .u64 0, .string ⟨#[]⟩, .int .u64 2, .slice (some ⟨w.heap.size, 0, none⟩) 1 1, .int .u64 2, .int .u64 0, .string ⟨#[]⟩, .int .u64 3, .slice (some ⟨w.heap.size + 1, 0, none⟩) 1 1, .int .u64 2, .int .u64 0, .string ⟨#[]⟩], ⟨⟨none, 0, rfl, Flat.nil _ _, fun _ => rfl⟩, ⟨some ⟨w.heap.size, 0, none⟩, 1, rfl, hf1, (fun e => by cases e)⟩, ⟨some ⟨w.heap.size + 1, 0, none⟩, 1, rfl, hf2, (fun e => by cases e)⟩, trivial⟩, fun _ => ⟨w.heap.size + 2, 0, rfl, fun j u hj => ?_⟩⟩, by omega, ?_⟩
  · have := cell_at_new ((w.alloc (.cells #[.int .u64 1] 24)).alloc (.cells #[.int .u64 1] 24)) #[.int .u64 1, .slice none 0 0, .int .u64 1, .int .u64 0, .string ⟨#[]⟩, .int .u64 2, .slice (some ⟨w.heap.size, 0, none⟩) 1 1, .int .u64 2, .int .u64 0, .string ⟨#[]⟩, .int .u64 3, .slice (some ⟨w.heap.size + 1, 0, none⟩) 1 1, .int .u64 2, .int .u64 0, .string ⟨#[]⟩] 69 j (v := u) (by rw [← Array.getElem?_toList]; exact hj)
    rw [Nat.zero_add]
    rw [hz2] at this
    exact this
  · intro c hc
    simp only [ex15, List.mem_cons, List.not_mem_nil, or_false] at hc
    rcases hc with rfl | rfl | rfl <;> simp [u64ok]

theorem awake15_calls (w : World) :
    Calls Try.prog 43 #[] w fun e w' => e = .returned (.bool true) ∧ Below w.heap.size w w' := by
  have hin := ex15_in w
  have HN := Lib.hid hin.nums
  have HM := Lib.hid (made_calls _ _ 3 3 ex15 hin ex15_few)
  clear hin
  have hsy := made_sync ex15
  have hln := made_len ex15
  have HO := Lib.hid hsy.lok
  have HLN := Lib.hid (show (madeL ex15).length ≤ 100000 by simp [ex15] at hln; exact Nat.le_trans hln (by omega))
  clear hsy hln
  have HB := Lib.hid ex15_base
  go_enter Try.func43, Try.ntmps43
  go_wp2_with (first | (go_at_call 26; refine HM.out.mono ?_; rintro e w1 ⟨p, m, x, rfl, hg1, hr1, hb1, hl1, hl2, hl3⟩; have HG := Lib.hid hg1; clear hg1 hr1) | (go_at_call 49; refine (base_calls _ p m _ HG.out HO.out HLN.out HN.out 2 3).mono ?_; rw [HB.out]; rintro e w2 ⟨rfl, hb2⟩))
  go_ret
  exact ⟨rfl, by (repeat (first | (with_reducible exact Below.refl _ _) | (with_reducible assumption) | (with_reducible refine bel_al0 ?_ _) | (with_reducible refine bel_set ?_ (by first | (simp; done) | (simp; omega)) _) | (with_reducible refine bel_dr ?_) | (with_reducible refine bel_drn ?_ _) | (with_reducible refine bel_tr ?_ (by assumption))))⟩
/-- Few, Made, and what one needs of the graph made -/
structure Graph2 (l : List CommitD) : Prop where
  sync : Sync (madeL l) (madeR l)
  lok : LOk (madeL l)
  len : (madeL l).length ≤ 25
  rlen : (madeR l).length ≤ 25
theorem graph2 {l : List CommitD} (h : few l = true) : Graph2 l := by
  have hn : l.length ≤ 25 := by
    unfold few at h
    rw [Bool.and_eq_true, decide_eq_true_iff] at h
    exact h.2
  have hsy := made_sync l
  have hln := made_len l
  exact ⟨hsy, hsy.lok, by omega, by rw [hsy.len]; omega⟩

set_option maxHeartbeats 4000000 in
theorem graphAdds_calls (w : World) (A : Option Addr) (n k : Nat) (l : List CommitD) (h : CIn w A n l) (id : Int) :
    Calls Try.prog 7 #[.slice A n k, .int .u64 id] w fun e w' => e = .returned (.bool true) ∧ Below w.heap.size w w' := by
  have HF := Lib.hid (fun W (hW : Below w.heap.size w W) => few15_calls W A n k l (h.below hW))
  by_cases hfew : few l = true
  · rw [hfew] at HF
    have HM := Lib.hid (fun W (hW : Below w.heap.size w W) => made_calls W A n k l (h.below hW) hfew)
    have hg2 := graph2 hfew
    have HNM := Lib.hid h.nums
    have HGE := Lib.hid (fun W p m (hW : GraphAt W p m (madeL l)) => gget_calls p m W _ hW id)
    have HRE := Lib.hid (fun W0 W x (hW : RGraphAt W0 x (madeR l)) (hb : Below W0.heap.size W0 W) => rget_calls W0 W x _ hW hb (by have := hg2.rlen; omega) id)
    have HID := Lib.hid (fun W p m (hW : GraphAt W p m (madeL l)) => ids_calls W p m _ hW (by have := hg2.len; omega) HNM.out)
    have HRI := Lib.hid (fun W x (hW : RGraphAt W x (madeR l)) => rids_calls W x _ hW (by have := hg2.rlen; omega))
    rw [hg2.sync.same id] at HRE
    have e2 : (mget (madeL l) id).getD CommitD.zero = gGet (madeL l) id := rfl
    rw [e2] at HRE
    clear e2
    have htwo : (gGet (madeL l) id).par.length ≤ 2 := by
      unfold gGet
      cases hq : mget (madeL l) id with
      | none => simp [CommitD.zero]
      | some c => exact hg2.lok.two id c hq
    rw [← sync_ids hg2.sync] at HRI
    have hil : (sortI (mkeys (madeL l))).length ≤ 25 := by rw [sortI_len]; have := hg2.len; simpa [mkeys] using this
    obtain ⟨S, hS⟩ : ∃ S, S = sortI (mkeys (madeL l)) := ⟨_, rfl⟩
    rw [← hS] at HID HRI hil
    clear hS
    obtain ⟨c, hc⟩ : ∃ c, c = gGet (madeL l) id := ⟨_, rfl⟩
    obtain ⟨cb, hcb⟩ : ∃ cb, cb = (mget (madeL l) id).isSome := ⟨_, rfl⟩
    rw [← hc, ← hcb] at HGE HRE
    rw [← hc] at htwo
    clear hc hcb hg2 hfew h
    have HSN := Lib.hid (fun W A B k k' (h1 : Flat W A (nums S)) (h2 : Flat W B (nums S)) => same_calls W A B S.length S.length k k' S S rfl rfl h1 h2 (by omega) (by omega))
    have hcc : decide (S = S) = true := by simp
    rw [hcc] at HSN
    clear hcc
    unfold NumsOwn at HID HRI
    unfold GetOwn at HGE
    unfold GetPost at HRE
    obtain ⟨ns, hns⟩ : ∃ ns, ns = S.length := ⟨_, rfl⟩
    rw [← hns] at HID HRI HSN
    clear hns hil
    have HSC := Lib.hid (fun W A B k k' hA hB => sameCommit_yes W c.id c.gen c.root c.text A B c.par.length k k' c.par rfl hA hB (by omega))
    obtain ⟨np, hnp⟩ : ∃ np, np = c.par.length := ⟨_, rfl⟩
    rw [← hnp] at HGE HRE HSC
    clear hnp htwo
    go_enter Try.func7, Try.ntmps7
    go_wp2_with (first | (go_at_call 43; refine (awake15_calls _).mono ?_; rintro e w1 ⟨rfl, hb1⟩) | (go_at_call 25; refine (HF.out _ hb1).mono ?_; rintro e w2 ⟨rfl, hb2⟩) | (go_at_call 26; refine (HM.out _ (bel_tr hb1 hb2)).mono ?_; rintro e w3 ⟨p, m, x, rfl, hg3, hr3, hb3, _, _, _⟩; have HG := Lib.hid hg3; clear hg3; have HRG := Lib.hid hr3; clear hr3) | (go_at_call 44; refine (HGE.out _ p m HG.out).mono ?_; rintro e w4 ⟨A4, k4, rfl, ho4, hb4⟩; have HF4 := Lib.hid (own_flat ho4); clear ho4; have hb5 : Below w3.heap.size w3 (w4.alloc (.cells #[.int .u64 c.id, .slice A4 np k4, .int .u64 c.gen, .int .u64 c.root, .string c.text] 69)) := bel_al0 hb4 _) | (go_at_call 45; refine (HRE.out _ _ x HRG.out hb5).mono ?_; rintro e w6 ⟨A6, k6, rfl, hf6, hA6, hb6⟩; have HF6 := Lib.hid hf6; clear hf6 hA6; have B4 := (blk_new w4 _ _).below hb6; obtain ⟨x0, x1, x2, x3, x4, xf⟩ := B4.five; clear B4; have hz4 : w4.heap.size < w6.heap.size := by have := hb6.size; simp only [World.size_alloc] at this; omega) | (go_at_call 46; refine (HSC.out _ A4 A6 k4 k6 (HF4.out.below ?_) (HF6.out.below ?_)).mono ?_; (repeat (first | (with_reducible exact Below.refl _ _) | (with_reducible assumption) | (with_reducible refine bel_al0 ?_ _) | (with_reducible refine bel_set ?_ (by first | (simp; done) | (simp; omega)) _) | (with_reducible refine bel_dr ?_) | (with_reducible refine bel_drn ?_ _) | (with_reducible refine bel_tr ?_ (by assumption)))); (repeat (first | (with_reducible exact Below.refl _ _) | (with_reducible assumption) | (with_reducible refine bel_al0 ?_ _) | (with_reducible refine bel_set ?_ (by first | (simp; done) | (simp; omega)) _) | (with_reducible refine bel_dr ?_) | (with_reducible refine bel_drn ?_ _) | (with_reducible refine bel_tr ?_ (by assumption)))); rintro e w7 ⟨rfl, hb7⟩) | (go_at_call 47; refine (HID.out _ p m (HG.out.below ?_)).mono ?_; (repeat (first | (with_reducible exact Below.refl _ _) | (with_reducible assumption) | (with_reducible refine bel_al0 ?_ _) | (with_reducible refine bel_set ?_ (by first | (simp; done) | (simp; omega)) _) | (with_reducible refine bel_dr ?_) | (with_reducible refine bel_drn ?_ _) | (with_reducible refine bel_tr ?_ (by assumption)))); rintro e w8 ⟨v8, rfl, ho8, hb8⟩; obtain ⟨A8, k8, rfl, _⟩ := own_form ho8; have HF8 := Lib.hid (own_flat ho8); clear ho8) | (go_at_call 48; refine (HRI.out _ x (HRG.out.below ?_)).mono ?_; (repeat (first | (with_reducible exact Below.refl _ _) | (with_reducible assumption) | (with_reducible refine bel_al0 ?_ _) | (with_reducible refine bel_set ?_ (by first | (simp; done) | (simp; omega)) _) | (with_reducible refine bel_dr ?_) | (with_reducible refine bel_drn ?_ _) | (with_reducible refine bel_tr ?_ (by assumption)))); rintro e w9 ⟨v9, rfl, ho9, hb9⟩; obtain ⟨A9, k9, rfl, _⟩ := own_form ho9; have HF9 := Lib.hid (own_flat ho9); clear ho9) | (go_at_call 29; refine (HSN.out _ A8 A9 k8 k9 (HF8.out.below hb9) HF9.out).mono ?_; rintro e w10 ⟨rfl, hb10⟩))
    go_ret
    exact ⟨rfl, by (repeat (first | (with_reducible exact Below.refl _ _) | (with_reducible assumption) | (with_reducible refine bel_al0 ?_ _) | (with_reducible refine bel_set ?_ (by first | (simp; done) | (simp; omega)) _) | (with_reducible refine bel_dr ?_) | (with_reducible refine bel_drn ?_ _) | (with_reducible refine bel_tr ?_ (by assumption))))⟩
  · have hfew' : few l = false := by simpa using hfew
    rw [hfew'] at HF
    clear hfew hfew' h
    go_enter Try.func7, Try.ntmps7
    go_wp2_with (first | (go_at_call 43; refine (awake15_calls _).mono ?_; rintro e w1 ⟨rfl, hb1⟩) | (go_at_call 25; refine (HF.out _ hb1).mono ?_; rintro e w2 ⟨rfl, hb2⟩))
    go_ret
    exact ⟨rfl, bel_tr hb1 hb2⟩
theorem graphAdds_all (w : World) (A : Option Addr) (n k : Nat) (l : List CommitD) (h : CIn w A n l) (id : Int) (_ : (Lit.int .u64 id).wf = true) :
    Calls Try.prog 7 #[.slice A n k, .int .u64 id] w fun e w' => e = .returned (.bool true) ∧ Below w.heap.size w w' := graphAdds_calls w A n k l h id
end Go.Proofs.Ytehneliphhgegaa
