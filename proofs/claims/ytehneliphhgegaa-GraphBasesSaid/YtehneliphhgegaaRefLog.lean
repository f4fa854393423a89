/- The document's Log; rows of commits alike; the numbers of a row: walked once. -/
import Derived.Test.YtehneliphhgegaaRefSorted
import Derived.Test.YtehneliphhgegaaPlainBases
import Derived.Test.YtehneliphhgegaaAdds
set_option linter.unusedVariables false
set_option linter.unusedSimpArgs false
set_option maxRecDepth 100000
namespace Go.Proofs.Ytehneliphhgegaa
open Go.RowKit Go.Apo

theorem flat_take {w : World} {A : Option Addr} {cs : List Value} (h : Flat w A cs) (n : Nat) : Flat w A (cs.take n) := by
  intro h0
  rw [List.length_take] at h0
  obtain ⟨b, off, e, hcc⟩ := h (by omega)
  refine ⟨b, off, e, fun q u hq => hcc q u ?_⟩
  rw [List.getElem?_take] at hq
  split at hq
  · exact hq
  · cases hq
theorem CRow.take {w : World} {A : Option Addr} {R : List CommitD} (h : CRow w A R) (n : Nat) : CRow w A (R.take n) := by
  obtain ⟨cs, h1, h2⟩ := h
  exact ⟨cs.take (n * 5), (h1.split n).1, flat_take h2 _⟩
theorem ordS_rises {l : List CommitD} (h : l.Pairwise (ordS false)) : O.Rises l := by
  unfold O.Rises
  refine h.imp fun {a b} hab => ?_
  unfold ordS at hab
  simp only [Bool.false_eq_true, if_false] at hab
  rw [ltQ_no] at hab
  rw [O.ltQ_no]
  omega
def RLogPost (w : World) (R : List CommitD) (id most : Int) (r : Ending) (w' : World) : Prop :=
  ∃ A k l, r = .returned (.slice A (l.take most.toNat).length k) ∧ CRow w' A (l.take most.toNat) ∧ l.Perm ((rreach R [id]).map fun i => (rFind R i).getD CommitD.zero) ∧ O.Rises l ∧ Below w.heap.size w w'
set_option maxHeartbeats 4000000 in
theorem rlog_calls (w : World) (x : Nat) (R : List CommitD) (h : RGraphAt w x R) (hR : R.length ≤ 90000) (h2 : ∀ i, (rPar R i).length ≤ 2) (hpar : ∀ c ∈ R, c.par.length ≤ 2) (id most : Int) :
    Calls Try.prog 63 #[.pointer (some ⟨x, 0, none⟩), .int .u64 id, .int .i64 most] w (RLogPost w R id most) := by
  have HRa := Lib.hid (rreach_calls (w.alloc (.cells #[.int .u64 id] 24)) x R (h.below (bel_al0 (Below.refl _ _) _)) (by omega) h2 hpar (some ⟨w.heap.size, 0, none⟩) 1 1 [id] rfl (flat_one w id) (by omega))
  have hla : (rreach R [id]).length ≤ R.length := by unfold rreach; rw [List.length_reverse]; exact rmet_len R [id] 0
  have HS := Lib.hid (fun W (hW : Below w.heap.size w W) A n k ids hn hf hn2 => rsorted_calls W x R (h.below hW) hR A n k ids hn hf hn2 false)
  unfold NumsOwn at HRa
  unfold RLogPost
  obtain ⟨S, hS⟩ : ∃ S, S = rreach R [id] := ⟨_, rfl⟩
  rw [← hS] at HRa hla ⊢
  clear hS h h2 hpar
  obtain ⟨n, hn⟩ : ∃ n, n = S.length := ⟨_, rfl⟩
  rw [← hn] at HRa hla
  have HN := Lib.hid hn.symm; clear hn
  have hk : ∀ (l : List CommitD) (mm : Nat), l.length ≤ mm → l.take mm = l := fun l mm h => List.take_of_length_le h
  have HK := Lib.hid hk; clear hk
  unfold RSortPost at HS
  rcases Int.lt_or_le most 0 with hm | hm
  · have hz : most.toNat = 0 := by omega
    rw [hz]
    go_enter Try.func63, Try.ntmps63
    go_upto_region 4 with (first | (go_at_call 60; refine HRa.out.mono ?_; rintro e w1 ⟨v1, rfl, ho1, hb1⟩; obtain ⟨A1, k1, rfl, _⟩ := own_form ho1; have HF1 := Lib.hid (own_flat ho1); clear ho1; have hb1' := bel_tr (bel_al0 (Below.refl _ w) (.cells #[.int .u64 id] 24)) hb1) | (go_at_call 73; refine (HS.out _ hb1' A1 n k1 S HN.out HF1.out (by omega)).mono ?_; rintro e w2 ⟨A2, k2, l, rfl, hr2, hn2, hk2, hp2, hs2, hb2⟩; have HR2 := Lib.hid hr2; have HP2 := Lib.hid hp2; have HS2 := Lib.hid hs2; clear hr2 hp2 hs2; obtain ⟨nl, hnl⟩ : ∃ nl, nl = l.length := ⟨_, rfl⟩; rw [← hnl] at hk2 ⊢; have HNL := Lib.hid hnl; clear hnl; have HN2 := Lib.hid hn2; clear hn2))
    by_cases hl : 0 < nl
    · go_wp2_with fail
      go_ret
      exact ⟨A2, k2, l, by rw [List.take_zero]; rfl, HR2.out.take 0, HP2.out, ordS_rises HS2.out, bel_tr hb1' hb2⟩
    · obtain rfl : nl = 0 := by omega
      go_wp2_with fail
      go_ret
      exact ⟨A2, k2, l, by rw [List.take_zero]; rfl, HR2.out.take 0, HP2.out, ordS_rises HS2.out, bel_tr hb1' hb2⟩
  · obtain ⟨mm, rfl⟩ : ∃ mm : Nat, most = mm := ⟨most.toNat, by omega⟩
    rw [Int.toNat_natCast]
    have hm' : decide ((mm : Int) < 0) = false := by simp
    go_enter Try.func63, Try.ntmps63
    go_upto_region 4 with (first | (go_at_call 60; refine HRa.out.mono ?_; rintro e w1 ⟨v1, rfl, ho1, hb1⟩; obtain ⟨A1, k1, rfl, _⟩ := own_form ho1; have HF1 := Lib.hid (own_flat ho1); clear ho1; have hb1' := bel_tr (bel_al0 (Below.refl _ w) (.cells #[.int .u64 id] 24)) hb1) | (go_at_call 73; refine (HS.out _ hb1' A1 n k1 S HN.out HF1.out (by omega)).mono ?_; rintro e w2 ⟨A2, k2, l, rfl, hr2, hn2, hk2, hp2, hs2, hb2⟩; have HR2 := Lib.hid hr2; have HP2 := Lib.hid hp2; have HS2 := Lib.hid hs2; clear hr2 hp2 hs2; obtain ⟨nl, hnl⟩ : ∃ nl, nl = l.length := ⟨_, rfl⟩; rw [← hnl] at hk2 ⊢; have HNL := Lib.hid hnl; clear hnl; have HN2 := Lib.hid hn2; clear hn2))
    by_cases hl : mm < nl
    · have hmk : mm ≤ k2 := by omega
      have HL : Hid ((l.take mm).length = mm) := by show _ = _; rw [List.length_take]; have := HNL.out; omega
      go_wp2_with fail
      go_ret
      exact ⟨A2, k2, l, by rw [HL.out]; rfl, HR2.out.take mm, HP2.out, ordS_rises HS2.out, bel_tr hb1' hb2⟩
    · have HL : Hid (l.take mm = l) := HK.out l mm (by have := HNL.out; omega)
      go_wp2_with fail
      go_ret
      exact ⟨A2, k2, l, by rw [HL.out, ← HNL.out]; rfl, by rw [HL.out]; exact HR2.out, HP2.out, ordS_rises HS2.out, bel_tr hb1' hb2⟩

set_option maxHeartbeats 4000000 in
theorem sameCommits_yes (w : World) (A B : Option Addr) (n k k' : Nat) (cs : List CommitD) (hn : cs.length = n) (hA : CRow w A cs) (hB : CRow w B cs) (hp : ∀ c ∈ cs, c.par.length ≤ 1000000) (hl : n ≤ 1000000) :
    Calls Try.prog 61 #[.slice A n k, .slice B n k'] w fun e w' => e = .returned (.bool true) ∧ Below w.heap.size w w' := by
  have HA := Lib.hid hA; clear hA
  have HB := Lib.hid hB; clear hB
  have HN := Lib.hid hn; clear hn
  have HP := Lib.hid hp; clear hp
  go_enter Try.func61, Try.ntmps61
  go_wp2_with fail
  go_loopw [13] (fun v wr => ∃ i : Nat, i ≤ n ∧ v = .int .i64 i ∧ Below w.heap.size w wr) (fun v _ => n - (intOf v).toNat)
  case atStart => exact ⟨0, Nat.zero_le _, rfl, Below.refl _ _⟩
  case round =>
    obtain ⟨i, hi, rfl, hb⟩ := hrel
    by_cases hlt : i < n
    · obtain ⟨c, hc⟩ : ∃ c, cs[i]? = some c := ⟨_, List.getElem?_eq_getElem (by rw [HN.out]; exact hlt)⟩
      obtain ⟨b1, o1, A1, k1, rfl, c0, c1, c2, c3, c4, hf1, _⟩ := (HA.out.below hb).at_ hc
      obtain ⟨b2, o2, A2, k2, rfl, d0, d1, d2, d3, d4, hf2, _⟩ := (HB.out.below hb).at_ hc
      have hpl := HP.out c (List.mem_of_getElem? hc)
      have HF1 := Lib.hid hf1
      have HF2 := Lib.hid hf2
      clear hf1 hf2 hc
      have HSC := Lib.hid (fun W (hW : Below wr.heap.size wr W) => sameCommit_yes W c.id c.gen c.root c.text A1 A2 c.par.length k1 k2 c.par rfl (HF1.out.below hW) (HF2.out.below hW) hpl)
      obtain ⟨np, hnp⟩ : ∃ np, np = c.par.length := ⟨_, rfl⟩
      rw [← hnp] at HSC c1 d1
      clear hnp hpl
      obtain ⟨wo, rfl⟩ : ∃ wo : World, wo = wr := ⟨_, rfl⟩
      go_wp2_with fail
      go_still_tail 8, (by kernel_rfl)
      go_wp2_with (go_at_call 46; refine (HSC.out _ (bel_dr (Below.refl _ _))).mono ?_; rintro e w5 ⟨rfl, hb5⟩)
      go_roundw
      case rel => exact ⟨i + 1, by omega, by go_num, by (repeat (first | (with_reducible exact Below.refl _ _) | (with_reducible assumption) | (with_reducible refine bel_al0 ?_ _) | (with_reducible refine bel_set ?_ (by first | (simp; done) | (simp; omega)) _) | (with_reducible refine bel_dr ?_) | (with_reducible refine bel_drn ?_ _) | (with_reducible refine bel_tr ?_ (by assumption))))⟩
      case measure => simp [intOf]; omega
    · go_wp2_with fail
      go_ret
      exact ⟨rfl, hb⟩
set_option maxHeartbeats 4000000 in
theorem numbers_calls (w : World) (A : Option Addr) (n k : Nat) (cs : List CommitD) (hn : cs.length = n) (hA : CRow w A cs) (hl : n ≤ 1000000) :
    Calls Try.prog 72 #[.slice A n k] w (NumsOwn w (cs.map CommitD.id)) := by
  have HROW := Lib.hid hA; clear hA
  have HN := Lib.hid hn; clear hn
  unfold NumsOwn
  rw [List.length_map]
  go_enter Try.func72, Try.ntmps72
  go_wp2_with fail
  go_loopw [8, 3, 5] (fun v v3 _ wr => ∃ j : Nat, j ≤ n ∧ v = .int .i64 j ∧ Hid (wr.ownsRow w.heap.size 24 1 v3 j (nums ((cs.take j).map CommitD.id))) ∧ Below w.heap.size w wr) (fun v _ _ _ => n - (intOf v).toNat)
  case atStart => exact ⟨0, Nat.zero_le _, rfl, World.ownsRow_nil _ _ _ _, by (repeat (first | (with_reducible exact Below.refl _ _) | (with_reducible assumption) | (with_reducible refine bel_al0 ?_ _) | (with_reducible refine bel_set ?_ (by first | (simp; done) | (simp; omega)) _) | (with_reducible refine bel_dr ?_) | (with_reducible refine bel_drn ?_ _) | (with_reducible refine bel_tr ?_ (by assumption))))⟩
  case round =>
    obtain ⟨j, hj, rfl, ho, hB⟩ := hrel
    by_cases hlt : j < n
    · obtain ⟨c, hcj⟩ : ∃ c, cs[j]? = some c := ⟨_, List.getElem?_eq_getElem (by rw [HN.out]; exact hlt)⟩
      obtain ⟨b, off, A', k', rfl, c0, c1, c2, c3, c4, _⟩ := (HROW.out.below hB).at_ hcj
      have hbl := cell_lt c0
      have htk : (cs.take (j + 1)).map CommitD.id = (cs.take j).map CommitD.id ++ [c.id] := by rw [List.take_add_one, hcj]; simp
      have HTK := Lib.hid htk; clear htk hcj
      obtain ⟨is, his⟩ : ∃ is, is = (cs.take j).map CommitD.id := ⟨_, rfl⟩
      rw [← his] at ho HTK
      clear his
      have hsz := hB.size
      obtain ⟨np, hnp⟩ : ∃ np, np = c.par.length := ⟨_, rfl⟩
      rw [← hnp] at c1
      clear hnp
      go_wp2_with (at_builtin; refine wpl_append rfl _ _ 50 rfl w.heap.size 24 _ 1 8 Try.underlying50 infoU64 rfl (by decide) _ j (nums is) rfl (own_below ho.out (bel_al0 (bel_al0 (Below.refl _ _) _) _)) (some ⟨wr.heap.size + 1, 0, none⟩) 1 1 (nums [c.id]) rfl rfl (by have := flat_one (wr.alloc (.cells #[.int .u64 c.id, .slice A' np k', .int .u64 c.gen, .int .u64 c.root, .string c.text] 69)) c.id; simpa using this) (nums_one _) (by unfold maxLen; omega) (by omega) (by simp; omega) ?_; intro v' w6 ho6 hg6 hat6)
      have hb6 : Below w.heap.size w w6 := grown_bel (bel_al0 (bel_al0 hB _) _) (Nat.le_refl _) hg6 (own_row_ge ho.out)
      go_roundw
      case rel =>
        refine ⟨j + 1, by omega, by go_num, ?_, hb6⟩
        show World.ownsRow _ _ _ _ _ _ _
        rw [HTK.out, nums_app]
        exact ho6
      case measure => simp [intOf]; omega
    · have hjn : j = n := by omega
      have htk : cs.take j = cs := by rw [List.take_of_length_le]; have := HN.out; omega
      rw [htk, hjn] at ho
      have HO := Lib.hid ho.out; clear ho htk
      go_wp2_with fail
      go_ret
      exact ⟨_, rfl, by rw [HN.out]; exact HO.out, hB⟩
end Go.Proofs.Ytehneliphhgegaa
