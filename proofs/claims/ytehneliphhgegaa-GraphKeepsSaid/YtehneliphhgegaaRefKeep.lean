/- The document's Keep: walked; and that both keep the same. -/
import Derived.Test.YtehneliphhgegaaRefReachAll
import Derived.Test.YtehneliphhgegaaAdds
set_option linter.unusedVariables false
set_option linter.unusedSimpArgs false
set_option maxRecDepth 100000
namespace Go.Proofs.Ytehneliphhgegaa
open Go.RowKit Go.Apo

def rkeep (R : List CommitD) (ids : List Int) : List CommitD := R.filter fun c => decide (c.id ∈ rreach R ids)
theorem filter_take5 {p : CommitD → Bool} {R : List CommitD} {j : Nat} {c : CommitD} (h : R[j]? = some c) : (R.take (j + 1)).filter p = (R.take j).filter p ++ if p c = true then [c] else [] := by
  rw [List.take_add_one, h, List.filter_append]
  simp only [Option.toList, List.filter_cons, List.filter_nil]
theorem flat_five' (w : World) (v0 v1 v2 v3 v4 : Value) (t : TypeId) : Flat (w.alloc (.cells #[v0, v1, v2, v3, v4] t)) (some ⟨w.heap.size, 0, none⟩) [v0, v1, v2, v3, v4] := fun _ => ⟨w.heap.size, 0, rfl, fun q u hq => by
  refine (blk_new w #[v0, v1, v2, v3, v4] t).cell ?_
  rw [Nat.zero_add]
  simpa using hq⟩
set_option maxHeartbeats 4000000 in
theorem rkeep_calls (w : World) (x : Nat) (R : List CommitD) (h : RGraphAt w x R) (hR : R.length ≤ 90000) (h2 : ∀ i, (rPar R i).length ≤ 2) (hpar : ∀ c ∈ R, c.par.length ≤ 2) (A : Option Addr) (n k : Nat) (ids : List Int) (hn : ids.length = n) (hf : Flat w A (nums ids)) (hn2 : n ≤ 100000) :
    Calls Try.prog 67 #[.pointer (some ⟨x, 0, none⟩), .slice A n k] w (RAdded w x ((R.length : Int) - ((rkeep R ids).length : Int)) (rkeep R ids)) := by
  have HRa := Lib.hid (rreach_calls w x R h (by omega) h2 hpar A n k ids hn hf hn2)
  have hla : (rreach R ids).length ≤ R.length := by unfold rreach; rw [List.length_reverse]; exact rmet_len R ids 0
  unfold NumsOwn at HRa
  unfold rkeep
  obtain ⟨S, hS⟩ : ∃ S, S = rreach R ids := ⟨_, rfl⟩
  rw [← hS] at HRa hla ⊢
  clear hS h2 hpar hf hn
  obtain ⟨ns, hns⟩ : ∃ ns, ns = S.length := ⟨_, rfl⟩
  rw [← hns] at HRa hla
  have HNS := Lib.hid hns; clear hns
  obtain ⟨A0, k0, hblk, hrow, hA0, hk0⟩ := h
  have hc := hblk.one.1
  have hfz := hblk.one.2 0
  have HBLK := Lib.hid hblk; clear hblk
  have HROW := Lib.hid hrow; clear hrow hA0
  obtain ⟨N, hN⟩ : ∃ N, N = R.length := ⟨_, rfl⟩
  rw [← hN] at hc hR hla hk0 ⊢
  have HN := Lib.hid hN; clear hN
  have hxl := cell_lt hc
  go_enter Try.func67, Try.ntmps67
  go_wp2_with (go_at_call 60; refine HRa.out.mono ?_; rintro e w1 ⟨v1, rfl, ho1, hb1⟩; obtain ⟨A1, k1, rfl, _⟩ := own_form ho1; have HF1 := Lib.hid (own_flat ho1); clear ho1; have hc1 := cell_bel hc hb1)
  go_loopw [23, 7, 9] (fun v v7 _ wr => ∃ (j nc k7 : Nat) (A7 : Option Addr), j ≤ N ∧ v = .int .i64 j ∧ v7 = .slice A7 nc k7 ∧ nc ≤ j ∧ Hid (((R.take j).filter fun c => decide (c.id ∈ S)).length = nc) ∧ Hid (∃ cs, CVals w1 ((R.take j).filter fun c => decide (c.id ∈ S)) cs ∧ wr.ownsRow w1.heap.size 69 5 (.slice A7 nc k7) nc cs) ∧ Below w1.heap.size w1 wr) (fun v _ _ _ => N - (intOf v).toNat)
  case atStart => exact ⟨0, 0, 0, none, Nat.zero_le _, rfl, rfl, Nat.le_refl _, rfl, ⟨[], trivial, World.ownsRow_nil _ _ _ _⟩, Below.refl _ _⟩
  case round =>
    obtain ⟨j, nc, k7, A7, hj, rfl, rfl, hncj, hncl, ho, hB⟩ := hrel
    obtain ⟨wo, rfl⟩ : ∃ wo : World, wo = wr := ⟨_, rfl⟩
    have hbw := bel_tr hb1 hB
    have hcr := cell_bel hc hbw
    by_cases hlt : j < N
    · obtain ⟨c, hcj⟩ : ∃ c, R[j]? = some c := ⟨_, List.getElem?_eq_getElem (by rw [← HN.out]; exact hlt)⟩
      obtain ⟨b, off, A', k', rfl, c0, c1, c2, c3, c4, hfp, hap⟩ := (HROW.out.below hb1).at_ hcj
      replace c0 := cell_bel c0 hB
      replace c1 := cell_bel c1 hB
      replace c2 := cell_bel c2 hB
      replace c3 := cell_bel c3 hB
      replace c4 := cell_bel c4 hB
      have hbl := cell_lt c0
      have hft := filter_take5 (p := fun c => decide (c.id ∈ S)) hcj
      have hci : commitIs w1 c (.agg #[.int .u64 c.id, .slice A' c.par.length k', .int .u64 c.gen, .int .u64 c.root, .string c.text]) := ⟨A', k', rfl, hfp, hap⟩
      have HCI := Lib.hid hci
      clear hcj hfp hap hci
      obtain ⟨np, hnp⟩ : ∃ np, np = c.par.length := ⟨_, rfl⟩
      rw [← hnp] at c1 HCI
      clear hnp
      have hb8 : Below wo.heap.size wo (wo.alloc (.cells #[.int .u64 c.id, .slice A' np k', .int .u64 c.gen, .int .u64 c.root, .string c.text] 69)) := bel_al0 (Below.refl _ _) _
      have HH := Lib.hid (has_calls (wo.alloc (.cells #[.int .u64 c.id, .slice A' np k', .int .u64 c.gen, .int .u64 c.root, .string c.text] 69)) A1 ns k1 S HNS.out.symm ((HF1.out.below hB).below hb8) (by omega) c.id)
      clear hb8
      obtain ⟨t, ht⟩ : ∃ t, t = decide (c.id ∈ S) := ⟨_, rfl⟩
      rw [← ht] at HH hft
      clear ht
      obtain ⟨cs, hcv, ho⟩ := ho
      obtain ⟨pre, hpre⟩ : ∃ pre, pre = (R.take j).filter fun c => decide (c.id ∈ S) := ⟨_, rfl⟩
      rw [← hpre] at hcv hft hncl
      clear hpre
      have HCV := Lib.hid hcv; clear hcv
      have HO := Lib.hid ho; clear ho
      have hcsl := HCV.out.length
      rw [hncl.out] at hcsl
      cases t with
      | true =>
        rw [if_pos rfl] at hft
        have HFT := Lib.hid hft; clear hft
        have hone := HCV.out.one
        go_wp2_with (first
          | (go_at_call 79; refine HH.out.mono ?_; rintro e w3 ⟨rfl, rfl⟩)
          | (at_builtin; refine wpl_append rfl _ _ 40 rfl w1.heap.size 69 _ 5 64 Try.underlying40 infoCommit rfl (by decide) _ nc cs rfl (own_below HO.out (bel_al0 (bel_al0 (Below.refl _ _) _) _)) (some ⟨wo.heap.size + 1, 0, none⟩) 1 1 [.int .u64 c.id, .slice A' np k', .int .u64 c.gen, .int .u64 c.root, .string c.text] rfl rfl (by have := flat_five' (wo.alloc (.cells #[.int .u64 c.id, .slice A' np k', .int .u64 c.gen, .int .u64 c.root, .string c.text] 69)) (.int .u64 c.id) (.slice A' np k') (.int .u64 c.gen) (.int .u64 c.root) (.string c.text) 69; simpa using this) (by intro u hu; simp at hu; rcases hu with rfl | rfl | rfl | rfl | rfl <;> rfl) (by unfold maxLen; omega) (by omega) (by have := hB.size; simp; omega) ?_; intro v' w6 ho6 hg6 hat6; obtain ⟨A6, k6, rfl, _⟩ := own_form ho6))
        have hb6 : Below w1.heap.size w1 w6 := grown_bel (bel_al0 (bel_al0 hB _) _) (Nat.le_refl _) hg6 (own_row_ge HO.out)
        go_roundw
        case rel =>
          refine ⟨j + 1, nc + 1, k6, A6, by omega, by go_num, rfl, by omega, ?_, ?_, hb6⟩
          · show _ = _; rw [HFT.out, List.length_append, hncl.out]; rfl
          · show ∃ cs, _
            rw [HFT.out]
            exact ⟨_, CVals.app (R := pre) (S := [c]) HCV.out (ds := [.int .u64 c.id, .slice A' np k', .int .u64 c.gen, .int .u64 c.root, .string c.text]) ⟨HCI.out, trivial⟩, ho6⟩
        case measure => simp [intOf]; omega
      | false =>
        rw [if_neg (by simp), List.append_nil] at hft
        have HFT := Lib.hid hft; clear hft
        go_wp2_with (go_at_call 79; refine HH.out.mono ?_; rintro e w3 ⟨rfl, rfl⟩)
        go_roundw
        case rel =>
          refine ⟨j + 1, nc, k7, A7, by omega, by go_num, rfl, by omega, ?_, ?_, bel_al0 hB _⟩
          · show _ = _; rw [HFT.out]; exact hncl.out
          · show ∃ cs, _
            rw [HFT.out]
            exact ⟨cs, HCV.out, own_below HO.out (bel_al0 (Below.refl _ _) _)⟩
        case measure => simp [intOf]; omega
    · have hjn : R.take j = R := by rw [List.take_of_length_le]; have := HN.out; omega
      rw [hjn] at ho hncl
      obtain ⟨C, hC⟩ : ∃ C, C = R.filter fun c => decide (c.id ∈ S) := ⟨_, rfl⟩
      rw [← hC] at ho hncl
      obtain ⟨cs, hcv, ho⟩ := ho
      have hblkr := HBLK.out.below hbw
      have hfzr : wo.frozen? ⟨x, 0, none⟩ = false := hblkr.one.2 0
      obtain ⟨A7', k7', e7, hk7⟩ := own_form ho
      cases e7
      have hFIN : RAdded w x ((N : Int) - ((R.filter fun c => decide (c.id ∈ S)).length : Int)) (R.filter fun c => decide (c.id ∈ S)) (.returned (.int .i64 ((N : Int) - (nc : Int)))) (wo.setCell ⟨x, 0, none⟩ (.slice A7 nc k7)) := by
        rw [← hC]
        refine ⟨by rw [hncl.out], ⟨A7, k7, ?_, CRow.but hblkr (But.set _ _ _ _) ⟨cs, hcv.mono (fun c v hc => commitIs_below hc hB), own_flat ho⟩, fun e => ?_, by rw [hncl.out]; exact hk7⟩, (But.of_below hbw).trans (But.set _ _ _ _)⟩
        · have := hblkr.set 0 (.slice A7 nc k7)
          rw [hncl.out]; exact this
        · subst e
          rcases ho.2 with ⟨h1, h3⟩ | ⟨g, cap, cur, h1, _⟩
          · simp only [Value.slice.injEq] at h1
            refine ⟨List.eq_nil_of_length_eq_zero (by rw [hncl.out]; exact h3), h1.2.2⟩
          · cases h1
      have HFIN := Lib.hid hFIN
      clear hFIN ho hcv hC hncl hblkr HBLK HROW HF1 hb1 hB hbw
      go_wp2_with fail
      go_ret
      exact HFIN.out
end Go.Proofs.Ytehneliphhgegaa
