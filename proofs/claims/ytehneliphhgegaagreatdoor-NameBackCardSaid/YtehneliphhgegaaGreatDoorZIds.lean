/- The numbers of a graph, told one by one in order: the iterator, for rounds that may be another iterator's. -/
import Derived.Test.YtehneliphhgegaaGreatDoorZKIds
import Derived.Test.YtehneliphhgegaaGreatDoorZSeqK
import Derived.RangeFuncBox
import Derived.RangeFuncLeaves
import Derived.Shelf.Abstract
set_option linter.unusedVariables false
set_option linter.unusedSimpArgs false
set_option maxRecDepth 100000
namespace Go.Proofs.YtehneliphhgegaaGreatDoor
open Go.RowKit Go.Apo Go.Shelf
attribute [local go_sem] Oper.semAt_some

theorem sortI_permK (l : List Int) : (sortI l).Perm l := List.mergeSort_perm _ _
theorem sortI_len (l : List Int) : (sortI l).length = l.length := (sortI_permK l).length_eq
theorem mem_sortI {l : List Int} {x : Int} : x ∈ sortI l ↔ x ∈ l := (sortI_permK l).mem_iff
set_option maxHeartbeats 4000000 in
theorem ids1_K (n : Nat) (hn : 1 ≤ n) (w : World) (Bg p m : Nat) (L : List (Int × CommitD)) (hc : w.cell? ⟨Bg, 0, none⟩ = some (.pointer (some ⟨p, 0, none⟩))) (h : GraphAt w p m L) (hL : L.length ≤ 1000000) (hw : numsIn (mkeys L)) (Tab : World → Prop) :
    SeqK Fence.wide n Tryz.prog 39 #[.pointer (some ⟨Bg, 0, none⟩)] (fun x : Int => #[Value.int .u64 x]) (sortI (mkeys L)) Tab w := by
  intro l J Jx W hW hJ hJx hT hY h0
  show CallsIn Fence.wide n Tryz.prog _ #[.func (.yield l) #[] #[], .pointer (some ⟨Bg, 0, none⟩)] W _
  have hcW := cell_bel hc hW
  have hg := h.below hW
  have hp := hg.1
  have hlt := cell_lt hcW
  have hpt := cell_lt hp
  have HS := Lib.hid (fun Z (hz : Below W.heap.size W Z) B (hB : Z.cell? ⟨B, 0, none⟩ = some (.map (some m))) => sortedC_calls Z B hB (hg.below hz).2 hL hw)
  obtain ⟨S, hS⟩ : ∃ S, S = sortI (mkeys L) := ⟨_, rfl⟩
  rw [← hS] at hY ⊢
  have hN : S.length = L.length := by rw [hS, sortI_len]; simp [mkeys]
  obtain ⟨N, hNN⟩ : ∃ N, N = L.length := ⟨_, rfl⟩
  have HS' := Lib.hid hS.symm; clear hS
  rw [← hNN] at hN hL
  have HNN := Lib.hid hNN; clear hNN
  have HN := Lib.hid hN; clear hN
  have HJ := Lib.hid hJ; clear hJ
  have HY := Lib.hid hY; clear hY
  have H0 := Lib.hid h0; clear h0
  clear hJx hT h hc hg
  have f1 : Fence.wide.fn 34 := trivial
  have f2 : Fence.wide.fn 41 := trivial
  have f3 : Fence.wide.fn 40 := trivial
  refine callsIn_of_wp Tryz.func39 rfl trivial ?_ rfl
  simp only [Tryz.ntmps39, List.size_toArray, List.length_cons, List.length_nil, Nat.reduceAdd, Nat.reduceSub, Array.replicate_succ, Array.replicate_zero, List.push_toArray, List.append_toArray, List.nil_append, List.cons_append]
  gi_wp2_with (first
    | (gi_at_call 34; refine (callsIn_wide.2 (gok_yes p m _ hp)).mono ?_; rintro e w' ⟨rfl, rfl⟩)
    | (gi_at_call 41; refine (callsIn_wide.2 (keysC_calls _ _)).mono ?_; rintro e w' ⟨rfl, rfl⟩)
    | (gi_at_call 40; refine (callsIn_wide.2 (HS.out _ (bel_al0 (Below.refl _ _) _) _ (cell_at_new W _ _ 0 rfl))).mono ?_; rintro e w1 ⟨v, rfl, ho, hnil, hb⟩; obtain ⟨A, c, rfl, hc⟩ := own_form ho))
  have hnk : (mkeys L).length = N := by rw [HNN.out]; simp [mkeys]
  rw [hnk] at ho hc ⊢
  rw [HS'.out] at ho
  have hbw : Below W.heap.size W w1 := bel_tr (bel_al0 (Below.refl _ W) _) hb
  obtain ⟨G, hG⟩ : ∃ G, G = w1.heap.size := ⟨_, rfl⟩
  have hA : ∀ b off, A = some ⟨b, off, none⟩ → W.heap.size ≤ b ∧ b < G := by
    rintro b off rfl
    have h1 := own_blk ho
    have h2 := own_lt ho
    simp at h1
    omega
  have hfl := own_flat ho
  have hGW : W.heap.size ≤ G := by rw [hG]; exact hbw.size
  have hj0 : J G [] w1 := HJ.out G [] W w1 none (H0.out G hGW) (grown_below hbw) (fun r e => by cases e)
  have HA := Lib.hid hA; clear hA
  have HF := Lib.hid hfl; clear hfl
  have HJ0 := Lib.hid hj0; clear hj0
  have hG1 : G ≤ w1.heap.size := by omega
  clear ho hnil hc hb hbw hG hnk
  gi_loopw [15, 4] (fun v _ wr => ∃ j : Nat, j ≤ N ∧ v = .int .i64 j ∧ Hid (J G (S.take j) wr) ∧ Hid (Flat wr A (nums S)) ∧ G ≤ wr.heap.size) (fun v _ _ => N - (intOf v).toNat)
  case atStart => exact ⟨0, Nat.zero_le _, rfl, HJ0, HF, hG1⟩
  case round =>
    obtain ⟨j, hj, rfl, hJj, hFj, hGj⟩ := hrel
    by_cases hjn : j < N
    · obtain ⟨x, hx⟩ : ∃ x, S[j]? = some x := ⟨_, List.getElem?_eq_getElem (by rw [HN.out]; exact hjn)⟩
      obtain ⟨b, off, rfl, cj⟩ := hFj.out.at_ (nums_at hx)
      have htk : S.take (j + 1) = S.take j ++ [x] := by rw [List.take_add_one, hx]; rfl
      have hbl := cell_lt cj
      have HTK := Lib.hid htk.symm; clear htk
      obtain ⟨fn, tmps, assign, body, hy, hR⟩ := HY.out G (S.take j) x wr hGW hGj hJj.out (by rw [HTK.out]; exact List.take_prefix _ _)
      clear hx
      gi_wp2
      refine hR.mono ?_
      rintro e W' (⟨rfl, hJ', hk⟩ | ⟨rfl, hJx', hk⟩)
      · have hF' : Hid (Flat W' (some ⟨b, off, none⟩) (nums S)) := flat_span hFj.out HA.out hk
        have hJ2 : Hid (J G (S.take (j + 1)) W') := by
          show J G _ W'
          rw [← HTK.out]; exact hJ'
        have hGW' : G ≤ W'.heap.size := Nat.le_trans hGj hk.size
        clear hJ' hk hy hR
        gi_wp2
        go_roundw
        case rel => exact ⟨j + 1, by omega, by go_num, hJ2, hF', hGW'⟩
        case measure => simp [intOf]; omega
      · clear hy hR
        gi_wp2
        refine bodyPost_ret (results_none rfl _ _ _) rfl ?_
        refine ⟨⟨_, rfl⟩, .inr ⟨G, _, ?_, hJx'⟩⟩
        rw [HTK.out]
        exact List.take_prefix _ _
    · have hjn' : j = N := by omega
      have htk : S.take j = S := by rw [List.take_of_length_le]; rw [HN.out]; omega
      gi_wp2
      go_end0
      refine ⟨⟨_, rfl⟩, .inl ⟨G, ?_⟩⟩
      have := hJj.out
      rwa [htk] at this

theorem ids1_Knil (n : Nat) (hn : 1 ≤ n) (w : World) (Bg : Nat) (hc : w.cell? ⟨Bg, 0, none⟩ = some (.pointer none)) (Tab : World → Prop) :
    SeqK Fence.wide n Tryz.prog 39 #[.pointer (some ⟨Bg, 0, none⟩)] (fun x : Int => #[Value.int .u64 x]) [] Tab w := by
  intro l J Jx W hW hJ hJx hT hY h0
  show CallsIn Fence.wide n Tryz.prog _ #[.func (.yield l) #[] #[], .pointer (some ⟨Bg, 0, none⟩)] W _
  have hcW := cell_bel hc hW
  have hlt := cell_lt hcW
  have hj0 : J W.heap.size [] W := h0 _ (Nat.le_refl _)
  have HJ0 := Lib.hid hj0
  clear hj0 hJ hJx hT hY h0
  have f1 : Fence.wide.fn 34 := trivial
  refine callsIn_of_wp Tryz.func39 rfl trivial ?_ rfl
  simp only [Tryz.ntmps39, List.size_toArray, List.length_cons, List.length_nil, Nat.reduceAdd, Nat.reduceSub, Array.replicate_succ, Array.replicate_zero, List.push_toArray, List.append_toArray, List.nil_append, List.cons_append]
  gi_wp2_with (gi_at_call 34; refine (callsIn_wide.2 (gok_nil _)).mono ?_; rintro e w' ⟨rfl, rfl⟩)
  refine bodyPost_ret (results_none rfl _ _ _) rfl ?_
  exact ⟨⟨_, rfl⟩, .inl ⟨_, HJ0.out⟩⟩
theorem ids1_KGP (n : Nat) (hn : 1 ≤ n) (w : World) (Bg : Nat) (gq : Option Addr) (L : List (Int × CommitD)) (hc : w.cell? ⟨Bg, 0, none⟩ = some (.pointer gq)) (h : GP w gq L) (hL : L.length ≤ 1000000) (hw : numsIn (mkeys L)) (Tab : World → Prop) :
    SeqK Fence.wide n Tryz.prog 39 #[.pointer (some ⟨Bg, 0, none⟩)] (fun x : Int => #[Value.int .u64 x]) (sortI (mkeys L)) Tab w := by
  rcases h with ⟨p, m, rfl, h⟩ | ⟨rfl, rfl⟩
  · exact ids1_K n hn w Bg p m L hc h hL hw Tab
  · have : sortI (mkeys ([] : List (Int × CommitD))) = [] := by simp [sortI, mkeys]
    rw [this]
    exact ids1_Knil n hn w Bg hc Tab
end Go.Proofs.YtehneliphhgegaaGreatDoor
