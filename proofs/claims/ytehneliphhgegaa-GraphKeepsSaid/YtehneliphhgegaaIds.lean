/- The numbers of a graph, told one by one in order: the iterator, and a caller that collects. -/
import Derived.Test.YtehneliphhgegaaKeysU
import Derived.RangeFuncBox
import Derived.RangeFuncLeaves
import Derived.Shelf.Abstract
set_option linter.unusedVariables false
set_option linter.unusedSimpArgs false
set_option maxRecDepth 100000
namespace Go.Proofs.Ytehneliphhgegaa
open Go.RowKit Go.Apo Go.Shelf
attribute [local go_sem] Oper.semAt_some

theorem idsF_calls (q : Option Addr) (w : World) :
    Calls Try.prog 84 #[.pointer q] w fun e w' => e = .returned (.func (.func 110) #[] #[.pointer (some ⟨w.heap.size, 0, none⟩)]) ∧ w' = w.alloc (.cells #[.pointer q] 42) := by
  go_enter Try.func84, Try.ntmps84
  go_wp2
  go_ret
  exact ⟨rfl, rfl⟩

theorem flat_span {w w' : World} {B G : Nat} {A : Option Addr} {cs : List Value} (h : Flat w A cs) (hA : ∀ b off, A = some ⟨b, off, none⟩ → B ≤ b ∧ b < G) (hk : KeepsSpan B G w w') : Flat w' A cs := fun h0 => by
  obtain ⟨b, off, e, hc⟩ := h h0
  obtain ⟨h1, h2⟩ := hA b off e
  exact ⟨b, off, e, fun j u hj => (World.cell?_of_block (w := w) (a := ⟨b, off + j, none⟩) (hk.same b h1 h2)).trans (hc j u hj)⟩
theorem own_blk {w : World} {base e size n k : Nat} {b off : Nat} {xs : List Value} (h : w.ownsRow base e size (.slice (some ⟨b, off, none⟩) n k) n xs) : base ≤ b := by
  rcases h.2 with ⟨h1, _⟩ | ⟨g, cap, cur, h1, h2, _⟩
  · cases h1
  · simp only [Value.slice.injEq, Option.some.injEq, Addr.mk.injEq] at h1
    rw [h1.1.1]; exact h2
theorem own_lt {w : World} {base e size n k : Nat} {b off : Nat} {xs : List Value} (h : w.ownsRow base e size (.slice (some ⟨b, off, none⟩) n k) n xs) : b < w.heap.size := by
  rcases h.2 with ⟨h1, _⟩ | ⟨g, cap, cur, h1, _, h2, _⟩
  · cases h1
  · simp only [Value.slice.injEq, Option.some.injEq, Addr.mk.injEq] at h1
    rw [h1.1.1]; exact (Array.getElem?_eq_some_iff.1 h2).1
theorem grown_below {w w' : World} (hb : Below w.heap.size w w') : w.grownBy w' none := ⟨hb.os, hb.tape, hb.output, hb.size, fun i hi _ => hb.block i hi⟩

set_option maxHeartbeats 4000000 in
theorem ids1_fresh (n : Nat) (hn : 1 ≤ n) (w : World) (Bg p m : Nat) (L : List (Int × CommitD)) (hc : w.cell? ⟨Bg, 0, none⟩ = some (.pointer (some ⟨p, 0, none⟩))) (h : GraphAt w p m L) (hL : L.length ≤ 1000000) (hw : numsIn (mkeys L)) :
    SeqFresh Fence.wide n Try.prog 110 #[.pointer (some ⟨Bg, 0, none⟩)] (fun x : Int => #[Value.int .u64 x]) (fun xs => xs = sortI (mkeys L)) (fun pre => pre <+: sortI (mkeys L)) L.length w := by
  intro l J Jx W hW hJ hJx hY h0
  show CallsIn Fence.wide n Try.prog _ #[.func (.yield l) #[] #[], .pointer (some ⟨Bg, 0, none⟩)] W _
  have hcW := cell_bel hc hW
  have hg := h.below hW
  have hp := hg.1
  have hlt := cell_lt hcW
  have hpt := cell_lt hp
  have HS := Lib.hid (fun Z (hz : Below W.heap.size W Z) B (hB : Z.cell? ⟨B, 0, none⟩ = some (.map (some m))) => sortedC_calls Z B hB (hg.below hz).2 hL hw)
  obtain ⟨S, hS⟩ : ∃ S, S = sortI (mkeys L) := ⟨_, rfl⟩
  have hN : S.length = L.length := by rw [hS, sortI_len]; simp [mkeys]
  obtain ⟨N, hNN⟩ : ∃ N, N = L.length := ⟨_, rfl⟩
  have HS' := Lib.hid hS.symm; clear hS
  rw [← hNN] at hN hL hY
  have HNN := Lib.hid hNN; clear hNN
  have HN := Lib.hid hN; clear hN
  have HJ := Lib.hid hJ; clear hJ
  have HY := Lib.hid hY; clear hY
  have H0 := Lib.hid h0; clear h0
  clear hJx h hc hg
  have f1 : Fence.wide.fn 82 := trivial
  have f2 : Fence.wide.fn 111 := trivial
  have f3 : Fence.wide.fn 93 := trivial
  refine callsIn_of_wp Try.func110 rfl trivial ?_ rfl
  simp only [Try.ntmps110, List.size_toArray, List.length_cons, List.length_nil, Nat.reduceAdd, Nat.reduceSub, Array.replicate_succ, Array.replicate_zero, List.push_toArray, List.append_toArray, List.nil_append, List.cons_append]
  gi_wp2_with (first
    | (gi_at_call 82; refine (callsIn_wide.2 (gok_yes p m _ hp)).mono ?_; rintro e w' ⟨rfl, rfl⟩)
    | (gi_at_call 111; refine (callsIn_wide.2 (keysC_calls _ _)).mono ?_; rintro e w' ⟨rfl, rfl⟩)
    | (gi_at_call 93; refine (callsIn_wide.2 (HS.out _ (bel_al0 (Below.refl _ _) _) _ (cell_at_new W _ _ 0 rfl))).mono ?_; rintro e w1 ⟨v, rfl, ho, hnil, hb⟩; obtain ⟨A, c, rfl, hc⟩ := own_form ho))
  have hnk : (mkeys L).length = N := by rw [HNN.out]; simp [mkeys]
  rw [hnk] at ho hc ⊢
  rw [HS'.out] at ho
  have hbw : Below W.heap.size W w1 := bel_tr (bel_al0 (Below.refl _ W) _) hb
  obtain ⟨G, hG⟩ : ∃ G, G = w1.heap.size := ⟨_, rfl⟩
  have hA : ∀ b off, A = some ⟨b, off, none⟩ → W.heap.size ≤ b ∧ b < G := by
    rintro b off rfl
    have h1 := own_blk ho
    have h2 := own_lt ho
    simp at h1
    omega
  have hfl := own_flat ho
  have hGW : W.heap.size ≤ G := by rw [hG]; exact hbw.size
  have hj0 : J G [] w1 := HJ.out G [] W w1 none (H0.out G hGW) (grown_below hbw) (fun r e => by cases e)
  have HA := Lib.hid hA; clear hA
  have HF := Lib.hid hfl; clear hfl
  have HJ0 := Lib.hid hj0; clear hj0
  have hG1 : G ≤ w1.heap.size := by omega
  clear ho hnil hc hb hbw hG hnk
  gi_loopw [15, 4] (fun v _ wr => ∃ j : Nat, j ≤ N ∧ v = .int .i64 j ∧ Hid (J G (S.take j) wr) ∧ Hid (Flat wr A (nums S)) ∧ G ≤ wr.heap.size) (fun v _ _ => N - (intOf v).toNat)
  case atStart => exact ⟨0, Nat.zero_le _, rfl, HJ0, HF, hG1⟩
  case round =>
    obtain ⟨j, hj, rfl, hJj, hFj, hGj⟩ := hrel
    by_cases hjn : j < N
    · obtain ⟨x, hx⟩ : ∃ x, S[j]? = some x := ⟨_, List.getElem?_eq_getElem (by rw [HN.out]; exact hjn)⟩
      obtain ⟨b, off, rfl, cj⟩ := hFj.out.at_ (nums_at hx)
      have htk : S.take (j + 1) = S.take j ++ [x] := by rw [List.take_add_one, hx]; rfl
      have hbl := cell_lt cj
      have HTK := Lib.hid htk.symm; clear htk
      obtain ⟨fn, tmps, assign, body, hy, hR⟩ := HY.out G (S.take j) x wr hGW hGj hJj.out (by rw [List.length_take, HN.out]; omega)
      clear hx
      gi_wp2
      refine hR.mono ?_
      rintro e W' (⟨rfl, hJ', hk⟩ | ⟨rfl, hJx'⟩)
      · have hF' : Hid (Flat W' (some ⟨b, off, none⟩) (nums S)) := flat_span hFj.out HA.out hk
        have hJ2 : Hid (J G (S.take (j + 1)) W') := by
          show J G _ W'
          rw [← HTK.out]; exact hJ'
        have hGW' : G ≤ W'.heap.size := Nat.le_trans hGj hk.size
        clear hJ' hk hy hR
        gi_wp2
        go_roundw
        case rel => exact ⟨j + 1, by omega, by go_num, hJ2, hF', hGW'⟩
        case measure => simp [intOf]; omega
      · clear hy hR
        gi_wp2
        refine bodyPost_ret (results_none rfl _ _ _) rfl ?_
        refine ⟨⟨_, rfl⟩, .inr ⟨G, _, ?_, hJx'⟩⟩
        rw [HTK.out, HS'.out]
        exact List.take_prefix _ _
    · have hjn' : j = N := by omega
      have htk : S.take j = S := by rw [List.take_of_length_le]; rw [HN.out]; omega
      gi_wp2
      go_end0
      refine ⟨⟨_, rfl⟩, .inl ⟨G, S, HS'.out.symm, ?_⟩⟩
      have := hJj.out
      rwa [htk] at this

/-- what a slice of numbers that one made holds -/
def NumsOwn (w : World) (l : List Int) (e : Ending) (w' : World) : Prop :=
  ∃ v, e = .returned v ∧ w'.ownsRow w.heap.size 24 1 v l.length (nums l) ∧ Below w.heap.size w w'
/-- 'out = append(out, x)' in a round: a box, a row beyond the iterator's blocks -/
theorem boxed_step {W w1 : World} {n₀ B C G : Nat} {t : TypeId} {v v' : Value} {l : List Int} {x : Int} {tmp : Obj} (hv : Boxed W B t v) (ht : t ≠ 24) (hrow : W.ownsRow G 24 1 v l.length (nums l)) (hn₀ : n₀ ≤ W.heap.size) (hnG : n₀ ≤ G) (hB : n₀ ≤ B) (hBC : B < C) (hG : G ≤ W.heap.size)
    (hown' : w1.ownsRow G 24 1 v' (l.length + 1) (nums l ++ [.int .u64 x])) (hgrow : (W.alloc tmp).grownBy w1 v.ownBlock) :
    Boxed w1 B t v ∧ Boxed (w1.setCell ⟨B, 0, none⟩ v') B t v' ∧ (w1.setCell ⟨B, 0, none⟩ v').ownsRow G 24 1 v' (l ++ [x]).length (nums (l ++ [x])) ∧ KeepsOthers W (w1.setCell ⟨B, 0, none⟩ v') ∧ Below n₀ W (w1.setCell ⟨B, 0, none⟩ v') ∧ KeepsSpan C G W (w1.setCell ⟨B, 0, none⟩ v') := by
  obtain ⟨h1, h2, h3, h4, h5⟩ := hv.appended ht (own_mono hrow hnG) hn₀ hB (own_mono hown' hnG) hgrow
  have hbt := (Boxed.not_row (B := B) h1 ht hown')
  refine ⟨h1, h2, ?_, h4, h5, ⟨h4.size, fun k hk1 hk2 => ?_⟩⟩
  · have := hown'.kept (grownBy_setCell' w1 B v') (.inr hbt.symm)
    simpa [nums] using this
  · have e1 : (w1.setCell ⟨B, 0, none⟩ v').heap[k]? = w1.heap[k]? := Below.heap_setCell _ _ _ _ (by show k ≠ B; omega)
    have e2 : w1.heap[k]? = (W.alloc tmp).heap[k]? := hgrow.block k (by simp; omega) (fun e => by
      rcases hrow.2 with ⟨rfl, _⟩ | ⟨g, cap, cur, rfl, hg, _⟩
      · simp [Value.ownBlock] at e
      · simp [Value.ownBlock] at e; omega)
    rw [e1, e2]
    exact Below.heap_alloc W tmp k (by omega)

set_option maxHeartbeats 4000000 in
theorem ids_calls (w : World) (p m : Nat) (L : List (Int × CommitD)) (h : GraphAt w p m L) (hL : L.length ≤ 1000000) (hw : numsIn (mkeys L)) :
    Calls Try.prog 47 #[.pointer (some ⟨p, 0, none⟩)] w (NumsOwn w (sortI (mkeys L))) := by
  refine (callsIn_wide (n := 4)).1 ?_
  obtain ⟨i0, hi, hz0, hz1, hz2⟩ := info_parts infoU64
  have f1 : Fence.wide.fn 84 := trivial
  refine callsIn_of_wp_marks Try.func47 rfl trivial ?_ rfl
  simp only [Try.ntmps47, List.size_toArray, List.length_cons, List.length_nil, Nat.reduceAdd, Nat.reduceSub, Array.replicate_succ, Array.replicate_zero, List.push_toArray, List.append_toArray, List.nil_append, List.cons_append]
  gi_wp2_with (gi_at_call 84; refine (callsIn_wide.2 (idsF_calls _ _)).mono ?_; rintro e w' ⟨rfl, rfl⟩)
  have bO := Boxed.new w 50 (.slice none 0 0)
  have bN := Boxed.new (w.alloc (.cells #[.slice none 0 0] 50)) 42 (.pointer (some ⟨p, 0, none⟩))
  rw [World.size_alloc] at bN
  have hB0 : Below w.heap.size w ((w.alloc (.cells #[.slice none 0 0] 50)).alloc (.cells #[.pointer (some ⟨p, 0, none⟩)] 42)) := by (repeat (first | (with_reducible exact Below.refl _ _) | (with_reducible assumption) | (with_reducible refine bel_al0 ?_ _) | (with_reducible refine bel_set ?_ (by first | (simp; done) | (simp; omega)) _) | (with_reducible refine bel_dr ?_) | (with_reducible refine bel_drn ?_ _) | (with_reducible refine bel_tr ?_ (by assumption))))
  refine wpIn_rangeFunc_fresh rfl (by omega) (gf := 110) (lb := #[.pointer (some ⟨w.heap.size + 1, 0, none⟩)]) rfl trivial (enters_of Try.func110 (by kernel_rfl) rfl)
    (ids1_fresh 3 (by omega) _ (w.heap.size + 1) p m L bN.cell (h.below hB0) hL hw) (Below.refl _ _) (fun _ => rfl)
    (fun G pre W => (∃ v, Boxed W w.heap.size 50 v ∧ W.ownsRow G 24 1 v pre.length (nums pre) ∧ w.heap.size ≤ G) ∧ Below w.heap.size w W)
    (fun _ _ _ _ => False)
    (fun G => OwnFrom.and (Own.from (holdsRow_own G w.heap.size 50 24 1 (fun pre : List Int => pre.length) (fun pre => nums pre) (fun _ _ => w.heap.size ≤ G)) _) (ownFrom_below (Nat.le_refl _) (by simp; omega)))
    (fun _ _ _ _ _ _ hs _ _ => hs)
    (fun G hG => ⟨⟨_, bO.alloc _, World.ownsRow_nil _ _ _ _, by simp at hG; omega⟩, hB0⟩)
    (fun x => { tmps := #[.pointer (some ⟨p, 0, none⟩), undef, .slice none 0 0, .pointer (some ⟨w.heap.size, 0, none⟩), .int .u64 x, .pointer (some ⟨p, 0, none⟩), .func (.func 110) #[] #[.pointer (some ⟨w.heap.size + 1, 0, none⟩)], .int .u64 x, undef, undef, undef, undef, undef], defers := [] }) ?assign ?body ?done ?stop
  case assign =>
    intro l x W K hK
    gi_wp2
    exact hK
  case body =>
    rintro G l pre x W hG hGW ⟨⟨v, hv, hrow, hnG⟩, hB⟩ hlt
    have hc := hv.cell
    have hsz := hB.size
    simp at hG
    gi_wp2_with (gi_at_builtin; refine wpListIn_append_own _ rfl _ _ 50 rfl G 24 i0 (.int .u64 0) 1 8 Try.underlying50 hi hz0 hz1 hz2 rfl (by decide) _ _ _ rfl (hrow.alloc _) ⟨W.heap.size, 0, none⟩ 1 1 [.int .u64 x] rfl rfl (cell_one_new _ _ _) (by simp [Value.oneCell']) (by unfold maxLen; omega) (by omega) (by simp; omega) ?_; intro v' w1 hown' hgrow _; obtain ⟨g', cap', rfl⟩ := ownsRow_succ hown'; obtain ⟨hv1, hv2, hr2, hk2, hb2, hs2⟩ := boxed_step (C := w.heap.size + 4) hv (by decide) hrow hsz (by omega) (Nat.le_refl _) (by omega) hGW hown' hgrow; have hc1 := hv1.cell; have hf1 := hv1.frozen)
    exact ⟨hk2.from _, by simpa using hs2, ⟨_, hv2, hr2, hnG⟩, hB.trans hb2⟩
  case done =>
    rintro D G ys W hD rfl ⟨⟨v, hv, hrow, hnG⟩, hB⟩ hK
    have hc := hv.cell
    gi_wp2
    refine ⟨by simp, .inl ⟨_, _, rfl, run_takeDeferred hK, ?_⟩⟩
    refine ⟨_, results_tmp rfl _ _ _, v, rfl, ownsRow_putObj (own_mono hrow hnG) _ hK rfl, hB.trans (belowK_b (w := w) (Nat.le_refl _) W D _ _ (by simp at hD; omega) hK rfl rfl)⟩
  case stop =>
    rintro D G c pre W _ _ h _
    exact h.elim
end Go.Proofs.Ytehneliphhgegaa
