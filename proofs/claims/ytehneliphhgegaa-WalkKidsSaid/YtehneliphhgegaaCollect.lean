/- slices.Collect of a graph's numbers; slices.Index, slices.Contains: walked once. -/
import Derived.Test.YtehneliphhgegaaDel
set_option linter.unusedVariables false
set_option linter.unusedSimpArgs false
set_option maxRecDepth 100000
namespace Go.Proofs.Ytehneliphhgegaa
open Go.RowKit Go.Apo Go.Shelf
attribute [local go_sem] Oper.semAt_some

set_option maxHeartbeats 4000000 in
theorem appendSeq_calls (w : World) (Bg p m : Nat) (L : List (Int × CommitD)) (hc : w.cell? ⟨Bg, 0, none⟩ = some (.pointer (some ⟨p, 0, none⟩))) (h : GraphAt w p m L) (hL : L.length ≤ 1000000) (hw : numsIn (mkeys L)) :
    Calls Try.prog 114 #[.slice none 0 0, .func (.func 110) #[] #[.pointer (some ⟨Bg, 0, none⟩)]] w (NumsOwn w (sortI (mkeys L))) := by
  refine (callsIn_wide (n := 4)).1 ?_
  obtain ⟨i0, hi, hz0, hz1, hz2⟩ := info_parts infoU64
  refine callsIn_of_wp_marks Try.func114 rfl trivial ?_ rfl
  simp only [Try.ntmps114, List.size_toArray, List.length_cons, List.length_nil, Nat.reduceAdd, Nat.reduceSub, Array.replicate_succ, Array.replicate_zero, List.push_toArray, List.append_toArray, List.nil_append, List.cons_append]
  gi_wp2
  have bO := Boxed.new w 50 (.slice none 0 0)
  have hB0 : Below w.heap.size w (w.alloc (.cells #[.slice none 0 0] 50)) := by (repeat (first | (with_reducible exact Below.refl _ _) | (with_reducible assumption) | (with_reducible refine bel_al0 ?_ _) | (with_reducible refine bel_set ?_ (by first | (simp; done) | (simp; omega)) _) | (with_reducible refine bel_dr ?_) | (with_reducible refine bel_drn ?_ _) | (with_reducible refine bel_tr ?_ (by assumption))))
  refine wpIn_rangeFunc_fresh rfl (by omega) (gf := 110) (lb := #[.pointer (some ⟨Bg, 0, none⟩)]) rfl trivial (enters_of Try.func110 (by kernel_rfl) rfl)
    (ids1_fresh 3 (by omega) _ Bg p m L (cell_bel hc hB0) (h.below hB0) hL hw) (Below.refl _ _) (fun _ => rfl)
    (fun G pre W => (∃ v, Boxed W w.heap.size 50 v ∧ W.ownsRow G 24 1 v pre.length (nums pre) ∧ w.heap.size ≤ G) ∧ Below w.heap.size w W)
    (fun _ _ _ _ => False)
    (fun G => OwnFrom.and (Own.from (holdsRow_own G w.heap.size 50 24 1 (fun pre : List Int => pre.length) (fun pre => nums pre) (fun _ _ => w.heap.size ≤ G)) _) (ownFrom_below (Nat.le_refl _) (by simp)))
    (fun _ _ _ _ _ _ hs _ _ => hs)
    (fun G hG => ⟨⟨_, bO, World.ownsRow_nil _ _ _ _, by simp at hG; omega⟩, hB0⟩)
    (fun x => { tmps := #[.slice none 0 0, .func (.func 110) #[] #[.pointer (some ⟨Bg, 0, none⟩)], .pointer (some ⟨w.heap.size, 0, none⟩), undef, .slice none 0 0, .int .u64 x, .func (.func 110) #[] #[.pointer (some ⟨Bg, 0, none⟩)], .int .u64 x, undef, undef, undef, undef, undef], defers := [] }) ?assign ?body ?done ?stop
  case assign =>
    intro l x W K hK
    gi_wp2
    exact hK
  case body =>
    rintro G l pre x W hG hGW ⟨⟨v, hv, hrow, hnG⟩, hB⟩ hlt
    have hc := hv.cell
    have hsz := hB.size
    simp at hG
    gi_wp2_with (gi_at_builtin; refine wpListIn_append_own _ rfl _ _ 50 rfl G 24 i0 (.int .u64 0) 1 8 Try.underlying50 hi hz0 hz1 hz2 rfl (by decide) _ _ _ rfl (hrow.alloc _) ⟨W.heap.size, 0, none⟩ 1 1 [.int .u64 x] rfl rfl (cell_one_new _ _ _) (by simp [Value.oneCell']) (by unfold maxLen; omega) (by omega) (by simp; omega) ?_; intro v' w1 hown' hgrow _; obtain ⟨g', cap', rfl⟩ := ownsRow_succ hown'; obtain ⟨hv1, hv2, hr2, hk2, hb2, hs2⟩ := boxed_step (C := w.heap.size + 3) hv (by decide) hrow hsz (by omega) (Nat.le_refl _) (by omega) hGW hown' hgrow; have hc1 := hv1.cell; have hf1 := hv1.frozen)
    exact ⟨hk2.from _, by simpa using hs2, ⟨_, hv2, hr2, hnG⟩, hB.trans hb2⟩
  case done =>
    rintro D G ys W hD rfl ⟨⟨v, hv, hrow, hnG⟩, hB⟩ hK
    have hc := hv.cell
    gi_wp2
    refine ⟨by simp, .inl ⟨_, _, rfl, run_takeDeferred hK, ?_⟩⟩
    refine ⟨_, results_tmp rfl _ _ _, v, rfl, ownsRow_putObj (own_mono hrow hnG) _ hK rfl, hB.trans (belowK_b (w := w) (Nat.le_refl _) W D _ _ (by simp at hD; omega) hK rfl rfl)⟩
  case stop =>
    rintro D G c pre W _ _ h _
    exact h.elim
theorem collect_calls (w : World) (Bg p m : Nat) (L : List (Int × CommitD)) (hc : w.cell? ⟨Bg, 0, none⟩ = some (.pointer (some ⟨p, 0, none⟩))) (h : GraphAt w p m L) (hL : L.length ≤ 1000000) (hw : numsIn (mkeys L)) :
    Calls Try.prog 88 #[.func (.func 110) #[] #[.pointer (some ⟨Bg, 0, none⟩)]] w (NumsOwn w (sortI (mkeys L))) := by
  have HA := Lib.hid (appendSeq_calls w Bg p m L hc h hL hw)
  clear hc h
  go_enter Try.func88, Try.ntmps88
  go_wp2_with (go_at_call 114; refine HA.out.mono ?_; rintro e w1 ⟨v, rfl, ho, hb⟩)
  go_ret
  exact ⟨v, rfl, ho, hb⟩

/-! slices.Index, slices.Contains -/
def hasB (l : List Int) (x : Int) : Bool := l.any fun y => x == y
theorem index_calls (w : World) (A : Option Addr) (n k : Nat) (l : List Int) (hn : l.length = n) (hf : Flat w A (nums l)) (hn2 : n ≤ 100000) (x : Int) :
    Calls Try.prog 112 #[.slice A n k, .int .u64 x] w fun e w' => e = .returned (.int .i64 (firstB (fun y => x == y) l)) ∧ Below w.heap.size w w' := by
  obtain ⟨r, hr⟩ : ∃ r, r = firstB (fun y => x == y) l := ⟨_, rfl⟩
  rw [← hr]
  have HR := Lib.hid hr; clear hr
  have HN := Lib.hid hn; clear hn
  have HF := Lib.hid hf; clear hf
  go_enter Try.func112, Try.ntmps112
  go_wp2
  go_loopw [8, 5] (fun v _ wr => ∃ j : Nat, j ≤ n ∧ v = .int .i64 j ∧ Hid (∀ q y, q < j → l[q]? = some y → (x == y) = false) ∧ Below w.heap.size w wr) (fun v _ _ => n - (intOf v).toNat)
  case atStart => exact ⟨0, Nat.zero_le _, rfl, fun q _ hq => absurd hq (Nat.not_lt_zero _), by (repeat (first | (with_reducible exact Below.refl _ _) | (with_reducible assumption) | (with_reducible refine bel_al0 ?_ _) | (with_reducible refine bel_set ?_ (by first | (simp; done) | (simp; omega)) _) | (with_reducible refine bel_dr ?_) | (with_reducible refine bel_drn ?_ _) | (with_reducible refine bel_tr ?_ (by assumption))))⟩
  case round =>
    obtain ⟨j, hj, rfl, hok, hB⟩ := hrel
    by_cases hlt : j < n
    · obtain ⟨y, hy⟩ : ∃ y, l[j]? = some y := ⟨_, List.getElem?_eq_getElem (by rw [HN.out]; exact hlt)⟩
      obtain ⟨b, off, rfl, cj⟩ := HF.out.at_ (nums_at hy)
      replace cj := cell_bel cj hB
      have hbl := cell_lt cj
      by_cases he : x = y
      · subst he
        obtain rfl : r = j := by rw [HR.out]; exact firstB_some hy (by simp) hok.out
        clear hy
        go_wp2
        go_ret
        exact ⟨rfl, by (repeat (first | (with_reducible exact Below.refl _ _) | (with_reducible assumption) | (with_reducible refine bel_al0 ?_ _) | (with_reducible refine bel_set ?_ (by first | (simp; done) | (simp; omega)) _) | (with_reducible refine bel_dr ?_) | (with_reducible refine bel_drn ?_ _) | (with_reducible refine bel_tr ?_ (by assumption))))⟩
      · have g1 : (x == y) = false := by simpa using he
        have HY := Lib.hid hy; clear hy
        have HG := Lib.hid g1
        go_wp2
        go_roundw
        case rel =>
          refine ⟨j + 1, by omega, by go_num, fun q x' hq hq' => ?_, by (repeat (first | (with_reducible exact Below.refl _ _) | (with_reducible assumption) | (with_reducible refine bel_al0 ?_ _) | (with_reducible refine bel_set ?_ (by first | (simp; done) | (simp; omega)) _) | (with_reducible refine bel_dr ?_) | (with_reducible refine bel_drn ?_ _) | (with_reducible refine bel_tr ?_ (by assumption))))⟩
          rcases Nat.lt_or_ge q j with h' | h'
          · exact hok.out q x' h' hq'
          · obtain rfl : q = j := by omega
            rw [HY.out] at hq'; cases hq'; exact HG.out
        case measure => simp [intOf]; omega
    · have hr : r = -1 := by
        rw [HR.out]
        refine firstB_none fun y hy => ?_
        obtain ⟨q, hq⟩ := List.mem_iff_getElem?.1 hy
        exact hok.out q y (by have := (List.getElem?_eq_some_iff.1 hq).1; have := HN.out; omega) hq
      subst hr
      go_wp2
      go_ret
      exact ⟨rfl, hB⟩
theorem contains_calls (w : World) (A : Option Addr) (n k : Nat) (l : List Int) (hn : l.length = n) (hf : Flat w A (nums l)) (hn2 : n ≤ 100000) (x : Int) :
    Calls Try.prog 86 #[.slice A n k, .int .u64 x] w fun e w' => e = .returned (.bool (hasB l x)) ∧ Below w.heap.size w w' := by
  have HI := Lib.hid (index_calls w A n k l hn hf hn2 x)
  unfold hasB
  rw [← firstB_any]
  clear hf hn
  obtain ⟨r, hr⟩ : ∃ r, r = firstB (fun y => x == y) l := ⟨_, rfl⟩
  rw [← hr] at HI ⊢
  clear hr
  go_enter Try.func86, Try.ntmps86
  go_wp2_with (go_at_call 112; refine HI.out.mono ?_; rintro e w1 ⟨rfl, hb1⟩)
  go_ret
  exact ⟨rfl, hb1⟩
end Go.Proofs.Ytehneliphhgegaa
