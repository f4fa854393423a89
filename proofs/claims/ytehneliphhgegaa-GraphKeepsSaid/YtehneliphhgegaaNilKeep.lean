/- Keep, Add and ids of a graph that nobody made: walked. -/
import Derived.Test.YtehneliphhgegaaNilG
set_option linter.unusedVariables false
set_option linter.unusedSimpArgs false
set_option maxRecDepth 100000
namespace Go.Proofs.Ytehneliphhgegaa
open Go.RowKit Go.Apo Go.Shelf
attribute [local go_sem] Oper.semAt_some
theorem keep_nil (w : World) (A : Option Addr) (n k : Nat) : Calls Try.prog 66 #[.pointer none, .slice A n k] w fun e w' => e = .returned (.int .i64 0) ∧ Below w.heap.size w w' := by
  go_enter Try.func66, Try.ntmps66
  go_wp2_with (go_at_call 82; refine (gok_nil _).mono ?_; rintro e w' ⟨rfl, rfl⟩)
  go_ret
  exact ⟨rfl, by (repeat (first | (with_reducible exact Below.refl _ _) | (with_reducible assumption) | (with_reducible refine bel_al0 ?_ _) | (with_reducible refine bel_set ?_ (by first | (simp; done) | (simp; omega)) _) | (with_reducible refine bel_dr ?_) | (with_reducible refine bel_drn ?_ _) | (with_reducible refine bel_tr ?_ (by assumption))))⟩
theorem add_nil (w : World) (i g r : Int) (t : ByteArray) (A : Option Addr) (n k : Nat) (ps : List Int) (hn : ps.length = n) (hf : Flat w A (nums ps)) :
    Calls Try.prog 68 #[.pointer none, .agg #[.int .u64 i, .slice A n k, .int .u64 g, .int .u64 r, .string t]] w fun e w' => ∃ x : Int, e = .returned (.int .i64 x) ∧ (x == 0) = false ∧ Below w.heap.size w w' := by
  have HR := Lib.hid (fun W hW => right_calls W i g r t A n k ps hn hW)
  obtain ⟨e, he⟩ : ∃ e, e = rightE ⟨i, ps, g, r, t⟩ := ⟨_, rfl⟩
  rw [← he] at HR
  clear he
  have HF := Lib.hid hf; clear hf
  by_cases he0 : e = 0
  · subst he0
    go_enter Try.func68, Try.ntmps68
    go_wp2_with (first | (go_at_call 102; refine (HR.out _ (HF.out.below (by (repeat (first | (with_reducible exact Below.refl _ _) | (with_reducible assumption) | (with_reducible refine bel_al0 ?_ _) | (with_reducible refine bel_set ?_ (by first | (simp; done) | (simp; omega)) _) | (with_reducible refine bel_dr ?_) | (with_reducible refine bel_drn ?_ _) | (with_reducible refine bel_tr ?_ (by assumption))))))).mono ?_; rintro e' w1 ⟨rfl, hb1⟩) | (go_at_call 82; refine (gok_nil _).mono ?_; rintro e w' ⟨rfl, rfl⟩))
    go_ret
    exact ⟨120, rfl, by decide, by (repeat (first | (with_reducible exact Below.refl _ _) | (with_reducible assumption) | (with_reducible refine bel_al0 ?_ _) | (with_reducible refine bel_set ?_ (by first | (simp; done) | (simp; omega)) _) | (with_reducible refine bel_dr ?_) | (with_reducible refine bel_drn ?_ _) | (with_reducible refine bel_tr ?_ (by assumption))))⟩
  · have g1 : (e == 0) = false := by simpa using he0
    have g2 : (!(e == 0)) = true := by simpa using he0
    go_enter Try.func68, Try.ntmps68
    go_wp2_with (go_at_call 102; refine (HR.out _ (HF.out.below (by (repeat (first | (with_reducible exact Below.refl _ _) | (with_reducible assumption) | (with_reducible refine bel_al0 ?_ _) | (with_reducible refine bel_set ?_ (by first | (simp; done) | (simp; omega)) _) | (with_reducible refine bel_dr ?_) | (with_reducible refine bel_drn ?_ _) | (with_reducible refine bel_tr ?_ (by assumption))))))).mono ?_; rintro e' w1 ⟨rfl, hb1⟩)
    go_ret
    exact ⟨e, rfl, g1, by (repeat (first | (with_reducible exact Below.refl _ _) | (with_reducible assumption) | (with_reducible refine bel_al0 ?_ _) | (with_reducible refine bel_set ?_ (by first | (simp; done) | (simp; omega)) _) | (with_reducible refine bel_dr ?_) | (with_reducible refine bel_drn ?_ _) | (with_reducible refine bel_tr ?_ (by assumption))))⟩
set_option maxHeartbeats 4000000 in
theorem ids_gp (w : World) (gq : Option Addr) (L : List (Int × CommitD)) (h : GP w gq L) (hL : L.length ≤ 1000000) (hw : numsIn (mkeys L)) :
    Calls Try.prog 47 #[.pointer gq] w (NumsOwn w (sortI (mkeys L))) := by
  refine (callsIn_wide (n := 4)).1 ?_
  obtain ⟨i0, hi, hz0, hz1, hz2⟩ := info_parts infoU64
  have f1 : Fence.wide.fn 84 := trivial
  refine callsIn_of_wp_marks Try.func47 rfl trivial ?_ rfl
  simp only [Try.ntmps47, List.size_toArray, List.length_cons, List.length_nil, Nat.reduceAdd, Nat.reduceSub, Array.replicate_succ, Array.replicate_zero, List.push_toArray, List.append_toArray, List.nil_append, List.cons_append]
  gi_wp2_with (gi_at_call 84; refine (callsIn_wide.2 (idsF_calls _ _)).mono ?_; rintro e w' ⟨rfl, rfl⟩)
  have bO := Boxed.new w 50 (.slice none 0 0)
  have bN := Boxed.new (w.alloc (.cells #[.slice none 0 0] 50)) 42 (.pointer gq)
  rw [World.size_alloc] at bN
  have hB0 : Below w.heap.size w ((w.alloc (.cells #[.slice none 0 0] 50)).alloc (.cells #[.pointer gq] 42)) := by (repeat (first | (with_reducible exact Below.refl _ _) | (with_reducible assumption) | (with_reducible refine bel_al0 ?_ _) | (with_reducible refine bel_set ?_ (by first | (simp; done) | (simp; omega)) _) | (with_reducible refine bel_dr ?_) | (with_reducible refine bel_drn ?_ _) | (with_reducible refine bel_tr ?_ (by assumption))))
  refine wpIn_rangeFunc_fresh rfl (by omega) (gf := 110) (lb := #[.pointer (some ⟨w.heap.size + 1, 0, none⟩)]) rfl trivial (enters_of Try.func110 (by kernel_rfl) rfl)
    (N.ids1_fresh 3 (by omega) _ (w.heap.size + 1) gq L bN.cell (h.below hB0) hL hw) (Below.refl _ _) (fun _ => rfl)
    (fun G pre W => (∃ v, Boxed W w.heap.size 50 v ∧ W.ownsRow G 24 1 v pre.length (nums pre) ∧ w.heap.size ≤ G) ∧ Below w.heap.size w W)
    (fun _ _ _ _ => False)
    (fun G => OwnFrom.and (Own.from (holdsRow_own G w.heap.size 50 24 1 (fun pre : List Int => pre.length) (fun pre => nums pre) (fun _ _ => w.heap.size ≤ G)) _) (ownFrom_below (Nat.le_refl _) (by simp; omega)))
    (fun _ _ _ _ _ _ hs _ _ => hs)
    (fun G hG => ⟨⟨_, bO.alloc _, World.ownsRow_nil _ _ _ _, by simp at hG; omega⟩, hB0⟩)
    (fun x => { tmps := #[.pointer gq, undef, .slice none 0 0, .pointer (some ⟨w.heap.size, 0, none⟩), .int .u64 x, .pointer gq, .func (.func 110) #[] #[.pointer (some ⟨w.heap.size + 1, 0, none⟩)], .int .u64 x, undef, undef, undef, undef, undef], defers := [] }) ?assign ?body ?done ?stop
  case assign =>
    intro l x W K hK
    gi_wp2
    exact hK
  case body =>
    rintro G l pre x W hG hGW ⟨⟨v, hv, hrow, hnG⟩, hB⟩ hlt
    have hc := hv.cell
    have hsz := hB.size
    simp at hG
    gi_wp2_with (gi_at_builtin; refine wpListIn_append_own _ rfl _ _ 50 rfl G 24 i0 (.int .u64 0) 1 8 Try.underlying50 hi hz0 hz1 hz2 rfl (by decide) _ _ _ rfl (hrow.alloc _) ⟨W.heap.size, 0, none⟩ 1 1 [.int .u64 x] rfl rfl (cell_one_new _ _ _) (by simp [Value.oneCell']) (by unfold maxLen; omega) (by omega) (by simp; omega) ?_; intro v' w1 hown' hgrow _; obtain ⟨g', cap', rfl⟩ := ownsRow_succ hown'; obtain ⟨hv1, hv2, hr2, hk2, hb2, hs2⟩ := boxed_step (C := w.heap.size + 4) hv (by decide) hrow hsz (by omega) (Nat.le_refl _) (by omega) hGW hown' hgrow; have hc1 := hv1.cell; have hf1 := hv1.frozen)
    exact ⟨hk2.from _, by simpa using hs2, ⟨_, hv2, hr2, hnG⟩, hB.trans hb2⟩
  case done =>
    rintro D G ys W hD rfl ⟨⟨v, hv, hrow, hnG⟩, hB⟩ hK
    have hc := hv.cell
    gi_wp2
    refine ⟨by simp, .inl ⟨_, _, rfl, run_takeDeferred hK, ?_⟩⟩
    refine ⟨_, results_tmp rfl _ _ _, v, rfl, ownsRow_putObj (own_mono hrow hnG) _ hK rfl, hB.trans (belowK_b (w := w) (Nat.le_refl _) W D _ _ (by simp at hD; omega) hK rfl rfl)⟩
  case stop =>
    rintro D G c pre W _ _ h _
    exact h.elim
end Go.Proofs.Ytehneliphhgegaa
