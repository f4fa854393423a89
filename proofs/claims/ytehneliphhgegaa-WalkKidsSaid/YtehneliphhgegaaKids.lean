/- The children of a commit: walked once. -/
import Derived.Test.YtehneliphhgegaaCollect
set_option linter.unusedVariables false
set_option linter.unusedSimpArgs false
set_option maxRecDepth 100000
namespace Go.Proofs.Ytehneliphhgegaa
open Go.RowKit Go.Apo Go.Shelf
attribute [local go_sem] Oper.semAt_some

/-- of some commits those that have x for a parent -/
def kidsIn (L : List (Int × CommitD)) (x : Int) (l : List Int) : List Int := l.filter fun k => hasB (gGet L k).par x
def kidsL (L : List (Int × CommitD)) (x : Int) : List Int := kidsIn L x (sortI (mkeys L))
theorem kidsIn_snoc (L : List (Int × CommitD)) (x : Int) (l : List Int) (k : Int) : kidsIn L x (l ++ [k]) = if hasB (gGet L k).par x then kidsIn L x l ++ [k] else kidsIn L x l := by
  unfold kidsIn
  rw [List.filter_append]
  cases h : hasB (gGet L k).par x <;> simp [h]
theorem kidsIn_len (L : List (Int × CommitD)) (x : Int) (l : List Int) : (kidsIn L x l).length ≤ l.length := List.length_filter_le _ _
theorem keepsO_below {W W' : World} (hb : Below W.heap.size W W') : KeepsOthers W W' := KeepsOthers.of_grownBy (grown_below hb) (fun j o e _ => by cases e)
theorem keepsS_below {W W' : World} {C G : Nat} (hb : Below W.heap.size W W') (hG : G ≤ W.heap.size) : KeepsSpan C G W W' := ⟨hb.size, fun k _ hk => hb.block k (by omega)⟩
theorem boxed_bel {W W' : World} {B : Nat} {t : TypeId} {v : Value} (h : Boxed W B t v) (hb : Below W.heap.size W W') : Boxed W' B t v := (hb.block B h.lt).trans h

set_option maxHeartbeats 8000000 in
theorem kids_calls (w : World) (p m : Nat) (L : List (Int × CommitD)) (h : GraphAt w p m L) (hO : LOk L) (hL : L.length ≤ 100000) (hw : numsIn (mkeys L)) (x : Int) :
    Calls Try.prog 52 #[.pointer (some ⟨p, 0, none⟩), .int .u64 x] w (NumsOwn w (kidsL L x)) := by
  refine (callsIn_wide (n := 4)).1 ?_
  obtain ⟨i0, hi, hz0, hz1, hz2⟩ := info_parts infoU64
  have f1 : Fence.wide.fn 84 := trivial
  have HP := Lib.hid (fun k => (show (gGet L k).par.length ≤ 2 by
    unfold gGet
    cases hq : mget L k with
    | none => simp [CommitD.zero]
    | some c => exact hO.two k c hq))
  refine callsIn_of_wp_marks Try.func52 rfl trivial ?_ rfl
  simp only [Try.ntmps52, List.size_toArray, List.length_cons, List.length_nil, Nat.reduceAdd, Nat.reduceSub, Array.replicate_succ, Array.replicate_zero, List.push_toArray, List.append_toArray, List.nil_append, List.cons_append]
  gi_wp2_with (gi_at_call 84; refine (callsIn_wide.2 (idsF_calls _ _)).mono ?_; rintro e w' ⟨rfl, rfl⟩)
  obtain ⟨z, hz⟩ : ∃ z, z = w.heap.size := ⟨_, rfl⟩
  obtain ⟨W4, hW4⟩ : ∃ W4, W4 = (((w.alloc (.cells #[.pointer (some ⟨p, 0, none⟩)] 42)).alloc (.cells #[.int .u64 x] 24)).alloc (.cells #[.slice none 0 0] 50)).alloc (.cells #[.pointer (some ⟨p, 0, none⟩)] 42) := ⟨_, rfl⟩
  have hz4 : W4.heap.size = z + 4 := by rw [hW4, hz]; simp
  have hBw : Below w.heap.size w W4 := by rw [hW4]; (repeat (first | (with_reducible exact Below.refl _ _) | (with_reducible assumption) | (with_reducible refine bel_al0 ?_ _) | (with_reducible refine bel_set ?_ (by first | (simp; done) | (simp; omega)) _) | (with_reducible refine bel_dr ?_) | (with_reducible refine bel_drn ?_ _) | (with_reducible refine bel_tr ?_ (by assumption))))
  have c0 : W4.cell? ⟨z, 0, none⟩ = some (.pointer (some ⟨p, 0, none⟩)) := by
    rw [hW4, hz]; exact cell_al (cell_al (cell_al (cell_at_new w _ _ 0 rfl) _) _) _
  have c1 : W4.cell? ⟨z + 1, 0, none⟩ = some (.int .u64 x) := by
    rw [hW4, hz]
    have := cell_at_new (w.alloc (.cells #[.pointer (some ⟨p, 0, none⟩)] 42)) #[.int .u64 x] 24 0 (v := .int .u64 x) rfl
    rw [World.size_alloc] at this
    exact cell_al (cell_al this _) _
  have bO : Boxed W4 (z + 1 + 1) 50 (.slice none 0 0) := by
    have := Boxed.new ((w.alloc (.cells #[.pointer (some ⟨p, 0, none⟩)] 42)).alloc (.cells #[.int .u64 x] 24)) 50 (.slice none 0 0)
    rw [World.size_alloc, World.size_alloc] at this
    rw [hW4, hz]; exact this.alloc _
  have c3 : W4.cell? ⟨z + 1 + 1 + 1, 0, none⟩ = some (.pointer (some ⟨p, 0, none⟩)) := by
    rw [hW4, hz]
    have := cell_at_new (((w.alloc (.cells #[.pointer (some ⟨p, 0, none⟩)] 42)).alloc (.cells #[.int .u64 x] 24)).alloc (.cells #[.slice none 0 0] 50)) #[.pointer (some ⟨p, 0, none⟩)] 42 0 (v := .pointer (some ⟨p, 0, none⟩)) rfl
    rw [World.size_alloc, World.size_alloc, World.size_alloc] at this
    exact this
  rw [← hW4, ← hz]
  clear hW4
  have hG4 := h.below hBw
  have hBZ : Below (z + 2) W4 W4 := Below.refl _ _
  have HG4 := Lib.hid (fun W (hW : Below (z + 2) W4 W) => h.below (hBw.trans (hW.mono (by omega))))
  have HZ := Lib.hid hz
  clear h hz
  refine wpIn_rangeFunc_fresh rfl (by omega) (gf := 110) (lb := #[.pointer (some ⟨z + 1 + 1 + 1, 0, none⟩)]) rfl trivial (enters_of Try.func110 (by kernel_rfl) rfl)
    (ids1_fresh 3 (by omega) W4 (z + 1 + 1 + 1) p m L c3 hG4 (by omega) hw) (Below.refl _ _) (fun _ => rfl)
    (fun G pre W => (∃ v, Boxed W (z + 1 + 1) 50 v ∧ W.ownsRow G 24 1 v (kidsIn L x pre).length (nums (kidsIn L x pre)) ∧ z + 2 ≤ G) ∧ Below (z + 2) W4 W)
    (fun _ _ _ _ => False)
    (fun G => OwnFrom.and (Own.from (holdsRow_own G (z + 1 + 1) 50 24 1 (fun pre : List Int => (kidsIn L x pre).length) (fun pre => nums (kidsIn L x pre)) (fun _ _ => z + 2 ≤ G)) _) (ownFrom_below (by omega) (by omega)))
    (fun _ _ _ _ _ _ hs _ _ => hs)
    (fun G hG => ⟨⟨_, bO, World.ownsRow_nil _ _ _ _, by omega⟩, hBZ⟩)
    (fun k => { tmps := #[.pointer (some ⟨p, 0, none⟩), .int .u64 x, .pointer (some ⟨z, 0, none⟩), .pointer (some ⟨z + 1, 0, none⟩), .slice none 0 0, .pointer (some ⟨z + 1 + 1, 0, none⟩), .int .u64 k, undef, undef, .pointer (some ⟨p, 0, none⟩), .func (.func 110) #[] #[.pointer (some ⟨z + 1 + 1 + 1, 0, none⟩)], .int .u64 k, undef, undef, undef, undef, undef, undef, undef, undef, undef, undef, undef, undef, undef, undef, undef], defers := [] }) ?assign ?body ?done ?stop
  case assign =>
    intro l k W K hK
    gi_wp2
    exact hK
  case body =>
    rintro G l pre k W hG hGW ⟨⟨v, hv, hrow, hnG⟩, hB⟩ hlt
    have q0 := (hB.cell (p := ⟨z, 0, none⟩) (by show z < z + 2; omega)).trans c0
    have q1 := (hB.cell (p := ⟨z + 1, 0, none⟩) (by show z + 1 < z + 2; omega)).trans c1
    have hzW : z + 4 ≤ W.heap.size := by have := hB.size; omega
    have f2 : Fence.wide.fn 44 := trivial
    have f3 : Fence.wide.fn 86 := trivial
    have HGE := Lib.hid (gget_calls p m W L (HG4.out W hB) k)
    have hp2 := HP.out k
    have HIN := Lib.hid (kidsIn_snoc L x pre k)
    have HLE := kidsIn_len L x pre
    obtain ⟨c, hc⟩ : ∃ c, c = gGet L k := ⟨_, rfl⟩
    unfold GetOwn at HGE
    rw [← hc] at HGE hp2 HIN
    clear hc
    obtain ⟨kk, hkk⟩ : ∃ kk, kk = kidsIn L x pre := ⟨_, rfl⟩
    rw [← hkk] at hrow HIN HLE
    clear hkk
    obtain ⟨np, hnp⟩ : ∃ np, np = c.par.length := ⟨_, rfl⟩
    rw [← hnp] at HGE hp2
    have HNP := Lib.hid hnp.symm; clear hnp
    obtain ⟨y, hy⟩ : ∃ y, y = hasB c.par x := ⟨_, rfl⟩
    rw [← hy] at HIN
    have HY := Lib.hid hy; clear hy
    have HV := Lib.hid hv; clear hv
    have HROW := Lib.hid hrow; clear hrow
    cases y with
    | false =>
      gi_wp2_with (first | (gi_at_call 44; refine ((callsIn_wide.2 HGE.out).inRound l).mono ?_; rintro e w5 ⟨A5, k5, rfl, ho5, hb5⟩; have hf5 := Lib.hid (own_flat ho5); clear ho5; replace q1 := cell_bel q1 hb5; have hz5 := hb5.size; have hz6 : z + 1 < w5.heap.size := (by omega)) | (gi_at_call 86; refine ((callsIn_wide.2 (contains_calls _ A5 np k5 c.par HNP.out (hf5.out.below (by (repeat (first | (with_reducible exact Below.refl _ _) | (with_reducible assumption) | (with_reducible refine bel_al0 ?_ _) | (with_reducible refine bel_set ?_ (by first | (simp; done) | (simp; omega)) _) | (with_reducible refine bel_dr ?_) | (with_reducible refine bel_drn ?_ _) | (with_reducible refine bel_tr ?_ (by assumption)))))) (by omega) x)).inRound l).mono ?_; rw [← HY.out]; rintro e w7 ⟨rfl, hb7⟩; have hbW : Below W.heap.size W w7 := (by (repeat (first | (with_reducible exact Below.refl _ _) | (with_reducible assumption) | (with_reducible refine bel_al0 ?_ _) | (with_reducible refine bel_set ?_ (by first | (simp; done) | (simp; omega)) _) | (with_reducible refine bel_dr ?_) | (with_reducible refine bel_drn ?_ _) | (with_reducible refine bel_tr ?_ (by assumption)))))))
      have hin := HIN.out
      simp only [Bool.false_eq_true, if_false] at hin
      refine ⟨(keepsO_below hbW).from _, keepsS_below hbW hGW, ⟨v, boxed_bel HV.out hbW, ?_, hnG⟩, hB.trans (hbW.mono (by omega))⟩
      rw [hin]
      exact own_below HROW.out hbW
    | true =>
      have hLk : kk.length ≤ 100000 := by omega
      gi_wp2_with (first | (gi_at_call 44; refine ((callsIn_wide.2 HGE.out).inRound l).mono ?_; rintro e w5 ⟨A5, k5, rfl, ho5, hb5⟩; have hf5 := Lib.hid (own_flat ho5); clear ho5; replace q1 := cell_bel q1 hb5; have hz5 := hb5.size; have hz6 : z + 1 < w5.heap.size := (by omega)) | (gi_at_call 86; refine ((callsIn_wide.2 (contains_calls _ A5 np k5 c.par HNP.out (hf5.out.below (by (repeat (first | (with_reducible exact Below.refl _ _) | (with_reducible assumption) | (with_reducible refine bel_al0 ?_ _) | (with_reducible refine bel_set ?_ (by first | (simp; done) | (simp; omega)) _) | (with_reducible refine bel_dr ?_) | (with_reducible refine bel_drn ?_ _) | (with_reducible refine bel_tr ?_ (by assumption)))))) (by omega) x)).inRound l).mono ?_; rw [← HY.out]; rintro e w7 ⟨rfl, hb7⟩; have hbW : Below W.heap.size W w7 := (by (repeat (first | (with_reducible exact Below.refl _ _) | (with_reducible assumption) | (with_reducible refine bel_al0 ?_ _) | (with_reducible refine bel_set ?_ (by first | (simp; done) | (simp; omega)) _) | (with_reducible refine bel_dr ?_) | (with_reducible refine bel_drn ?_ _) | (with_reducible refine bel_tr ?_ (by assumption))))); have hv := boxed_bel HV.out hbW; have hrow := own_below HROW.out hbW; have hsz := hbW.size; have hc7 := hv.cell) | (gi_at_builtin; refine wpListIn_append_own _ rfl _ _ 50 rfl G 24 i0 (.int .u64 0) 1 8 Try.underlying50 hi hz0 hz1 hz2 rfl (by decide) _ _ _ rfl (hrow.alloc _) ⟨w7.heap.size, 0, none⟩ 1 1 [.int .u64 k] rfl rfl (cell_one_new _ _ _) (by simp [Value.oneCell']) (by unfold maxLen; omega) (by omega) (by simp; omega) ?_; intro v' w1 hown' hgrow _; obtain ⟨g', cap', rfl⟩ := ownsRow_succ hown'; obtain ⟨hv1, hv2, hr2, hk2, hb2, hs2⟩ := boxed_step (n₀ := z + 2) (C := z + 6) hv (by decide) hrow (by omega) hnG (by omega) (by omega) (by omega) hown' hgrow; have hc1 := hv1.cell; have hf1 := hv1.frozen))
      have hin := HIN.out
      simp only [if_true] at hin
      refine ⟨((keepsO_below hbW).trans hk2).from _, (keepsS_below hbW hGW).trans (by rw [hz4]; exact hs2), ⟨_, hv2, ?_, hnG⟩, (hB.trans (hbW.mono (by omega))).trans hb2⟩
      rw [hin]
      exact hr2
  case done =>
    rintro D G ys W hD rfl ⟨⟨v, hv, hrow, hnG⟩, hB⟩ hK
    have hc := hv.cell
    gi_wp2
    refine ⟨by simp, .inl ⟨_, _, rfl, run_takeDeferred hK, ?_⟩⟩
    refine ⟨_, results_tmp rfl _ _ _, v, rfl, ownsRow_putObj (own_mono hrow (by have := HZ.out; omega)) _ hK rfl, (hBw.trans (hB.mono (by have := HZ.out; omega))).trans (belowK_b (w := w) (Nat.le_refl _) W D _ _ (by have := HZ.out; omega) hK rfl rfl)⟩
  case stop =>
    rintro D G c pre W _ _ h _
    exact h.elim
end Go.Proofs.Ytehneliphhgegaa
