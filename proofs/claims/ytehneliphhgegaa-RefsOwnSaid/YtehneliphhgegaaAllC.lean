/- What a table of refs has, collected: the statement's own function. -/
import Derived.Test.YtehneliphhgegaaAlls
import Derived.Test.YtehneliphhgegaaSeqA
set_option linter.unusedVariables false
set_option linter.unusedSimpArgs false
set_option maxRecDepth 100000
namespace Go.Proofs.Ytehneliphhgegaa
open Go.RowKit Go.Apo Go.Shelf
attribute [local go_sem] Oper.semAt_some

theorem infoRef : (Try.prog.info? 26).map (fun i => (i.zero, i.size, i.bytes)) = some (some (.agg #[.string ⟨#[]⟩, .bool false, .int .u64 0]), 3, 32) := by kernel_rfl
def refC (r : RefD) : List Value := [.string r.name, .bool r.tag, .int .u64 r.id]
def refCells (l : List RefD) : List Value := l.flatMap refC
theorem refCells_len (l : List RefD) : (refCells l).length = 3 * l.length := by
  unfold refCells
  induction l with
  | nil => rfl
  | cons a l ih => rw [List.flatMap_cons, List.length_append, ih, List.length_cons]; simp [refC]; omega
theorem refCells_snoc (l : List RefD) (r : RefD) : refCells (l ++ [r]) = refCells l ++ refC r := by unfold refCells; rw [List.flatMap_append]; simp
/-- what a slice of refs that one made holds -/
def RefsMade (w : World) (l : List RefD) (e : Ending) (w' : World) : Prop :=
  ∃ v, e = .returned v ∧ w'.ownsRow w.heap.size 26 3 v l.length (refCells l) ∧ Below w.heap.size w w'
/-- 'out = append(out, r)' in a round: a box, a row beyond the iterator's blocks -/
theorem boxed_stepR {W w1 : World} {n₀ B C G : Nat} {t : TypeId} {v v' : Value} {l : List RefD} {x : RefD} {tmp : Obj} (hv : Boxed W B t v) (ht : t ≠ 26) (hrow : W.ownsRow G 26 3 v l.length (refCells l)) (hn₀ : n₀ ≤ W.heap.size) (hnG : n₀ ≤ G) (hB : n₀ ≤ B) (hBC : B < C) (hG : G ≤ W.heap.size)
    (hown' : w1.ownsRow G 26 3 v' (l.length + 1) (refCells l ++ refC x)) (hgrow : (W.alloc tmp).grownBy w1 v.ownBlock) :
    Boxed w1 B t v ∧ Boxed (w1.setCell ⟨B, 0, none⟩ v') B t v' ∧ (w1.setCell ⟨B, 0, none⟩ v').ownsRow G 26 3 v' (l ++ [x]).length (refCells (l ++ [x])) ∧ KeepsOthers W (w1.setCell ⟨B, 0, none⟩ v') ∧ Below n₀ W (w1.setCell ⟨B, 0, none⟩ v') ∧ KeepsSpan C G W (w1.setCell ⟨B, 0, none⟩ v') := by
  obtain ⟨h1, h2, h3, h4, h5⟩ := hv.appended ht (own_mono hrow hnG) hn₀ hB (own_mono hown' hnG) hgrow
  have hbt := (Boxed.not_row (B := B) h1 ht hown')
  refine ⟨h1, h2, ?_, h4, h5, ⟨h4.size, fun k hk1 hk2 => ?_⟩⟩
  · have := hown'.kept (grownBy_setCell' w1 B v') (.inr hbt.symm)
    rw [refCells_snoc, List.length_append, List.length_singleton]
    exact this
  · have e1 : (w1.setCell ⟨B, 0, none⟩ v').heap[k]? = w1.heap[k]? := Below.heap_setCell _ _ _ _ (by show k ≠ B; omega)
    have e2 : w1.heap[k]? = (W.alloc tmp).heap[k]? := hgrow.block k (by simp; omega) (fun e => by
      rcases hrow.2 with ⟨rfl, _⟩ | ⟨g, cap, cur, rfl, hg, _⟩
      · simp [Value.ownBlock] at e
      · simp [Value.ownBlock] at e; omega)
    rw [e1, e2]
    exact Below.heap_alloc W tmp k (by omega)
theorem boxed_ownR {β : Type} (B C : Nat) (t : TypeId) (v : Value) : OwnFrom B (fun (_ : β) W => Boxed W C t v) := fun s W W' row hs hg hr => Boxed.kept hs hg (fun e => by
  obtain ⟨o, ho, hc⟩ := (hr _ e.symm).2
  rw [show W.heap[C]? = _ from hs] at ho
  cases ho
  cases hc)
def refObj (r : RefD) : Obj := .cells #[.string r.name, .bool r.tag, .int .u64 r.id] 26
theorem ref_cells_new (W : World) (x : RefD) : ∀ j u, (refC x)[j]? = some u → (W.alloc (.cells #[.string x.name, .bool x.tag, .int .u64 x.id] 26)).cell? ((⟨W.heap.size, 0, none⟩ : Addr).add j) = some u := by
  intro j u hj
  have ha : (⟨W.heap.size, 0, none⟩ : Addr).add j = ⟨W.heap.size, j, none⟩ := by unfold Addr.add; split <;> simp_all
  rw [ha]
  refine (blk_new W #[.string x.name, .bool x.tag, .int .u64 x.id] 26).cell ?_
  simpa [refC] using hj
theorem ref_one (x : RefD) : ∀ u ∈ refC x, u.oneCell' = true := by
  intro u hu
  simp only [refC, List.mem_cons, List.not_mem_nil, or_false] at hu
  rcases hu with rfl | rfl | rfl <;> rfl
set_option maxHeartbeats 4000000 in
theorem all16_calls (w : World) (p m : Nat) (L : List (ByteArray × RefD)) (h : TableAt w p m L) (hL : L.length ≤ 1000000) (hw : ∀ k ∈ mkeys L, k.size ≤ 1000000) :
    Calls Try.prog 38 #[.pointer (some ⟨p, 0, none⟩)] w (RefsMade w (allR L)) := by
  refine (callsIn_wide (n := 4)).1 ?_
  obtain ⟨i0, hi, hz0, hz1, hz2⟩ := info_parts infoRef
  have f1 : Fence.wide.fn 81 := trivial
  refine callsIn_of_wp_marks Try.func38 rfl trivial ?_ rfl
  simp only [Try.ntmps38, List.size_toArray, List.length_cons, List.length_nil, Nat.reduceAdd, Nat.reduceSub, Array.replicate_succ, Array.replicate_zero, List.push_toArray, List.append_toArray, List.nil_append, List.cons_append]
  gi_wp2_with (gi_at_call 81; refine (callsIn_wide.2 (allF_calls _ _)).mono ?_; rintro e w' ⟨rfl, rfl⟩)
  have bO := Boxed.new w 22 (.slice none 0 0)
  have bN := Boxed.new (w.alloc (.cells #[.slice none 0 0] 22)) 29 (.pointer (some ⟨p, 0, none⟩))
  rw [World.size_alloc] at bN
  have hB0 : Below w.heap.size w ((w.alloc (.cells #[.slice none 0 0] 22)).alloc (.cells #[.pointer (some ⟨p, 0, none⟩)] 29)) := by (repeat (first | (with_reducible exact Below.refl _ _) | (with_reducible assumption) | (with_reducible refine bel_al0 ?_ _) | (with_reducible refine bel_set ?_ (by first | (simp; done) | (simp; omega)) _) | (with_reducible refine bel_dr ?_) | (with_reducible refine bel_drn ?_ _) | (with_reducible refine bel_tr ?_ (by assumption))))
  refine wpIn_rangeFunc_freshA rfl (by omega) (gf := 106) (lb := #[.pointer (some ⟨w.heap.size + 1, 0, none⟩)]) rfl trivial (enters_of Try.func106 (by kernel_rfl) rfl)
    (alls_fresh 3 (by omega) _ (w.heap.size + 1) p m L bN.cell (h.below hB0) hL hw) (Below.refl _ _) (fun _ => rfl)
    (fun G pre W => (∃ v, Boxed W w.heap.size 22 v ∧ W.ownsRow G 26 3 v pre.length (refCells pre) ∧ w.heap.size ≤ G) ∧ Below w.heap.size w W ∧ Boxed W (w.heap.size + 1) 29 (.pointer (some ⟨p, 0, none⟩)))
    (fun _ _ _ _ => False)
    (fun G => OwnFrom.and (Own.from (holdsRow_own G w.heap.size 22 26 3 (fun pre : List RefD => pre.length) (fun pre => refCells pre) (fun _ _ => w.heap.size ≤ G)) _) (OwnFrom.and (ownFrom_below (Nat.le_refl _) (by simp; omega)) (boxed_ownR _ _ _ _)))
    (fun _ _ _ _ _ _ hs _ _ => hs)
    (fun G hG => ⟨⟨_, bO.alloc _, World.ownsRow_nil _ _ _ _, by simp at hG; omega⟩, hB0, bN⟩)
    (fun G pre W hi => ⟨hi.2.2.cell, h.below hi.2.1⟩)
    refObj
    (fun x b => { tmps := #[.pointer (some ⟨p, 0, none⟩), undef, .slice none 0 0, .pointer (some ⟨w.heap.size, 0, none⟩), .pointer (some ⟨b, 0, none⟩), .pointer (some ⟨p, 0, none⟩), .func (.func 106) #[] #[.pointer (some ⟨w.heap.size + 1, 0, none⟩)], .agg #[.string x.name, .bool x.tag, .int .u64 x.id], undef, undef, undef, undef, undef], defers := [] }) ?assign ?body ?done ?stop
  case assign =>
    intro l x W K hK
    unfold refObj at hK
    simp only [encR]
    gi_wp2
    exact hK
  case body =>
    rintro G l b pre x W hG hGb hbW hob ⟨⟨v, hv, hrow, hnG⟩, hB, hbn⟩ hlt
    have hc := hv.cell
    have hsz := hB.size
    simp at hG
    have hbx : b < W.heap.size := by omega
    have hob2 : Blk W b #[.string x.name, .bool x.tag, .int .u64 x.id] 26 := hob
    obtain ⟨y0, y1, y2, _⟩ := hob2.three
    clear hob hob2
    gi_wp2_with (gi_at_builtin; refine wpListIn_append_own _ rfl _ _ 22 rfl G 26 i0 (.agg #[.string ⟨#[]⟩, .bool false, .int .u64 0]) 3 32 Try.underlying22 hi hz0 hz1 hz2 rfl (by decide) _ _ _ rfl (hrow.alloc _) ⟨W.heap.size, 0, none⟩ 1 1 (refC x) rfl rfl (ref_cells_new W x) (ref_one x) (by unfold maxLen; omega) (by omega) (by simp; omega) ?_; intro v' w1 hown' hgrow _; obtain ⟨g', cap', rfl⟩ := ownsRow_succ hown'; obtain ⟨hv1, hv2, hr2, hk2, hb2, hs2⟩ := boxed_stepR (C := w.heap.size + 4) hv (by decide) hrow hsz (by omega) (Nat.le_refl _) (by omega) (by omega) hown' hgrow; have hbn1 := (hbn.alloc _).kept hgrow (Boxed.not_row hbn (by decide) hrow); have hc1 := hv1.cell; have hf1 := hv1.frozen)
    refine ⟨hk2.from _, by simpa using hs2, ⟨_, hv2, hr2, hnG⟩, hB.trans hb2, ?_⟩
    exact hbn1.kept (grownBy_setCell' w1 _ _) (by simp)
  case done =>
    rintro D G ys W hD rfl ⟨⟨v, hv, hrow, hnG⟩, hB, hbn⟩ hK
    have hc := hv.cell
    gi_wp2
    refine ⟨by simp, .inl ⟨_, _, rfl, run_takeDeferred hK, ?_⟩⟩
    refine ⟨_, results_tmp rfl _ _ _, v, rfl, ownsRow_putObj (own_mono hrow hnG) _ hK rfl, hB.trans (belowK_b (w := w) (Nat.le_refl _) W D _ _ (by simp at hD; omega) hK rfl rfl)⟩
  case stop =>
    rintro D G c pre W _ _ h _
    exact h.elim
end Go.Proofs.Ytehneliphhgegaa
