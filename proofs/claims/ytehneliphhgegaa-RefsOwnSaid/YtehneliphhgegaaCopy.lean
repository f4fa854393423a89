/- A table's copy: walked. -/
import Derived.Test.YtehneliphhgegaaAllC
set_option linter.unusedVariables false
set_option linter.unusedSimpArgs false
set_option maxRecDepth 100000
namespace Go.Proofs.Ytehneliphhgegaa
open Go.RowKit Go.Apo Go.Shelf
attribute [local go_sem] Oper.semAt_some

/-- what a copy has -/
def copyL (L : List (ByteArray × RefD)) : List (ByteArray × RefD) := (allR L).foldl makeL []
def CopyPost (w : World) (L : List (ByteArray × RefD)) (e : Ending) (w' : World) : Prop :=
  ∃ p m, e = .returned (.pointer (some ⟨p, 0, none⟩)) ∧ TableAt w' p m L ∧ w.heap.size ≤ m ∧ w.heap.size ≤ p ∧ Below w.heap.size w w'
theorem TableAt.blocks {w w' : World} {p m : Nat} {L : List (ByteArray × RefD)} (h : TableAt w p m L) (h1 : w'.heap[p]? = w.heap[p]?) (h2 : w'.heap[m]? = w.heap[m]?) : TableAt w' p m L := by
  refine ⟨(World.cell?_of_block (w := w) (a := ⟨p, 0, none⟩) h1).trans h.1, ?_⟩
  obtain ⟨es, c, e1, hs, he⟩ := h.2.ex
  exact ⟨es, c, h2.trans e1, hs, he⟩
theorem tab_own {β : Type} (B p m : Nat) (hp : p < B) (hm : m < B) (g : β → List (ByteArray × RefD)) : OwnFrom B (fun (s : β) W => TableAt W p m (g s)) := fun s W W' row hs hg hr => by
  have hpl : p < W.heap.size := cell_lt hs.1
  have hml : m < W.heap.size := hs.2.lt
  exact hs.blocks (hg.block p hpl (fun e => by have := (hr p e.symm).1; omega)) (hg.block m hml (fun e => by have := (hr m e.symm).1; omega))
set_option maxHeartbeats 4000000 in
theorem copy_calls (w : World) (p m : Nat) (L : List (ByteArray × RefD)) (h : TableAt w p m L) (hL : L.length ≤ 1000000) (hw : ∀ k ∈ mkeys L, k.size ≤ 1000000) :
    Calls Try.prog 36 #[.pointer (some ⟨p, 0, none⟩)] w (CopyPost w (copyL L)) := by
  refine (callsIn_wide (n := 4)).1 ?_
  have f1 : Fence.wide.fn 81 := trivial
  have f2 : Fence.wide.fn 74 := trivial
  have f3 : Fence.wide.fn 19 := trivial
  have HN := Lib.hid (fun W => new_calls W none 0 0 [] (refRow_nil W))
  refine callsIn_of_wp_marks Try.func36 rfl trivial ?_ rfl
  simp only [Try.ntmps36, List.size_toArray, List.length_cons, List.length_nil, Nat.reduceAdd, Nat.reduceSub, Array.replicate_succ, Array.replicate_zero, List.push_toArray, List.append_toArray, List.nil_append, List.cons_append]
  gi_wp2_with (first
    | (gi_at_call 74; refine (callsIn_wide.2 (ok_yes p m _ h.1)).mono ?_; rintro e w' ⟨rfl, rfl⟩)
    | (gi_at_call 19; refine (callsIn_wide.2 (HN.out _)).mono ?_; rintro e w1 ⟨p2, m2, rfl, ht2, hm2, hp2, hb1⟩)
    | (gi_at_call 81; refine (callsIn_wide.2 (allF_calls _ _)).mono ?_; rintro e w' ⟨rfl, rfl⟩))
  have hp2l : p2 < w1.heap.size := cell_lt ht2.1
  have hm2l : m2 < w1.heap.size := ht2.2.lt
  have bO := Boxed.new w1 29 (.pointer (some ⟨p2, 0, none⟩))
  have bN := Boxed.new (w1.alloc (.cells #[.pointer (some ⟨p2, 0, none⟩)] 29)) 29 (.pointer (some ⟨p, 0, none⟩))
  rw [World.size_alloc] at bN
  have hB0 : Below w.heap.size w ((w1.alloc (.cells #[.pointer (some ⟨p2, 0, none⟩)] 29)).alloc (.cells #[.pointer (some ⟨p, 0, none⟩)] 29)) := bel_al0 (bel_al0 hb1 _) _
  have hT0 : TableAt ((w1.alloc (.cells #[.pointer (some ⟨p2, 0, none⟩)] 29)).alloc (.cells #[.pointer (some ⟨p, 0, none⟩)] 29)) p2 m2 [] := (ht2.below (bel_al0 (Below.refl _ _) _)).below (bel_al0 (Below.refl _ _) _)
  have hz := World.size_alloc w1 (.cells #[.pointer (some ⟨p2, 0, none⟩)] 29)
  have hz2 := World.size_alloc (w1.alloc (.cells #[.pointer (some ⟨p2, 0, none⟩)] 29)) (.cells #[.pointer (some ⟨p, 0, none⟩)] 29)
  refine wpIn_rangeFunc_freshA rfl (by omega) (gf := 106) (lb := #[.pointer (some ⟨w1.heap.size + 1, 0, none⟩)]) rfl trivial (enters_of Try.func106 (by kernel_rfl) rfl)
    (alls_fresh 3 (by omega) _ (w1.heap.size + 1) p m L bN.cell (h.below hB0) hL hw) (Below.refl _ _) (fun _ => rfl)
    (fun G pre W => TableAt W p2 m2 (pre.foldl makeL []) ∧ Below w.heap.size w W ∧ Boxed W w1.heap.size 29 (.pointer (some ⟨p2, 0, none⟩)) ∧ Boxed W (w1.heap.size + 1) 29 (.pointer (some ⟨p, 0, none⟩)))
    (fun _ _ _ _ => False)
    (fun G => OwnFrom.and (tab_own _ p2 m2 (by omega) (by omega) (fun pre : List RefD => pre.foldl makeL [])) (OwnFrom.and (ownFrom_below (Nat.le_refl _) (by have := hb1.size; omega)) (OwnFrom.and (boxed_ownR _ _ _ _) (boxed_ownR _ _ _ _))))
    (fun _ _ _ _ _ _ hs _ _ => hs)
    (fun G hG => ⟨hT0, hB0, bO.alloc _, bN⟩)
    (fun G pre W hi => ⟨hi.2.2.2.cell, h.below hi.2.1⟩)
    refObj
    (fun x b => { tmps := #[.pointer (some ⟨p, 0, none⟩), undef, .pointer none, .pointer (some ⟨w1.heap.size, 0, none⟩), .pointer (some ⟨b, 0, none⟩), .pointer (some ⟨p, 0, none⟩), .bool true, .bool false, .pointer (some ⟨p2, 0, none⟩), .pointer (some ⟨p, 0, none⟩), .func (.func 106) #[] #[.pointer (some ⟨w1.heap.size + 1, 0, none⟩)], .agg #[.string x.name, .bool x.tag, .int .u64 x.id], undef, undef, undef, undef], defers := [] }) ?assign ?body ?done ?stop
  case assign =>
    intro l x W K hK
    unfold refObj at hK
    simp only [encR]
    gi_wp2
    exact hK
  case body =>
    rintro G l b pre x W hG hGb hbW hob ⟨hT, hB, hbo, hbn⟩ hlt
    have hc := hbo.cell
    have hbx : b < W.heap.size := by omega
    have hob2 : Blk W b #[.string x.name, .bool x.tag, .int .u64 x.id] 26 := hob
    obtain ⟨y0, y1, y2, _⟩ := hob2.three
    have HMK := Lib.hid (make_calls p2 m2 W _ hT x.name x.tag x.id)
    have f4 : Fence.wide.fn 20 := trivial
    have hbol := hbo.lt
    have HB := Lib.hid hB
    have HBO := Lib.hid hbo
    have HBN := Lib.hid hbn
    have HT := Lib.hid hT
    clear hob hob2 hB hbo hbn hT
    gi_wp2_with (gi_at_call 20; refine ((callsIn_wide.2 HMK.out).inRound l).mono ?_; rintro e w5 ⟨rfl, ht5, hb5⟩)
    have hblk : ∀ k, k < W.heap.size → (k < w.heap.size ∨ w1.heap.size ≤ k) → w5.heap[k]? = W.heap[k]? := fun k hk h2 => hb5.block k hk (by omega)
    refine ⟨⟨hb5.size, fun k o hk ho _ => ?_⟩, ⟨hb5.size, fun k hk1 hk2 => hblk k (by omega) (by omega)⟩, ?_, ?_, ?_, ?_⟩
    · exact (hblk k (Array.getElem?_eq_some_iff.1 ho).1 (by omega)).trans ho
    · rw [List.foldl_append]; exact ht5
    · exact But.below HB.out (Nat.le_refl _) hm2 hb5
    · exact (hblk _ hbol (by omega)).trans HBO.out
    · exact (hblk _ HBN.out.lt (by omega)).trans HBN.out
  case done =>
    rintro D G ys W hD rfl ⟨hT, hB, hbo, hbn⟩ hK
    have hc := hbo.cell
    gi_wp2
    refine ⟨by simp, .inl ⟨_, _, rfl, run_takeDeferred hK, ?_⟩⟩
    refine ⟨_, results_tmp rfl _ _ _, p2, m2, rfl, hT.blocks (World.putObj_heap_other (by omega)) (World.putObj_heap_other (by omega)), hm2, hp2, hB.trans (belowK_b (w := w) (Nat.le_refl _) W D _ _ (by have := hb1.size; omega) hK rfl rfl)⟩
  case stop =>
    rintro D G c pre W _ _ h _
    exact h.elim
end Go.Proofs.Ytehneliphhgegaa
