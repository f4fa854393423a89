/- The document's table of refs: Set: walked once. -/
import Derived.Test.YtehneliphhgegaaRTab
set_option linter.unusedVariables false
set_option linter.unusedSimpArgs false
set_option maxRecDepth 100000
namespace Go.Proofs.Ytehneliphhgegaa
open Go.RowKit Go.Apo

/-- what a call on the document's table leaves: nothing below B has turned, nor a block that begins with no text -/
structure TDone (B : Nat) (w : World) (x : Nat) (v : Int) (R' : List RefD) (e : Ending) (w' : World) : Prop where
  e : e = .returned (.int .i64 v)
  t : RTab B w' x R'
  b : Below B w w'
  k : ∀ k, k < w.heap.size → k ≠ x → (∀ s, w.cell? ⟨k, 0, none⟩ ≠ some (.string s)) → w'.heap[k]? = w.heap[k]?
def rsetE (R : List RefD) (s : ByteArray) (old : Int) : Int := match rFindR R s with
  | none => 111
  | some c => if c.tag then 114 else if c.id = old then 0 else 113
def rsetL (R : List RefD) (s : ByteArray) (old id : Int) : List RefD := if rsetE R s old = 0 then R.set (rAtR R s).toNat ⟨((rFindR R s).getD RefD.zero).name, ((rFindR R s).getD RefD.zero).tag, id⟩ else R
theorem refCells_set {R : List RefD} {k : Nat} {c : RefD} (h : R[k]? = some c) (id : Int) : refCells (R.set k ⟨c.name, c.tag, id⟩) = (refCells R).set (k * 3 + 2) (.int .u64 id) := by
  induction R generalizing k with
  | nil => simp at h
  | cons a R ih =>
    cases k with
    | zero =>
      simp only [List.getElem?_cons_zero, Option.some.injEq] at h
      subst h
      rfl
    | succ k =>
      have h' : R[k]? = some c := by simpa using h
      have e : ∀ l, refCells (a :: l) = refC a ++ refCells l := fun l => rfl
      rw [List.set_cons_succ, e, e, ih h']
      have e3 : (refC a).length = 3 := rfl
      rw [List.set_append_right _ _ (by rw [e3]; omega), e3, show (k + 1) * 3 + 2 - 3 = k * 3 + 2 by omega]
theorem tdone_below {B : Nat} {w w' : World} {x : Nat} {R : List RefD} {v : Int} (h : RTab B w x R) (hB : B ≤ w.heap.size) (hb : Below w.heap.size w w') : TDone B w x v R (.returned (.int .i64 v)) w' :=
  ⟨rfl, h.below hb, hb.mono hB, fun k hk _ _ => hb.block k hk⟩
theorem blk_ne {w : World} {a b : Nat} {cs ds : Array Value} {s t : TypeId} (h : Blk w a cs s) (h' : Blk w b ds t) (hne : s ≠ t) : a ≠ b := by
  intro e
  subst e
  unfold Blk at h h'
  rw [h] at h'
  simp at h'
  exact hne h'.2
set_option maxHeartbeats 4000000 in
theorem tset_calls (B : Nat) (w : World) (x : Nat) (R : List RefD) (h : RTab B w x R) (hBw : B ≤ w.heap.size) (hR : R.length ≤ 1000000) (s : ByteArray) (old id : Int) :
    Calls Try.prog 34 #[.pointer (some ⟨x, 0, none⟩), .string s, .int .u64 old, .int .u64 id] w (TDone B w x (rsetE R s old) (rsetL R s old id)) := by
  have HA := Lib.hid (tat_calls B w x R h hR s)
  have H := Lib.hid h
  rcases rAtR_cases R s with ⟨h1, h2⟩ | ⟨k, c, h1, h2, h3, h4⟩
  · have e1 : rsetE R s old = 111 := by unfold rsetE; rw [h2]
    have e2 : rsetL R s old id = R := by unfold rsetL; rw [e1]; rfl
    rw [e1, e2]
    rw [h1] at HA
    clear h1 h2 e1 e2 h
    go_enter Try.func34, Try.ntmps34
    go_wp2_with (go_at_call 80; refine HA.out.mono ?_; rintro e w1 ⟨rfl, hb1⟩)
    go_ret
    exact tdone_below H.out hBw hb1
  · obtain ⟨A, q, hblk, hq, hA0, hrow⟩ := h.ex
    obtain ⟨g, rfl, hgB, c0, c1, c2, cf⟩ := RTab.at_ hrow h2
    have hc := hblk.one.1
    have hlt : k < R.length := (List.getElem?_eq_some_iff.1 h2).1
    have e1 : rsetE R s old = if c.tag then 114 else if c.id = old then 0 else 113 := by unfold rsetE; rw [h4]
    have e2 : rsetL R s old id = if rsetE R s old = 0 then R.set k ⟨c.name, c.tag, id⟩ else R := by
      unfold rsetL
      rw [h1, h4]
      rfl
    rw [e2, e1]
    clear e1 e2
    rw [h1] at HA
    have HROW := Lib.hid hrow
    have HBL := Lib.hid hblk
    have hgl := cell_lt c0
    have hxl := cell_lt hc
    obtain ⟨n, hn⟩ : ∃ n, n = R.length := ⟨_, rfl⟩
    rw [← hn] at hc hlt
    have HN := Lib.hid hn
    have HK := Lib.hid h2
    have HQ := Lib.hid hq
    have cfr : w.frozen? ⟨g, k * 3 + 2, none⟩ = false := cf _
    obtain ⟨cn, ct, ci⟩ := c
    simp only at c0 c1 c2 ⊢
    clear hn hblk hrow hA0 h1 h2 h3 h4 h cf hq
    cases ct with
    | true =>
      show Calls _ _ _ _ (TDone B w x 114 R)
      go_enter Try.func34, Try.ntmps34
      go_wp2_with (go_at_call 80; refine HA.out.mono ?_; rintro e w1 ⟨rfl, hb1⟩; have z := cell_bel hc hb1; have z0 := cell_bel c0 hb1; have z1 := cell_bel c1 hb1; have z2 := cell_bel c2 hb1)
      go_ret
      exact tdone_below H.out hBw hb1
    | false =>
      by_cases hi : ci = old
      · rw [if_neg (by decide), if_pos hi, if_pos rfl]
        have g1 : (ci == old) = true := by simpa using hi
        have g2 : (ci != old) = false := by simpa using hi
        have g3 : decide (ci = old) = true := by simpa using hi
        clear hi
        go_enter Try.func34, Try.ntmps34
        go_wp2_with (go_at_call 80; refine HA.out.mono ?_; rintro e w1 ⟨rfl, hb1⟩; have z := cell_bel hc hb1; have z0 := cell_bel c0 hb1; have z1 := cell_bel c1 hb1; have z2 := cell_bel c2 hb1; have zf : w1.frozen? ⟨g, k * 3 + 2, none⟩ = false := (hb1.frozen (p := ⟨g, k * 3 + 2, none⟩) hgl).trans cfr)
        go_ret
        have hne : R ≠ [] := by intro e; have := HK.out; rw [e] at this; simp at this
        obtain ⟨g', cs, eg, hgB', hBg, ht⟩ := HROW.out hne
        simp only [Option.some.injEq, Addr.mk.injEq, and_true] at eg
        subst eg
        have hgx : x ≠ g := blk_ne HBL.out hBg (by decide)
        refine ⟨rfl, ⟨H.out.lo, some ⟨g, 0, none⟩, q, ?_, ?_, (by intro e; cases e), fun _ => ⟨g, cs.setIfInBounds (k * 3 + 2) (.int .u64 id), rfl, hgB, (hBg.below hb1).set _ _, ?_⟩⟩, (hb1.mono hBw).setCell (p := ⟨g, k * 3 + 2, none⟩) hgB _, fun j hj _ hs => ?_⟩
        · rw [List.length_set]
          exact (HBL.out.below hb1).other hgx _ _
        · rw [List.length_set]; exact HQ.out
        · rw [List.length_set, refCells_set HK.out]
          rw [← ht]
          have hlk : k < R.length := (List.getElem?_eq_some_iff.1 HK.out).1
          rw [Array.toList_setIfInBounds, List.take_set]
        · have hjg : j ≠ g := by
            rintro rfl
            obtain ⟨r0, hr0⟩ : ∃ r0, R[0]? = some r0 := ⟨_, List.getElem?_eq_getElem (List.length_pos_iff.2 hne)⟩
            obtain ⟨g2, eg2, _, d0, _⟩ := RTab.at_ HROW.out hr0
            simp only [Option.some.injEq, Addr.mk.injEq, and_true] at eg2
            subst eg2
            exact hs _ (by simpa using d0)
          rw [Below.heap_setCell _ _ _ _ hjg]
          exact hb1.block j hj
      · rw [if_neg (by decide), if_neg hi]
        show Calls _ _ _ _ (TDone B w x 113 R)
        have g1 : (ci == old) = false := by simpa using hi
        have g2 : (ci != old) = true := by simpa using hi
        have g3 : decide (ci = old) = false := by simpa using hi
        go_enter Try.func34, Try.ntmps34
        go_wp2_with (go_at_call 80; refine HA.out.mono ?_; rintro e w1 ⟨rfl, hb1⟩; have z := cell_bel hc hb1; have z0 := cell_bel c0 hb1; have z1 := cell_bel c1 hb1; have z2 := cell_bel c2 hb1)
        go_ret
        exact tdone_below H.out hBw hb1
end Go.Proofs.Ytehneliphhgegaa
