/- The merge base of two commits: walked once. -/
import Derived.Test.YtehneliphhgegaaBases
set_option linter.unusedVariables false
set_option linter.unusedSimpArgs false
set_option maxRecDepth 100000
namespace Go.Proofs.Ytehneliphhgegaa
open Go.RowKit Go.Apo

def bestStep (L : List (Int × CommitD)) (best : CommitD) (id : Int) : CommitD := if best.gen < (gGet L id).gen then gGet L id else best
def bestOf (L : List (Int × CommitD)) (l : List Int) : CommitD := l.foldl (bestStep L) CommitD.zero
def baseC (L : List (Int × CommitD)) (a b : Int) : CommitD := bestOf L (basesL L a b)
theorem flat_but3 {w w' : World} {b ob g : Nat} {cs : List Value} (h : Flat w (some ⟨b, ob, none⟩) cs) (hg : b ≠ g) (hb : But g w w') : Flat w' (some ⟨b, ob, none⟩) cs := fun h0 => by
  obtain ⟨b', off, e, hc⟩ := h h0
  refine ⟨b', off, e, fun j u hj => ?_⟩
  simp only [Option.some.injEq, Addr.mk.injEq, and_true] at e
  have h1 := hc j u hj
  exact (hb.cell (p := ⟨b', off + j, none⟩) (cell_lt h1) (by rw [← e.1]; exact hg)).trans h1
theorem basesL_len {L : List (Int × CommitD)} (hO : LOk L) (a b : Int) : (basesL L a b).length ≤ L.length := by
  unfold basesL
  refine Nat.le_trans (List.length_filter_le _ _) ?_
  unfold commonL
  rw [sortI_len]
  refine Nat.le_trans (List.length_filter_le _ _) ?_
  have := (reachS_ok hO [a]).le
  simpa [mkeys] using this
/-- a block that holds a commit, its parents wherever they lie -/
def HoldsC (w : World) (b : Nat) (c : CommitD) : Prop := ∃ A n k, Blk w b #[.int .u64 c.id, .slice A n k, .int .u64 c.gen, .int .u64 c.root, .string c.text] 69

theorem blk_set5 {w : World} {b : Nat} {v0 v1 v2 v3 v4 : Value} (u0 u1 u2 u3 u4 : Value) {t : TypeId} (h : Blk w b #[v0, v1, v2, v3, v4] t) :
    Blk (((((w.setCell ⟨b, 0, none⟩ u0).setCell ⟨b, 1, none⟩ u1).setCell ⟨b, 2, none⟩ u2).setCell ⟨b, 3, none⟩ u3).setCell ⟨b, 4, none⟩ u4) b #[u0, u1, u2, u3, u4] t ∧
    But b w (((((w.setCell ⟨b, 0, none⟩ u0).setCell ⟨b, 1, none⟩ u1).setCell ⟨b, 2, none⟩ u2).setCell ⟨b, 3, none⟩ u3).setCell ⟨b, 4, none⟩ u4) :=
  ⟨((((h.set 0 u0).set 1 u1).set 2 u2).set 3 u3).set 4 u4, ((((But.set _ _ _ _).trans (But.set _ _ _ _)).trans (But.set _ _ _ _)).trans (But.set _ _ _ _)).trans (But.set _ _ _ _)⟩
set_option maxHeartbeats 4000000 in
theorem base_calls (w : World) (p mg : Nat) (L : List (Int × CommitD)) (h : GraphAt w p mg L) (hO : LOk L) (hL : L.length ≤ 100000) (hw : numsIn (mkeys L)) (a b : Int) :
    Calls Try.prog 49 #[.pointer (some ⟨p, 0, none⟩), .int .u64 a, .int .u64 b] w fun e w' => e = .returned (.tuple #[.int .u64 (baseC L a b).id, .bool (!((baseC L a b).id == 0))]) ∧ Below w.heap.size w w' := by
  have HW0 := Lib.hid h
  have hb0 : Below w.heap.size w (w.alloc (.cells #[.int .u64 0, .slice none 0 0, .int .u64 0, .int .u64 0, .string ⟨#[]⟩] 69)) := by (repeat (first | (with_reducible exact Below.refl _ _) | (with_reducible assumption) | (with_reducible refine bel_al0 ?_ _) | (with_reducible refine bel_set ?_ (by first | (simp; done) | (simp; omega)) _) | (with_reducible refine bel_dr ?_) | (with_reducible refine bel_drn ?_ _) | (with_reducible refine bel_tr ?_ (by assumption))))
  have HB := Lib.hid (bases_calls _ p mg L (h.below hb0) hO hL hw a b)
  have hbl := basesL_len hO a b
  unfold baseC
  obtain ⟨l, hl⟩ : ∃ l, l = basesL L a b := ⟨_, rfl⟩
  rw [← hl] at HB hbl ⊢
  clear hl hO hw
  obtain ⟨RES, hRES⟩ : ∃ RES, RES = bestOf L l := ⟨_, rfl⟩
  rw [← hRES]
  have HRES := Lib.hid hRES; clear hRES
  have HG := Lib.hid (fun W (hW : GraphAt W p mg L) i => gget_calls p mg W L hW i)
  have H := Lib.hid (h.below hb0); clear h
  obtain ⟨n, hn⟩ : ∃ n, n = l.length := ⟨_, rfl⟩
  unfold NumsOwn at HB
  rw [← hn] at HB hbl
  have HN := Lib.hid hn; clear hn
  go_enter Try.func49, Try.ntmps49
  go_wp2_with (go_at_call 57; refine HB.out.mono ?_; rintro e w1 ⟨v, rfl, ho, hb1⟩; obtain ⟨A1, c1, rfl, hcap⟩ := own_form ho)
  obtain ⟨B, hB⟩ : ∃ B, B = w.heap.size := ⟨_, rfl⟩
  have hblk : HoldsC w1 B CommitD.zero := ⟨none, 0, 0, by rw [hB]; exact (blk_new w _ _).below hb1⟩
  have hF : Hid (Flat w1 A1 (nums l)) := own_flat ho
  have hne : Hid (∀ bb off, A1 = some ⟨bb, off, none⟩ → bb ≠ B) := by
    show ∀ bb off, A1 = some ⟨bb, off, none⟩ → bb ≠ B
    rintro bb off rfl
    have := own_blk ho
    simp at this
    omega
  have hbw : Below w.heap.size w w1 := bel_tr hb0 hb1
  have hB1 : B < w1.heap.size := by have := hb1.size; simp at this; omega
  have hBB := Lib.hid hB; clear hB hb1 ho hcap hb0
  rw [hBB.out.symm]
  go_loopw [19, 10, 11, 12] (fun v _ _ _ wr => ∃ j : Nat, j ≤ n ∧ v = .int .i64 j ∧ Hid (HoldsC wr B (bestOf L (l.take j))) ∧ Hid (But B w1 wr) ∧ Below w.heap.size w wr ∧ B < wr.heap.size) (fun v _ _ _ _ => n - (intOf v).toNat)
  case atStart => exact ⟨0, Nat.zero_le _, rfl, hblk, But.refl _ _, hbw, hB1⟩
  case round =>
    obtain ⟨j, hj, rfl, hblk, hBut, hbw, hB1⟩ := hrel
    obtain ⟨best, hbest⟩ : ∃ best, best = bestOf L (l.take j) := ⟨_, rfl⟩
    rw [← hbest] at hblk
    obtain ⟨A2, n2, k2, hbk⟩ := hblk.out
    obtain ⟨x0, x1, x2, x3, x4, xf⟩ := hbk.five
    by_cases hlt : j < n
    · obtain ⟨id, hid⟩ : ∃ id, l[j]? = some id := ⟨_, List.getElem?_eq_getElem (by rw [← HN.out]; exact hlt)⟩
      obtain ⟨bb, off, rfl, cj⟩ := hF.out.at_ (nums_at hid)
      replace cj := (hBut.out.cell (p := ⟨bb, off + j, none⟩) (cell_lt cj) (hne.out bb off rfl)).trans cj
      have hbl' := cell_lt cj
      have htk : l.take (j + 1) = l.take j ++ [id] := by rw [List.take_add_one, hid]; rfl
      have hnew : bestOf L (l.take (j + 1)) = bestStep L best id := by rw [htk, hbest]; unfold bestOf; rw [List.foldl_append]; rfl
      have HNEW := Lib.hid hnew; clear hnew htk
      have HG2 := Lib.hid (HG.out _ (HW0.out.below hbw) id)
      unfold GetOwn at HG2
      obtain ⟨c, hc⟩ : ∃ c, c = gGet L id := ⟨_, rfl⟩
      unfold bestStep at HNEW
      rw [← hc] at HG2 HNEW
      clear hc hid hbest
      have HBK := Lib.hid hbk; clear hbk
      by_cases hgt : best.gen < c.gen
      · have hn2 := HNEW.out
        rw [if_pos hgt] at hn2
        have HN2 := Lib.hid hn2; clear hn2 HNEW
        go_wp2_with (go_at_call 44; refine HG2.out.mono ?_; rintro e w5 ⟨A5, k5, rfl, ho5, hb5⟩; clear ho5; replace x0 := cell_bel x0 hb5; replace x1 := cell_bel x1 hb5; replace x2 := cell_bel x2 hb5; replace x3 := cell_bel x3 hb5; replace x4 := cell_bel x4 hb5; have xf' := (HBK.out.below hb5).five.2.2.2.2.2; clear xf; have hz5 := hb5.size; have hBz5 : B < w5.heap.size := (by omega))
        obtain ⟨s1, s2⟩ := blk_set5 (.int .u64 c.id) (.slice A5 c.par.length k5) (.int .u64 c.gen) (.int .u64 c.root) (.string c.text) (HBK.out.below hb5)
        have S1 := Lib.hid s1; clear s1
        have S2 := Lib.hid s2; clear s2
        go_roundw
        case rel =>
          have hb9 : Below w.heap.size w w5 := bel_tr hbw hb5
          refine ⟨j + 1, by omega, by go_num, ?_, ?_, ?_, ?_⟩
          · show HoldsC _ _ _
            rw [HN2.out]
            exact ⟨A5, c.par.length, k5, S1.out.al _⟩
          · exact ((hBut.out.trans (But.of_below hb5)).trans S2.out).trans (But.of_below (bel_al0 (Below.refl _ _) _))
          · exact bel_al0 (But.below hb9 (Nat.le_refl _) (by have := hBB.out; omega) S2.out) _
          · simp; omega
        case measure => simp [intOf]; omega
      · have hn2 := HNEW.out
        rw [if_neg hgt] at hn2
        have HN2 := Lib.hid hn2; clear hn2 HNEW
        go_wp2_with (go_at_call 44; refine HG2.out.mono ?_; rintro e w5 ⟨A5, k5, rfl, ho5, hb5⟩; clear ho5; replace x0 := cell_bel x0 hb5; replace x1 := cell_bel x1 hb5; replace x2 := cell_bel x2 hb5; replace x3 := cell_bel x3 hb5; replace x4 := cell_bel x4 hb5; clear xf; have hz5 := hb5.size; have hBz5 : B < w5.heap.size := (by omega))
        have hal : Below wr.heap.size wr (w5.alloc (.cells #[.int .u64 c.id, .slice A5 c.par.length k5, .int .u64 c.gen, .int .u64 c.root, .string c.text] 69)) := by (repeat (first | (with_reducible exact Below.refl _ _) | (with_reducible assumption) | (with_reducible refine bel_al0 ?_ _) | (with_reducible refine bel_set ?_ (by first | (simp; done) | (simp; omega)) _) | (with_reducible refine bel_dr ?_) | (with_reducible refine bel_drn ?_ _) | (with_reducible refine bel_tr ?_ (by assumption))))
        go_roundw
        case rel =>
          refine ⟨j + 1, by omega, by go_num, ?_, hBut.out.trans (But.of_below hal), bel_tr hbw hal, by simp; omega⟩
          show HoldsC _ _ _
          rw [HN2.out]
          exact ⟨A2, n2, k2, HBK.out.below hal⟩
        case measure => simp [intOf]; omega
    · have htk : l.take j = l := by rw [List.take_of_length_le]; have := HN.out; omega
      rw [htk, ← HRES.out] at hbest
      subst hbest
      clear htk hblk
      have g1 : True := trivial
      go_wp2_with fail
      go_region
      all_goals go_wp2
      all_goals go_ret2
      all_goals exact ⟨rfl, by (repeat (first | (with_reducible exact Below.refl _ _) | (with_reducible assumption) | (with_reducible refine bel_al0 ?_ _) | (with_reducible refine bel_set ?_ (by first | (simp; done) | (simp; omega)) _) | (with_reducible refine bel_dr ?_) | (with_reducible refine bel_drn ?_ _) | (with_reducible refine bel_tr ?_ (by assumption))))⟩
end Go.Proofs.Ytehneliphhgegaa
