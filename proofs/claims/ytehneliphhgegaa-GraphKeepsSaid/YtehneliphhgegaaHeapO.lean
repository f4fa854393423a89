/- The heap of commits, the greatest first: walked once. Written by heapport.py out of XHeapQQ, XHeapUp. -/
import Derived.Test.YtehneliphhgegaaHeapUp
set_option linter.unusedVariables false
set_option linter.unusedSimpArgs false
set_option maxRecDepth 100000
namespace Go.Proofs.Ytehneliphhgegaa.O
open Go.RowKit Go.Apo Go.Shelf
structure Ent where
  c : CommitD
  a : Option Addr
  k : Nat
def Ent.vals (e : Ent) : List Value := [.int .u64 e.c.id, .slice e.a e.c.par.length e.k, .int .u64 e.c.gen, .int .u64 e.c.root, .string e.c.text]
def HRow (w : World) (g cap n : Nat) (f : Nat → Ent) : Prop :=
  ∃ cur, Blk w g cur 69 ∧ cur.size = cap * 5 ∧ n ≤ cap ∧ cap ≤ maxLen ∧ ∀ j, j < n → ∀ t u, (f j).vals[t]? = some u → cur[j * 5 + t]? = some u
structure Five (w : World) (g o : Nat) (e : Ent) : Prop where
  c0 : w.cell? ⟨g, o, none⟩ = some (.int .u64 e.c.id)
  c1 : w.cell? ⟨g, o + 1, none⟩ = some (.slice e.a e.c.par.length e.k)
  c2 : w.cell? ⟨g, o + 2, none⟩ = some (.int .u64 e.c.gen)
  c3 : w.cell? ⟨g, o + 3, none⟩ = some (.int .u64 e.c.root)
  c4 : w.cell? ⟨g, o + 4, none⟩ = some (.string e.c.text)
theorem HRow.five {w : World} {g cap n : Nat} {f : Nat → Ent} (h : HRow w g cap n f) {j : Nat} (hj : j < n) : Five w g (j * 5) (f j) := by
  obtain ⟨cur, h1, h2, h3, h4, h5⟩ := h
  exact ⟨h1.cell (h5 j hj 0 _ rfl), h1.cell (h5 j hj 1 _ rfl), h1.cell (h5 j hj 2 _ rfl), h1.cell (h5 j hj 3 _ rfl), h1.cell (h5 j hj 4 _ rfl)⟩
theorem HRow.frozen {w : World} {g cap n : Nat} {f : Nat → Ent} (h : HRow w g cap n f) (j : Nat) : w.frozen? ⟨g, j, none⟩ = false := by
  obtain ⟨cur, h1, _⟩ := h
  exact h1.frozen j
theorem HRow.lt {w : World} {g cap n : Nat} {f : Nat → Ent} (h : HRow w g cap n f) : g < w.heap.size := by
  obtain ⟨cur, h1, _⟩ := h
  exact h1.lt
theorem HRow.below {w w' : World} {g cap n : Nat} {f : Nat → Ent} (h : HRow w g cap n f) (hb : Below w.heap.size w w') : HRow w' g cap n f := by
  obtain ⟨cur, h1, h2⟩ := h
  exact ⟨cur, h1.below hb, h2⟩
theorem HRow.dr {w : World} {g cap n : Nat} {f : Nat → Ent} (h : HRow w g cap n f) : HRow w.drew g cap n f := h
def ltQ (a b : CommitD) : Bool := if a.gen != b.gen then decide (b.gen < a.gen) else decide (b.id < a.id)
theorem lessQ_calls (w : World) (g cap n : Nat) (f : Nat → Ent) (h : HRow w g cap n f) (i j : Nat) (hi : i < n) (hj : j < n) (hn : n ≤ 100000) :
    Calls Try.prog 182 #[.slice (some ⟨g, 0, none⟩) n cap, .int .i64 i, .int .i64 j] w fun e w' => e = .returned (.bool (ltQ (f i).c (f j).c)) ∧ Below w.heap.size w w' := by
  obtain ⟨a0, a1, a2, a3, a4⟩ := h.five hi
  obtain ⟨b0, b1, b2, b3, b4⟩ := h.five hj
  have hlt := h.lt
  clear a1 a3 a4 b1 b3 b4 h
  generalize (f i).c = x at *
  generalize (f j).c = y at *
  unfold ltQ
  by_cases hg : x.gen = y.gen
  · have g1 : (x.gen != y.gen) = false := by simp [hg]
    rw [g1]
    go_enter Try.func182, Try.ntmps182
    go_wp2
    go_region
    all_goals go_wp2
    all_goals go_region
    all_goals go_wp2
    all_goals go_ret
    all_goals exact ⟨rfl, by (repeat (first | (with_reducible exact Below.refl _ _) | (with_reducible assumption) | (with_reducible refine bel_al0 ?_ _) | (with_reducible refine bel_set ?_ (by first | (simp; done) | (simp; omega)) _) | (with_reducible refine bel_dr ?_) | (with_reducible refine bel_drn ?_ _) | (with_reducible refine bel_tr ?_ (by assumption))))⟩
  · have g1 : (x.gen != y.gen) = true := by simp [hg]
    rw [g1]
    go_enter Try.func182, Try.ntmps182
    go_wp2
    go_region
    all_goals go_wp2
    all_goals go_region
    all_goals go_wp2
    all_goals go_ret
    all_goals exact ⟨rfl, by (repeat (first | (with_reducible exact Below.refl _ _) | (with_reducible assumption) | (with_reducible refine bel_al0 ?_ _) | (with_reducible refine bel_set ?_ (by first | (simp; done) | (simp; omega)) _) | (with_reducible refine bel_dr ?_) | (with_reducible refine bel_drn ?_ _) | (with_reducible refine bel_tr ?_ (by assumption))))⟩
def put5 (w : World) (g o : Nat) (e : Ent) : World := ((((w.setCell ⟨g, o, none⟩ (.int .u64 e.c.id)).setCell ⟨g, o + 1, none⟩ (.slice e.a e.c.par.length e.k)).setCell ⟨g, o + 2, none⟩ (.int .u64 e.c.gen)).setCell ⟨g, o + 3, none⟩ (.int .u64 e.c.root)).setCell ⟨g, o + 4, none⟩ (.string e.c.text)
def upd (f : Nat → Ent) (i : Nat) (e : Ent) : Nat → Ent := fun k => if k = i then e else f k
theorem put5_but (w : World) (g o : Nat) (e : Ent) : But g w (put5 w g o e) := ((((But.set _ _ _ _).trans (But.set _ _ _ _)).trans (But.set _ _ _ _)).trans (But.set _ _ _ _)).trans (But.set _ _ _ _)
theorem HRow.put {w : World} {g cap n : Nat} {f : Nat → Ent} (h : HRow w g cap n f) {i : Nat} (hi : i < n) (e : Ent) : HRow (put5 w g (i * 5) e) g cap n (upd f i e) := by
  obtain ⟨cur, h1, h2, h3, h4, h5⟩ := h
  refine ⟨_, ((((h1.set (i * 5) _).set (i * 5 + 1) _).set (i * 5 + 2) _).set (i * 5 + 3) _).set (i * 5 + 4) _, by simpa using h2, h3, h4, fun j hj t u ht => ?_⟩
  by_cases e1 : j = i
  · subst e1
    have hu : (upd f j e j) = e := by simp [upd]
    rw [hu] at ht
    match t, ht with
    | 0, ht => simp [Ent.vals] at ht; subst ht; simp [Array.getElem?_setIfInBounds]; omega
    | 1, ht => simp [Ent.vals] at ht; subst ht; simp [Array.getElem?_setIfInBounds]; omega
    | 2, ht => simp [Ent.vals] at ht; subst ht; simp [Array.getElem?_setIfInBounds]; omega
    | 3, ht => simp [Ent.vals] at ht; subst ht; simp [Array.getElem?_setIfInBounds]; omega
    | 4, ht => simp [Ent.vals] at ht; subst ht; simp [Array.getElem?_setIfInBounds]; omega
    | t + 5, ht => simp [Ent.vals] at ht
  · have hu : (upd f i e j) = f j := by simp [upd, e1]
    rw [hu] at ht
    have htl : t < 5 := by
      have := (List.getElem?_eq_some_iff.1 ht).1
      simpa [Ent.vals] using this
    have := h5 j hj t u ht
    rw [Array.getElem?_setIfInBounds_ne (by omega), Array.getElem?_setIfInBounds_ne (by omega), Array.getElem?_setIfInBounds_ne (by omega), Array.getElem?_setIfInBounds_ne (by omega), Array.getElem?_setIfInBounds_ne (by omega)]
    exact this
theorem HRow.congr {w : World} {g cap n : Nat} {f f' : Nat → Ent} (h : HRow w g cap n f) (e : ∀ k, k < n → f' k = f k) : HRow w g cap n f' := by
  obtain ⟨cur, h1, h2, h3, h4, h5⟩ := h
  exact ⟨cur, h1, h2, h3, h4, fun j hj t u ht => h5 j hj t u (by rw [← e j hj]; exact ht)⟩
set_option maxHeartbeats 4000000 in
theorem swapQ_calls (w : World) (g cap n : Nat) (f : Nat → Ent) (h : HRow w g cap n f) (i j : Nat) (hi : i < n) (hj : j < n) (hij : i ≠ j) (hn : n ≤ 100000) :
    Calls Try.prog 185 #[.slice (some ⟨g, 0, none⟩) n cap, .int .i64 i, .int .i64 j] w fun e w' => e = .returned (.tuple #[]) ∧ HRow w' g cap n (sw f i j) ∧ But g w w' := by
  obtain ⟨a0, a1, a2, a3, a4⟩ := h.five hi
  obtain ⟨b0, b1, b2, b3, b4⟩ := h.five hj
  have hlt := h.lt
  have HR := Lib.hid h
  have hfz := h.frozen
  clear h
  have d1 : ∀ t, t < 5 → ∀ s, s < 5 → i * 5 + t ≠ j * 5 + s := fun t ht s hs => by omega
  obtain ⟨x, hx⟩ : ∃ x, x = f i := ⟨_, rfl⟩
  obtain ⟨y, hy⟩ : ∃ y, y = f j := ⟨_, rfl⟩
  rw [← hx] at a0 a1 a2 a3 a4
  rw [← hy] at b0 b1 b2 b3 b4
  have HX := Lib.hid hx; clear hx
  have HY := Lib.hid hy; clear hy
  go_enter Try.func185, Try.ntmps185
  go_wp2
  go_region
  go_end0
  have h1 : HRow _ g cap n (sw f i j) := ((HR.out.put hi y).put hj x).congr (fun k _ => by
    rw [HX.out, HY.out]
    unfold sw upd
    by_cases e1 : k = i
    · subst e1
      by_cases e3 : k = j
      · subst e3; simp
      · simp [e3]
    · by_cases e2 : k = j
      · subst e2; simp [e1]
      · simp [e1, e2])
  have h2 := (put5_but w g (i * 5) y).trans (put5_but _ g (j * 5) x)
  unfold put5 at h1 h2
  exact ⟨rfl, h1.dr, h2.trans (But.of_below (bel_dr (Below.refl _ _)))⟩
set_option maxHeartbeats 4000000 in
theorem swapQ0_calls (w : World) (g cap n : Nat) (f : Nat → Ent) (h : HRow w g cap n f) (hi : 0 < n) (hn : n ≤ 100000) :
    Calls Try.prog 185 #[.slice (some ⟨g, 0, none⟩) n cap, .int .i64 0, .int .i64 0] w fun e w' => e = .returned (.tuple #[]) ∧ HRow w' g cap n f ∧ But g w w' := by
  obtain ⟨a0, a1, a2, a3, a4⟩ := h.five hi
  rw [Nat.zero_mul] at a0 a1 a2 a3 a4
  have hlt := h.lt
  have HR := Lib.hid h
  have hfz := h.frozen
  clear h
  obtain ⟨x, hx⟩ : ∃ x, x = f 0 := ⟨_, rfl⟩
  rw [← hx] at a0 a1 a2 a3 a4
  have HX := Lib.hid hx; clear hx
  go_enter Try.func185, Try.ntmps185
  go_wp2
  go_region
  go_end0
  have h1 : HRow _ g cap n f := ((HR.out.put hi x).put hi x).congr (fun k _ => by
    rw [HX.out]
    unfold upd
    by_cases e1 : k = 0
    · subst e1; simp
    · simp [e1])
  have h2 := (put5_but w g (0 * 5) x).trans (put5_but _ g (0 * 5) x)
  unfold put5 at h1 h2
  exact ⟨rfl, h1.dr, h2.trans (But.of_below (bel_dr (Below.refl _ _)))⟩
theorem Ent.vals_len (e : Ent) : e.vals.length = 5 := rfl
def flat (n : Nat) (f : Nat → Ent) : List Value := (List.range n).flatMap fun j => (f j).vals
theorem flat_succ (n : Nat) (f : Nat → Ent) : flat (n + 1) f = flat n f ++ (f n).vals := by unfold flat; rw [List.range_succ, List.flatMap_append]; simp
theorem flat_len (n : Nat) (f : Nat → Ent) : (flat n f).length = n * 5 := by
  induction n with
  | zero => rfl
  | succ n ih => rw [flat_succ, List.length_append, ih, Ent.vals_len]; omega
theorem flat_get (f : Nat → Ent) : ∀ (n j t : Nat), j < n → t < 5 → (flat n f)[j * 5 + t]? = (f j).vals[t]?
  | n + 1, j, t, hj, ht => by
    rw [flat_succ]
    rcases Nat.lt_or_ge j n with h | h
    · rw [List.getElem?_append_left (by rw [flat_len]; omega)]
      exact flat_get f n j t h ht
    · have : j = n := by omega
      subst this
      rw [List.getElem?_append_right (by rw [flat_len]; omega), flat_len, show j * 5 + t - j * 5 = t by omega]
theorem flat_congr {f f' : Nat → Ent} {n : Nat} (e : ∀ k, k < n → f' k = f k) : flat n f' = flat n f := by
  induction n with
  | zero => rfl
  | succ n ih => rw [flat_succ, flat_succ, ih (fun k hk => e k (by omega)), e n (by omega)]
theorem HRow.own {w : World} {g cap n : Nat} {f : Nat → Ent} (h : HRow w g cap n f) : w.ownsRow 0 69 5 (.slice (some ⟨g, 0, none⟩) n cap) n (flat n f) := by
  obtain ⟨cur, h1, h2, h3, h4, h5⟩ := h
  refine ⟨flat_len n f, Or.inr ⟨g, cap, cur, rfl, Nat.zero_le _, h1, h3, h4, h2, ?_⟩⟩
  apply List.ext_getElem?
  intro q
  by_cases hq : q < n * 5
  · rw [List.getElem?_take_of_lt hq, Array.getElem?_toList]
    have hq' : q / 5 * 5 + q % 5 = q := by omega
    have h6 := flat_get f n (q / 5) (q % 5) (by omega) (Nat.mod_lt _ (by omega))
    rw [hq'] at h6
    have hv : ∃ u, (f (q / 5)).vals[q % 5]? = some u := ⟨_, List.getElem?_eq_getElem (by rw [Ent.vals_len]; exact Nat.mod_lt _ (by omega))⟩
    obtain ⟨u, hu⟩ := hv
    have h7 := h5 (q / 5) (by omega) (q % 5) u hu
    rw [hq'] at h7
    rw [h6, hu, h7]
  · rw [List.getElem?_eq_none (by simp; omega), List.getElem?_eq_none (by rw [flat_len]; omega)]
theorem own_HRow {w : World} {v : Value} {n : Nat} {f : Nat → Ent} (h : w.ownsRow 0 69 5 v n (flat n f)) (hn : 0 < n) : ∃ g cap, v = .slice (some ⟨g, 0, none⟩) n cap ∧ HRow w g cap n f := by
  rcases h.2 with ⟨_, h0⟩ | ⟨g, cap, cur, hv, _, h1, h3, h4, h2, h5⟩
  · omega
  · refine ⟨g, cap, hv, cur, h1, h2, h3, h4, fun j hj t u hu => ?_⟩
    have ht : t < 5 := (List.getElem?_eq_some_iff.1 hu).1
    have h6 := flat_get f n j t hj ht
    rw [hu, ← h5, List.getElem?_take_of_lt (by omega), Array.getElem?_toList] at h6
    exact h6
/-- a queue: the block of its slice, and the row -/
def HQ (t : TypeId) (w : World) (h g cap n : Nat) (f : Nat → Ent) : Prop := Blk w h #[.slice (some ⟨g, 0, none⟩) n cap] t ∧ HRow w g cap n f ∧ h ≠ g
theorem HQ.below {t : TypeId} {w w' : World} {h g cap n : Nat} {f : Nat → Ent} (q : HQ t w h g cap n f) (hb : Below w.heap.size w w') : HQ t w' h g cap n f := ⟨q.1.below hb, q.2.1.below hb, q.2.2⟩
/-- two blocks alone may have turned -/
structure But2 (h g : Nat) (w w' : World) : Prop where
  os : w'.os = w.os
  tape : w'.tape = w.tape
  output : w'.output = w.output
  size : w.heap.size ≤ w'.heap.size
  block : ∀ k, k < w.heap.size → k ≠ h → k ≠ g → w'.heap[k]? = w.heap[k]?
theorem But2.refl (h g : Nat) (w : World) : But2 h g w w := ⟨rfl, rfl, rfl, Nat.le_refl _, fun _ _ _ _ => rfl⟩
theorem But2.trans {h g : Nat} {a b c : World} (x : But2 h g a b) (y : But2 h g b c) : But2 h g a c :=
  ⟨y.os.trans x.os, y.tape.trans x.tape, y.output.trans x.output, Nat.le_trans x.size y.size, fun k hk h1 h2 => (y.block k (Nat.lt_of_lt_of_le hk x.size) h1 h2).trans (x.block k hk h1 h2)⟩
theorem But2.of_below {h g : Nat} {a b : World} (x : Below a.heap.size a b) : But2 h g a b := ⟨x.os, x.tape, x.output, x.size, fun k hk _ _ => x.block k hk⟩
theorem But2.left {h g : Nat} {a b : World} (x : But h a b) : But2 h g a b := ⟨x.os, x.tape, x.output, x.size, fun k hk h1 _ => x.block k hk h1⟩
theorem But2.right {h g : Nat} {a b : World} (x : But g a b) : But2 h g a b := ⟨x.os, x.tape, x.output, x.size, fun k hk _ h1 => x.block k hk h1⟩
theorem But2.below {B h g : Nat} {w W W' : World} (x : Below B w W) (hB : B ≤ w.heap.size) (h1 : B ≤ h) (h2 : B ≤ g) (y : But2 h g W W') : Below B w W' :=
  ⟨y.os.trans x.os, y.tape.trans x.tape, y.output.trans x.output, Nat.le_trans x.size y.size, fun k hk => (y.block k (Nat.lt_of_lt_of_le (Nat.lt_of_lt_of_le hk hB) x.size) (by omega) (by omega)).trans (x.block k hk)⟩
theorem But2.later {h g g' : Nat} {a b c : World} (x : But2 h g a b) (hg : g' = g ∨ a.heap.size ≤ g') (y : But2 h g' b c) : But2 h g a c :=
  ⟨y.os.trans x.os, y.tape.trans x.tape, y.output.trans x.output, Nat.le_trans x.size y.size, fun k hk h1 h2 => (y.block k (Nat.lt_of_lt_of_le hk x.size) h1 (by rcases hg with e | e <;> omega)).trans (x.block k hk h1 h2)⟩
theorem assertC (v : Value) (w : World) : (Instr.typeAssert (.iface 69 v) 20 69 true).run Try.prog w = .ok (.tuple #[v, .bool true]) w := by kernel_rfl
set_option maxHeartbeats 4000000 in
theorem pushQ_calls (w : World) (h g cap n : Nat) (f : Nat → Ent) (hq : HQ 126 w h g cap n f) (hn : n ≤ 100000) (e : Ent) :
    Calls Try.prog 184 #[.pointer (some ⟨h, 0, none⟩), .iface 69 (.agg #[.int .u64 e.c.id, .slice e.a e.c.par.length e.k, .int .u64 e.c.gen, .int .u64 e.c.root, .string e.c.text])] w fun r w' => r = .returned (.tuple #[]) ∧ ∃ g' cap', HQ 126 w' h g' cap' (n + 1) (upd f n e) ∧ But2 h g w w' ∧ (g' = g ∨ w.heap.size ≤ g') := by
  have hta := assertC
  have hc := hq.1.one.1
  have hf := hq.1.one.2
  have hlt : h < w.heap.size := cell_lt hc
  have hgl := hq.2.1.lt
  obtain ⟨C, hC⟩ : ∃ C, C = Obj.cells #[.int .u64 e.c.id, .slice e.a e.c.par.length e.k, .int .u64 e.c.gen, .int .u64 e.c.root, .string e.c.text] 69 := ⟨_, rfl⟩
  have hb2 : Below w.heap.size w (((w.alloc C).drew).alloc C) := bel_al0 (bel_dr (bel_al0 (Below.refl _ _) _)) _
  have hz2 : (((w.alloc C).drew).alloc C).heap.size = w.heap.size + 2 := by simp
  have hfl : Flat (((w.alloc C).drew).alloc C) (some ⟨w.heap.size + 1, 0, none⟩) e.vals := fun _ => ⟨w.heap.size + 1, 0, rfl, fun q u hq => by
    have hb : Blk (((w.alloc C).drew).alloc C) (w.heap.size + 1) #[.int .u64 e.c.id, .slice e.a e.c.par.length e.k, .int .u64 e.c.gen, .int .u64 e.c.root, .string e.c.text] 69 := by
      have := blk_new ((w.alloc C).drew) #[.int .u64 e.c.id, .slice e.a e.c.par.length e.k, .int .u64 e.c.gen, .int .u64 e.c.root, .string e.c.text] 69
      rw [← hC] at this
      have hz : ((w.alloc C).drew).heap.size = w.heap.size + 1 := by simp
      rw [hz] at this
      exact this
    refine hb.cell ?_
    rw [Nat.zero_add]
    simpa [Ent.vals] using hq⟩
  obtain ⟨v', w3, r1, r2, r3, r4⟩ := run_append_flat (P := Try.prog) (w := ((w.alloc C).drew).alloc C) 0 126 126 69 _ 5 64 Try.underlying126 infoCommit rfl (by decide) _ n _ ((hq.2.1.below hb2).own) (some ⟨w.heap.size + 1, 0, none⟩) 1 1 e.vals rfl hfl (by intro u hu; simp [Ent.vals] at hu; rcases hu with rfl | rfl | rfl | rfl | rfl <;> rfl) (by unfold maxLen; omega) (by omega) (Nat.zero_le _)
  have hfx : flat n f ++ e.vals = flat (n + 1) (upd f n e) := by
    rw [flat_succ, flat_congr (f := f) (f' := upd f n e) (fun k hk => by unfold upd; rw [if_neg (by omega)])]
    simp [upd]
  rw [hfx] at r2
  obtain ⟨g', cap', rfl, hrow3⟩ := own_HRow r2 (by omega)
  have hg' : g' = g ∨ w.heap.size ≤ g' := by
    rcases r4 with e1 | e1
    · simp [Value.ownBlock] at e1; exact Or.inl e1
    · simp [Value.ownBlock] at e1; right; omega
  have hh3 : w3.heap[h]? = w.heap[h]? := by
    rw [r3.block h (by omega) (by simp [Value.ownBlock]; exact fun e => hq.2.2 e)]
    exact hb2.block h hlt
  have hbk3 : Blk w3 h #[.slice (some ⟨g, 0, none⟩) n cap] 126 := hh3.trans hq.1
  have hhg : h ≠ g' := by
    rcases hg' with rfl | hg'
    · exact hq.2.2
    · omega
  have hfin : HQ 126 (w3.setCell ⟨h, 0, none⟩ (.slice (some ⟨g', 0, none⟩) (n + 1) cap')) h g' cap' (n + 1) (upd f n e) ∧ But2 h g w (w3.setCell ⟨h, 0, none⟩ (.slice (some ⟨g', 0, none⟩) (n + 1) cap')) := by
    refine ⟨⟨hbk3.set 0 _, ?_, hhg⟩, ?_⟩
    · obtain ⟨cur, h1, h2⟩ := hrow3
      exact ⟨cur, h1.other hhg.symm _ _, h2⟩
    · exact (But2.of_below hb2).trans ((But2.right (But.of_grown r3)).trans (But2.left (But.set _ _ _ _)))
  have HFIN := Lib.hid hfin
  have HG' := Lib.hid hg'
  have HR1 := Lib.hid r1
  have hc3 : w3.cell? ⟨h, 0, none⟩ = some (.slice (some ⟨g, 0, none⟩) n cap) := hbk3.one.1
  have hf3 : w3.frozen? ⟨h, 0, none⟩ = false := hbk3.one.2 0
  have hlt3 := cell_lt hc3
  clear hfin hg' r1 r2 r3 r4 hrow3 hfx hfl hb2 hz2 hh3 hbk3 hhg
  subst hC
  go_enter Try.func184, Try.ntmps184
  go_wp2
  go_region_law (refine step_append_run rfl (.tmp 15) (.tmp 17) 126 rfl _ _ rfl rfl HR1.out ?_)
  all_goals go_wp2
  all_goals go_end0
  all_goals exact ⟨rfl, g', cap', HFIN.out.1, HFIN.out.2, HG'.out⟩
theorem HRow.less {w : World} {g cap n : Nat} {f : Nat → Ent} (h : HRow w g cap (n + 1) f) : HRow w g cap n f := by
  obtain ⟨cur, h1, h2, h3, h4, h5⟩ := h
  exact ⟨cur, h1, h2, by omega, h4, fun j hj t u ht => h5 j (by omega) t u ht⟩
set_option maxHeartbeats 4000000 in
theorem popQ_calls (w : World) (h g cap n : Nat) (f : Nat → Ent) (hq : HQ 126 w h g cap (n + 1) f) (hn : n ≤ 100000) :
    Calls Try.prog 183 #[.pointer (some ⟨h, 0, none⟩)] w fun r w' => r = .returned (.iface 69 (.agg #[.int .u64 (f n).c.id, .slice (f n).a (f n).c.par.length (f n).k, .int .u64 (f n).c.gen, .int .u64 (f n).c.root, .string (f n).c.text])) ∧ HQ 126 w' h g cap n f ∧ But h w w' := by
  have hc := hq.1.one.1
  have hf := hq.1.one.2
  have hlt : h < w.heap.size := cell_lt hc
  have hgl := hq.2.1.lt
  obtain ⟨a0, a1, a2, a3, a4⟩ := hq.2.1.five (j := n) (by omega)
  have hcap : n + 1 ≤ cap := by obtain ⟨cur, h1, h2, h3, _⟩ := hq.2.1; exact h3
  have hne : g ≠ h := fun e => hq.2.2 e.symm
  have H := Lib.hid hq; clear hq
  obtain ⟨x, hx⟩ : ∃ x, x = f n := ⟨_, rfl⟩
  rw [← hx] at a0 a1 a2 a3 a4 ⊢
  clear hx
  have e1 : ((n : Int) + 1 - 1) = n := by omega
  go_enter Try.func183, Try.ntmps183
  go_wp2
  go_ret
  have hq' : HQ 126 (w.setCell ⟨h, 0, none⟩ (.slice (some ⟨g, 0, none⟩) n cap)) h g cap n f := by
    refine ⟨H.out.1.set 0 _, ?_, H.out.2.2⟩
    obtain ⟨cur, h1, h2⟩ := H.out.2.1.less
    exact ⟨cur, h1.other hne _ _, h2⟩
  exact ⟨rfl, hq'.below (bel_al0 (Below.refl _ _) _), (But.set _ _ _ _).trans (But.of_below (bel_al0 (Below.refl _ _) _))⟩
theorem qlen_calls (w : World) (A : Option Addr) (n k : Nat) : Calls Try.prog 97 #[.slice A n k] w fun e w' => e = .returned (.int .i64 n) ∧ Below w.heap.size w w' := by
  go_enter Try.func97, Try.ntmps97
  go_wp2
  go_ret
  exact ⟨rfl, by (repeat (first | (with_reducible exact Below.refl _ _) | (with_reducible assumption) | (with_reducible refine bel_al0 ?_ _) | (with_reducible refine bel_set ?_ (by first | (simp; done) | (simp; omega)) _) | (with_reducible refine bel_dr ?_) | (with_reducible refine bel_drn ?_ _) | (with_reducible refine bel_tr ?_ (by assumption))))⟩
def PermN (n : Nat) (f f' : Nat → Ent) : Prop := ((List.range n).map f').Perm ((List.range n).map f)
theorem PermN.refl (n : Nat) (f : Nat → Ent) : PermN n f f := List.Perm.refl _
theorem PermN.sw {n : Nat} {f f' : Nat → Ent} (h : PermN n f f') {i j : Nat} (hi : i < n) (hj : j < n) : PermN n f (sw f' i j) := by
  refine List.Perm.trans ?_ h
  obtain ⟨t, ht⟩ : ∃ t : Nat → Nat, t = fun k => if k = i then j else if k = j then i else k := ⟨_, rfl⟩
  have hti : ∀ k, t (t k) = k := fun k => by
    rw [ht]
    simp only
    by_cases h1 : k = i
    · subst h1
      by_cases h2 : j = k <;> simp [h2]
    · by_cases h2 : k = j
      · subst h2; simp [h1]
      · simp [h1, h2]
  have e : (List.range n).map (Go.Apo.sw f' i j) = ((List.range n).map t).map f' := by
    rw [List.map_map]
    refine List.map_congr_left fun k _ => ?_
    rw [ht]
    simp only [Function.comp, Go.Apo.sw]
    by_cases h1 : k = i
    · simp [h1]
    · by_cases h2 : k = j
      · subst h2; simp [h1]
      · simp [h1, h2]
  rw [e]
  refine List.Perm.map _ ((List.perm_ext_iff_of_nodup ?_ List.nodup_range).2 fun x => ?_)
  · rw [List.nodup_iff_pairwise_ne, List.pairwise_map]
    exact List.Pairwise.imp (fun {a b} hab e => hab (by rw [← hti a, ← hti b, e])) (List.nodup_iff_pairwise_ne.1 List.nodup_range)
  · rw [List.mem_map]
    have hb : ∀ k, k < n → t k < n := fun k hk => by rw [ht]; (try simp only); (repeat' split) <;> assumption
    constructor
    · rintro ⟨k, hk, rfl⟩
      exact List.mem_range.2 (hb k (List.mem_range.1 hk))
    · intro hx
      exact ⟨t x, List.mem_range.2 (hb x (List.mem_range.1 hx)), hti x⟩
theorem wrapchk (P : Program) (t : TypeId) (a : Addr) (s : String) (w : World) : (Builtin.ssaWrapNilChk_ #[t] t #[.pointer (some a), strVal "", strVal s]).run P w = .ok (.pointer (some a)) w := by rfl
theorem meth_val (t e : TypeId) (h : Nat) (v : Value) (w : World) (name : String) (fn : FuncId)
    (h0 : ∀ w, (typeInfo t).run Try.prog w = .ok ((Try.prog.types[t]?).getD default) w)
    (h1 : ((((Try.prog.types[t]?).getD default).methods.find? (·.name == name)).map fun m => (m.path, m.func)) = some (#[], some (fn, false)))
    (h2 : Try.prog.underlying t = some (.pointer e)) (h3 : ∀ a w, (loadVar e a).run Try.prog w = (load a .plain).run Try.prog w)
    (hc : w.cell? ⟨h, 0, none⟩ = some v) (k : Nat) : (method (k + 1) t (.pointer (some ⟨h, 0, none⟩)) name).run Try.prog w = .ok (fn, v) w := by
  obtain ⟨m, hm, hmm⟩ := Option.map_eq_some_iff.1 h1
  simp only [Prod.mk.injEq] at hmm
  obtain ⟨m1, m2⟩ := hmm
  have h4 : (underlying t).run Try.prog w = .ok (.pointer e) w := run_underlying h2 w
  unfold method
  rw [Sem.run_bind, h0, Result.andThen_ok, hm]
  simp only [m1, m2]
  have h5 := wrapchk Try.prog t ⟨h, 0, none⟩
  simp [follow, receiverAt, Place.get, Sem.run_bind, Sem.run_pure, h4, h5, asAddr, h3, hc, Result.andThen]
theorem meth_ptr (t : TypeId) (h : Nat) (w : World) (name : String) (fn : FuncId) {e : TypeId}
    (h0 : ∀ w, (typeInfo t).run Try.prog w = .ok ((Try.prog.types[t]?).getD default) w)
    (h1 : ((((Try.prog.types[t]?).getD default).methods.find? (·.name == name)).map fun m => (m.path, m.func)) = some (#[], some (fn, true)))
    (h2 : Try.prog.underlying t = some (.pointer e)) (k : Nat) : (method (k + 1) t (.pointer (some ⟨h, 0, none⟩)) name).run Try.prog w = .ok (fn, .pointer (some ⟨h, 0, none⟩)) w := by
  obtain ⟨m, hm, hmm⟩ := Option.map_eq_some_iff.1 h1
  simp only [Prod.mk.injEq] at hmm
  obtain ⟨m1, m2⟩ := hmm
  have h4 : (underlying t).run Try.prog w = .ok (.pointer e) w := run_underlying h2 w
  unfold method
  rw [Sem.run_bind, h0, Result.andThen_ok, hm]
  simp only [m1, m2]
  simp [follow, receiverAt, Place.get, Sem.run_bind, Sem.run_pure, h4, Result.andThen]
theorem lvarQ (a : Addr) (w : World) : (loadVar 126 a).run Try.prog w = (load a .plain).run Try.prog w := by kernel_rfl
theorem infoQ (w : World) : (typeInfo 125).run Try.prog w = .ok ((Try.prog.types[125]?).getD default) w := by kernel_rfl
theorem mLessQ (h : Nat) (v : Value) (w : World) (hc : w.cell? ⟨h, 0, none⟩ = some v) : (method 305 125 (.pointer (some ⟨h, 0, none⟩)) "Less").run Try.prog w = .ok (182, v) w :=
  meth_val _ _ h v w "Less" _ infoQ (by kernel_rfl) Try.underlying125 lvarQ hc 304
theorem mSwapQ (h : Nat) (v : Value) (w : World) (hc : w.cell? ⟨h, 0, none⟩ = some v) : (method 305 125 (.pointer (some ⟨h, 0, none⟩)) "Swap").run Try.prog w = .ok (185, v) w :=
  meth_val _ _ h v w "Swap" _ infoQ (by kernel_rfl) Try.underlying125 lvarQ hc 304
theorem mLenQ (h : Nat) (v : Value) (w : World) (hc : w.cell? ⟨h, 0, none⟩ = some v) : (method 305 125 (.pointer (some ⟨h, 0, none⟩)) "Len").run Try.prog w = .ok (97, v) w :=
  meth_val _ _ h v w "Len" _ infoQ (by kernel_rfl) Try.underlying125 lvarQ hc 304
theorem mPushQ (h : Nat) (w : World) : (method 305 125 (.pointer (some ⟨h, 0, none⟩)) "Push").run Try.prog w = .ok (184, .pointer (some ⟨h, 0, none⟩)) w :=
  meth_ptr _ h w "Push" _ infoQ (by kernel_rfl) Try.underlying125 304
theorem mPopQ (h : Nat) (w : World) : (method 305 125 (.pointer (some ⟨h, 0, none⟩)) "Pop").run Try.prog w = .ok (183, .pointer (some ⟨h, 0, none⟩)) w :=
  meth_ptr _ h w "Pop" _ infoQ (by kernel_rfl) Try.underlying125 304
def ltE (a b : Ent) : Bool := ltQ a.c b.c
theorem ltQ_iff (a b : CommitD) : ltQ a b = true ↔ b.gen < a.gen ∨ (a.gen = b.gen ∧ b.id < a.id) := by
  unfold ltQ
  by_cases e : a.gen = b.gen
  · have e' : (a.gen != b.gen) = false := by simp [e]
    rw [e']
    simp only [Bool.false_eq_true, if_false, decide_eq_true_iff]
    omega
  · have e' : (a.gen != b.gen) = true := by simp [e]
    rw [e']
    simp only [if_true, decide_eq_true_iff]
    omega
theorem ltQ_no (a b : CommitD) : ltQ a b = false ↔ ¬ (b.gen < a.gen ∨ (a.gen = b.gen ∧ b.id < a.id)) := by rw [← ltQ_iff, Bool.not_eq_true]
theorem ordQ : Ord ltE where
  asym := fun a b h => by unfold ltE at *; rw [ltQ_iff] at h; rw [ltQ_no]; omega
  irr := fun a => by unfold ltE; rw [ltQ_no]; omega
  trans := fun a b c h1 h2 => by unfold ltE at *; rw [ltQ_no] at *; omega
theorem HQ.but {t : TypeId} {w w' : World} {h g cap n : Nat} {f f' : Nat → Ent} (q : HQ t w h g cap n f) (hr : HRow w' g cap n f') (hb : But g w w') : HQ t w' h g cap n f' :=
  ⟨(hb.block h q.1.lt q.2.2).trans q.1, hr, q.2.2⟩

set_option maxHeartbeats 4000000 in
theorem up_calls (w : World) (h g cap n : Nat) (f : Nat → Ent) (hq : HQ 126 w h g cap n f) (hn : n ≤ 100000) (j : Nat) (hj : j < n) (hu : UpInv ltE n f j) :
    Calls Try.prog 120 #[.iface 125 (.pointer (some ⟨h, 0, none⟩)), .int .i64 j] w fun r w' => r = .returned (.tuple #[]) ∧ ∃ f', HQ 126 w' h g cap n f' ∧ IsHeap ltE n f' ∧ PermN n f f' ∧ But g w w' := by
  have HQ0 := Lib.hid hq; clear hq
  have HU := Lib.hid hu; clear hu
  go_enter Try.func120, Try.ntmps120
  go_wp2
  go_loopw [1] (fun v wr => ∃ (q : Nat) (f' : Nat → Ent), q < n ∧ v = .int .i64 q ∧ Hid (HQ 126 wr h g cap n f') ∧ Hid (UpInv ltE n f' q) ∧ Hid (PermN n f f') ∧ Hid (But g w wr)) (fun v _ => (intOf v).toNat)
  case atStart => exact ⟨j, f, hj, rfl, HQ0, HU, PermN.refl _ _, But.refl _ _⟩
  case round =>
    obtain ⟨q, f', hq, rfl, hQ, hU, hP, hB⟩ := hrel
    cases q with
    | zero =>
      have e1 : ((0 : Int) - 1).tdiv 2 = 0 := by decide
      go_wp2
      go_end0
      exact ⟨rfl, f', hQ.out, hU.out.done0, hP.out, hB.out⟩
    | succ q =>
      have hc := hQ.out.1.one.1
      have hlt : h < wr.heap.size := cell_lt hc
      have e1 : ((q : Int) + 1 - 1) = q := by omega
      have e2 : ((q : Int)).tdiv 2 = (q : Int) / 2 := by rw [Int.tdiv_eq_ediv_of_nonneg (by omega)]
      have g1 : (((q : Int) / 2) == ((q : Int) + 1)) = false := by rw [beq_eq_false_iff_ne]; omega
      have m1 := mLessQ h _ wr hc
      have HL := lessQ_calls wr g cap n f' hQ.out.2.1 (q + 1) (q / 2) hq (by omega) hn
      obtain ⟨y, hy⟩ : ∃ y, y = ltQ (f' (q + 1)).c (f' (q / 2)).c := ⟨_, rfl⟩
      rw [← hy] at HL
      push_cast at HL
      have HL2 := Lib.hid HL; clear HL
      have HY := Lib.hid hy; clear hy
      cases y with
      | false =>
        go_wp2_with (go_at_call 182; refine HL2.out.mono ?_; rintro e w1 ⟨rfl, hb1⟩)
        go_end0
        refine ⟨rfl, f', hQ.out.below hb1, hU.out.done ?_, hP.out, hB.out.trans (But.of_below hb1)⟩
        rw [show q + 1 - 1 = q by omega]
        exact HY.out.symm
      | true =>
        have HS := Lib.hid (fun w1 (hb1 : Below wr.heap.size wr w1) => swapQ_calls w1 g cap n f' (hQ.out.below hb1).2.1 (q / 2) (q + 1) (by omega) hq (by omega) hn)
        push_cast at HS
        go_wp2_with (first | (go_at_call 182; refine HL2.out.mono ?_; rintro e w1 ⟨rfl, hb1⟩; have m2 := mSwapQ h _ w1 (cell_bel hc hb1)) | (go_at_call 185; refine (HS.out _ hb1).mono ?_; rintro e w2 ⟨rfl, hr2, hb2⟩; have HR2 := Lib.hid hr2; clear hr2; have HB2 := Lib.hid hb2; clear hb2))
        go_roundw
        case rel =>
          refine ⟨q / 2, sw f' (q / 2) (q + 1), by omega, by push_cast; rfl, ?_, ?_, ?_, ?_⟩
          · exact (hQ.out.below hb1).but HR2.out HB2.out
          · exact hU.out.step ordQ (by omega) hq (by omega) HY.out.symm
          · exact hP.out.sw (by omega) hq
          · exact (hB.out.trans (But.of_below hb1)).trans HB2.out
        case measure => simp [intOf]; omega

/-- heap.Push -/
theorem hpush_calls (w : World) (h g cap n : Nat) (f : Nat → Ent) (hq : HQ 126 w h g cap n f) (hn : n ≤ 90000) (hh : IsHeap ltE n f) (e : Ent) :
    Calls Try.prog 96 #[.iface 125 (.pointer (some ⟨h, 0, none⟩)), .iface 69 (.agg #[.int .u64 e.c.id, .slice e.a e.c.par.length e.k, .int .u64 e.c.gen, .int .u64 e.c.root, .string e.c.text])] w fun r w' => r = .returned (.tuple #[]) ∧ ∃ g' cap' f', HQ 126 w' h g' cap' (n + 1) f' ∧ IsHeap ltE (n + 1) f' ∧ PermN (n + 1) (upd f n e) f' ∧ But2 h g w w' ∧ (g' = g ∨ w.heap.size ≤ g') := by
  have HP := Lib.hid (pushQ_calls w h g cap n f hq (by omega) e)
  have hc := hq.1.one.1
  have hlt : h < w.heap.size := cell_lt hc
  have hH : IsHeap ltE n (upd f n e) := hh.congr (fun k hk => by unfold upd; rw [if_neg (by omega)])
  have HH := Lib.hid (UpInv.start hH)
  clear hh hH hq
  have m1 := mPushQ h w
  go_enter Try.func96, Try.ntmps96
  go_wp2_with (first | (go_at_call 184; refine HP.out.mono ?_; rintro r w1 ⟨rfl, g1, cap1, hq1, hb1, hg1⟩; have hc1 := hq1.1.one.1; have hlt1 := cell_lt hc1; have HQ1 := Lib.hid hq1; clear hq1; have m2 := mLenQ h _ w1 hc1; have HB1 := Lib.hid hb1; clear hb1; have HG1 := Lib.hid hg1; clear hg1) | (go_at_call 97; refine (qlen_calls _ _ _ _).mono ?_; rintro r w2 ⟨rfl, hb2⟩; have HU := Lib.hid (up_calls w2 h g1 cap1 (n + 1) (upd f n e) (HQ1.out.below hb2) (by omega) n (by omega) HH.out)) | (go_at_call 120; refine HU.out.mono ?_; rintro r w3 ⟨rfl, f3, hq3, hh3, hp3, hb3⟩))
  go_end0
  refine ⟨rfl, g1, cap1, f3, hq3, hh3, hp3, ?_, HG1.out⟩
  exact HB1.out.later HG1.out ((But2.of_below hb2).trans (But2.right hb3))
/-- heap.down -/
def DownPost (w : World) (h g cap N n : Nat) (f : Nat → Ent) (r : Ending) (w' : World) : Prop :=
  ∃ b f', r = .returned (.bool b) ∧ HQ 126 w' h g cap N f' ∧ IsHeap ltE n f' ∧ PermN N f f' ∧ (∀ k, n ≤ k → f' k = f k) ∧ But g w w'
theorem downPost {w w' : World} {h g cap N n : Nat} {f f' : Nat → Ent} {b : Bool} (h1 : HQ 126 w' h g cap N f') (h2 : IsHeap ltE n f') (h3 : PermN N f f') (h4 : ∀ k, n ≤ k → f' k = f k) (h5 : But g w w') : DownPost w h g cap N n f (.returned (.bool b)) w' := ⟨b, f', rfl, h1, h2, h3, h4, h5⟩
set_option maxHeartbeats 8000000 in
theorem down_calls (w : World) (h g cap N n : Nat) (f : Nat → Ent) (hq : HQ 126 w h g cap N f) (hN : N ≤ 100000) (hn : n ≤ N) (hu : DnInv ltE n f 0) :
    Calls Try.prog 121 #[.iface 125 (.pointer (some ⟨h, 0, none⟩)), .int .i64 0, .int .i64 n] w (DownPost w h g cap N n f) := by
  have HQ0 := Lib.hid hq; clear hq
  have HU := Lib.hid hu; clear hu
  go_enter Try.func121, Try.ntmps121
  go_wp2
  go_loopw [7] (fun v wr => ∃ (i : Nat) (f' : Nat → Ent), i ≤ n ∧ v = .int .i64 i ∧ Hid (HQ 126 wr h g cap N f') ∧ Hid (DnInv ltE n f' i) ∧ Hid (PermN N f f') ∧ Hid (∀ k, n ≤ k → f' k = f k) ∧ Hid (But g w wr)) (fun v _ => n - (intOf v).toNat)
  case atStart => exact ⟨0, f, Nat.zero_le _, rfl, HQ0, HU, PermN.refl _ _, fun _ _ => rfl, But.refl _ _⟩
  case round =>
    obtain ⟨i, f', hi, rfl, hQ, hU, hP, hK, hB⟩ := hrel
    by_cases hlf : n ≤ 2 * i + 1
    · go_wp2
      go_ret
      exact downPost hQ.out (hU.out.leaf hlf) hP.out hK.out hB.out
    · have hc := hQ.out.1.one.1
      have hlt : h < wr.heap.size := cell_lt hc
      have m1 := mLessQ h _ wr hc
      have HL := Lib.hid (fun w1 (hb : Below wr.heap.size wr w1) a b (ha : a < n) (hb' : b < n) => lessQ_calls w1 g cap N f' (hQ.out.below hb).2.1 a b (by omega) (by omega) hN)
      have HSW := Lib.hid (fun w1 (hb : Below wr.heap.size wr w1) a b (ha : a < n) (hb' : b < n) (hab : a ≠ b) => swapQ_calls w1 g cap N f' (hQ.out.below hb).2.1 a b (by omega) (by omega) hab hN)
      by_cases hj2 : n ≤ 2 * i + 1 + 1
      · have HLi := Lib.hid (fun w1 (hb : Below wr.heap.size wr w1) => HL.out w1 hb (2 * i + 1) i (by omega) (by omega))
        obtain ⟨y, hy⟩ : ∃ y, y = ltQ (f' (2 * i + 1)).c (f' i).c := ⟨_, rfl⟩
        rw [← hy] at HLi
        have HY := Lib.hid hy; clear hy
        push_cast at HLi
        have HS := Lib.hid (fun w1 (hb : Below wr.heap.size wr w1) => HSW.out w1 hb i (2 * i + 1) (by omega) (by omega) (by omega))
        push_cast at HS
        have hsm : ∀ k, 0 < k → k < n → (k - 1) / 2 = i → ltE (f' k) (f' (2 * i + 1)) = false := fun k k0 kn kp => by (have e : k = 2 * i + 1 := (by omega)); rw [e]; exact ordQ.irr _
        cases y with
        | false =>
          go_wp2_with (first | (go_at_call 182; refine (HLi.out _ (Below.refl _ _)).mono ?_; clear HLi; rintro e w2 ⟨rfl, hb2⟩))
          go_ret
          exact downPost (hQ.out.below hb2) (hU.out.done ordQ (j := 2 * i + 1) hsm HY.out.symm) hP.out hK.out (hB.out.trans (But.of_below hb2))
        | true =>
          go_wp2_with (first | (go_at_call 182; refine (HLi.out _ (Below.refl _ _)).mono ?_; clear HLi; rintro e w2 ⟨rfl, hb2⟩; have m3 := mSwapQ h _ w2 (cell_bel hc hb2)) | (go_at_call 185; refine (HS.out _ hb2).mono ?_; rintro e w3 ⟨rfl, hr3, hb3⟩; have HR3 := Lib.hid hr3; clear hr3; have HB3 := Lib.hid hb3; clear hb3))
          go_roundw
          case rel =>
            refine ⟨2 * i + 1, sw f' i (2 * i + 1), by omega, by push_cast; rfl, (hQ.out.below hb2).but HR3.out HB3.out, hU.out.step ordQ (by omega) (by omega) (by omega) hsm HY.out.symm, hP.out.sw (by omega) (by omega), fun k hk => ?_, (hB.out.trans (But.of_below hb2)).trans HB3.out⟩
            rw [sw_o (by omega) (by omega)]; exact hK.out k hk
          case measure => simp [intOf]; omega
      · have HL21 := Lib.hid (fun w1 (hb : Below wr.heap.size wr w1) => HL.out w1 hb (2 * i + 1 + 1) (2 * i + 1) (by omega) (by omega))
        obtain ⟨z, hz⟩ : ∃ z, z = ltQ (f' (2 * i + 1 + 1)).c (f' (2 * i + 1)).c := ⟨_, rfl⟩
        rw [← hz] at HL21
        have HZ := Lib.hid hz; clear hz
        push_cast at HL21
        cases z with
        | false =>
          have HLi := Lib.hid (fun w1 (hb : Below wr.heap.size wr w1) => HL.out w1 hb (2 * i + 1) i (by omega) (by omega))
          obtain ⟨y, hy⟩ : ∃ y, y = ltQ (f' (2 * i + 1)).c (f' i).c := ⟨_, rfl⟩
          rw [← hy] at HLi
          have HY := Lib.hid hy; clear hy
          push_cast at HLi
          have HS := Lib.hid (fun w1 (hb : Below wr.heap.size wr w1) => HSW.out w1 hb i (2 * i + 1) (by omega) (by omega) (by omega))
          push_cast at HS
          have hsm : ∀ k, 0 < k → k < n → (k - 1) / 2 = i → ltE (f' k) (f' (2 * i + 1)) = false := fun k k0 kn kp => by
            rcases (show k = 2 * i + 1 ∨ k = 2 * i + 1 + 1 by omega) with e | e
            · rw [e]; exact ordQ.irr _
            · rw [e]; exact HZ.out.symm
          cases y with
          | false =>
            go_wp2_with (first | (go_at_call 182; refine (HL21.out _ (Below.refl _ _)).mono ?_; clear HL21; rintro e w1 ⟨rfl, hb1⟩; have m2 := mLessQ h _ w1 (cell_bel hc hb1)) | (go_at_call 182; refine (HLi.out _ hb1).mono ?_; clear HLi; rintro e w2 ⟨rfl, hb2⟩))
            go_ret
            exact downPost (hQ.out.below (bel_tr hb1 hb2)) (hU.out.done ordQ (j := 2 * i + 1) hsm HY.out.symm) hP.out hK.out (hB.out.trans (But.of_below (bel_tr hb1 hb2)))
          | true =>
            go_wp2_with (first | (go_at_call 182; refine (HL21.out _ (Below.refl _ _)).mono ?_; clear HL21; rintro e w1 ⟨rfl, hb1⟩; have m2 := mLessQ h _ w1 (cell_bel hc hb1)) | (go_at_call 182; refine (HLi.out _ hb1).mono ?_; clear HLi; rintro e w2 ⟨rfl, hb2⟩; have m3 := mSwapQ h _ w2 (cell_bel hc (bel_tr hb1 hb2))) | (go_at_call 185; refine (HS.out _ (bel_tr hb1 hb2)).mono ?_; rintro e w3 ⟨rfl, hr3, hb3⟩; have HR3 := Lib.hid hr3; clear hr3; have HB3 := Lib.hid hb3; clear hb3))
            go_roundw
            case rel =>
              refine ⟨2 * i + 1, sw f' i (2 * i + 1), by omega, by push_cast; rfl, (hQ.out.below (bel_tr hb1 hb2)).but HR3.out HB3.out, hU.out.step ordQ (by omega) (by omega) (by omega) hsm HY.out.symm, hP.out.sw (by omega) (by omega), fun k hk => ?_, (hB.out.trans (But.of_below (bel_tr hb1 hb2))).trans HB3.out⟩
              rw [sw_o (by omega) (by omega)]; exact hK.out k hk
            case measure => simp [intOf]; omega
        | true =>
          have HLi := Lib.hid (fun w1 (hb : Below wr.heap.size wr w1) => HL.out w1 hb (2 * i + 1 + 1) i (by omega) (by omega))
          obtain ⟨y, hy⟩ : ∃ y, y = ltQ (f' (2 * i + 1 + 1)).c (f' i).c := ⟨_, rfl⟩
          rw [← hy] at HLi
          have HY := Lib.hid hy; clear hy
          push_cast at HLi
          have HS := Lib.hid (fun w1 (hb : Below wr.heap.size wr w1) => HSW.out w1 hb i (2 * i + 1 + 1) (by omega) (by omega) (by omega))
          push_cast at HS
          have hsm : ∀ k, 0 < k → k < n → (k - 1) / 2 = i → ltE (f' k) (f' (2 * i + 1 + 1)) = false := fun k k0 kn kp => by
            rcases (show k = 2 * i + 1 ∨ k = 2 * i + 1 + 1 by omega) with e | e
            · rw [e]; exact ordQ.asym _ _ HZ.out.symm
            · rw [e]; exact ordQ.irr _
          cases y with
          | false =>
            go_wp2_with (first | (go_at_call 182; refine (HL21.out _ (Below.refl _ _)).mono ?_; clear HL21; rintro e w1 ⟨rfl, hb1⟩; have m2 := mLessQ h _ w1 (cell_bel hc hb1)) | (go_at_call 182; refine (HLi.out _ hb1).mono ?_; clear HLi; rintro e w2 ⟨rfl, hb2⟩))
            go_ret
            exact downPost (hQ.out.below (bel_tr hb1 hb2)) (hU.out.done ordQ (j := 2 * i + 1 + 1) hsm HY.out.symm) hP.out hK.out (hB.out.trans (But.of_below (bel_tr hb1 hb2)))
          | true =>
            go_wp2_with (first | (go_at_call 182; refine (HL21.out _ (Below.refl _ _)).mono ?_; clear HL21; rintro e w1 ⟨rfl, hb1⟩; have m2 := mLessQ h _ w1 (cell_bel hc hb1)) | (go_at_call 182; refine (HLi.out _ hb1).mono ?_; clear HLi; rintro e w2 ⟨rfl, hb2⟩; have m3 := mSwapQ h _ w2 (cell_bel hc (bel_tr hb1 hb2))) | (go_at_call 185; refine (HS.out _ (bel_tr hb1 hb2)).mono ?_; rintro e w3 ⟨rfl, hr3, hb3⟩; have HR3 := Lib.hid hr3; clear hr3; have HB3 := Lib.hid hb3; clear hb3))
            go_roundw
            case rel =>
              refine ⟨2 * i + 1 + 1, sw f' i (2 * i + 1 + 1), by omega, by push_cast; rfl, (hQ.out.below (bel_tr hb1 hb2)).but HR3.out HB3.out, hU.out.step ordQ (by omega) (by omega) (by omega) hsm HY.out.symm, hP.out.sw (by omega) (by omega), fun k hk => ?_, (hB.out.trans (But.of_below (bel_tr hb1 hb2))).trans HB3.out⟩
              rw [sw_o (by omega) (by omega)]; exact hK.out k hk
            case measure => simp [intOf]; omega
/-- heap.Pop -/
def PopPost (w : World) (h g cap n : Nat) (f : Nat → Ent) (r : Ending) (w' : World) : Prop :=
  ∃ f' : Nat → Ent, r = .returned (.iface 69 (.agg #[.int .u64 (f 0).c.id, .slice (f 0).a (f 0).c.par.length (f 0).k, .int .u64 (f 0).c.gen, .int .u64 (f 0).c.root, .string (f 0).c.text])) ∧ HQ 126 w' h g cap n f' ∧ IsHeap ltE n f' ∧ ((f 0) :: (List.range n).map f').Perm ((List.range (n + 1)).map f) ∧ But2 h g w w'
set_option maxHeartbeats 8000000 in
theorem hpop_calls (w : World) (h g cap n : Nat) (f : Nat → Ent) (hq : HQ 126 w h g cap (n + 1) f) (hn : n ≤ 90000) (hh : IsHeap ltE (n + 1) f) :
    Calls Try.prog 98 #[.iface 125 (.pointer (some ⟨h, 0, none⟩))] w (PopPost w h g cap n f) := by
  have hc := hq.1.one.1
  have hlt : h < w.heap.size := cell_lt hc
  have hgl := hq.2.1.lt
  have m1 := mLenQ h _ w hc
  have HQ0 := Lib.hid hq; clear hq
  have HD0 := Lib.hid (DnInv.start hh)
  clear hh
  have e1 : ((n : Int) + 1 - 1) = n := by omega
  · have HS : Hid (∀ w1, Below w.heap.size w w1 → Calls Try.prog 185 #[.slice (some ⟨g, 0, none⟩) (n + 1) cap, .int .i64 0, .int .i64 n] w1 fun e w' => e = .returned (.tuple #[]) ∧ HRow w' g cap (n + 1) (sw f 0 n) ∧ But g w1 w') := fun w1 hb => by
      by_cases hn0 : n = 0
      · subst hn0
        have hse : sw f 0 0 = f := by funext k; unfold sw; by_cases e : k = 0 <;> simp [e]
        rw [hse]
        exact swapQ0_calls w1 g cap 1 f (HQ0.out.below hb).2.1 (by omega) (by omega)
      · exact swapQ_calls w1 g cap (n + 1) f (HQ0.out.below hb).2.1 0 n (by omega) (by omega) (by omega) (by omega)
    go_enter Try.func98, Try.ntmps98
    go_wp2_with (first | (go_at_call 97; refine (qlen_calls _ _ _ _).mono ?_; rintro r w1 ⟨rfl, hb1⟩; have m2 := mSwapQ h _ w1 (cell_bel hc hb1)) | (go_at_call 185; refine (HS.out _ hb1).mono ?_; rintro r w2 ⟨rfl, hr2, hb2⟩; have HQ2 := Lib.hid ((HQ0.out.below hb1).but hr2 hb2); have HB2 := Lib.hid hb2; clear hr2 hb2; have HD := Lib.hid (down_calls w2 h g cap (n + 1) n _ HQ2.out (by omega) (by omega) HD0.out)) | (go_at_call 121; refine HD.out.mono ?_; rintro r w3 ⟨b3, f3, rfl, hq3, hh3, hp3, hk3, hb3⟩; have m4 := mPopQ h w3; have HP := Lib.hid (popQ_calls w3 h g cap n f3 hq3 (by omega)); have HQ3 := Lib.hid hq3; clear hq3; have HB3 := Lib.hid hb3; clear hb3; have HK3 := Lib.hid hk3; clear hk3; have HP3 := Lib.hid hp3; clear hp3; have HH3 := Lib.hid hh3; clear hh3) | (go_at_call 183; refine HP.out.mono ?_; rintro r w4 ⟨rfl, hq4, hb4⟩))
    go_ret
    have hfn : f3 n = f 0 := by rw [HK3.out n (Nat.le_refl _), sw_r]
    rw [hfn]
    refine ⟨f3, rfl, hq4, HH3.out, ?_, (But2.of_below hb1).trans ((But2.right HB2.out).trans ((But2.right HB3.out).trans (But2.left hb4)))⟩
    · have h1 : PermN (n + 1) f (sw f 0 n) := (PermN.refl _ _).sw (by omega) (by omega)
      have h2 := (HP3.out.trans h1 : ((List.range (n + 1)).map f3).Perm ((List.range (n + 1)).map f))
      rw [List.range_succ, List.map_append, List.map_cons, List.map_nil, hfn] at h2
      rw [List.range_succ]
      exact (List.perm_append_comm (l₁ := [f 0])).trans h2
end Go.Proofs.Ytehneliphhgegaa.O
