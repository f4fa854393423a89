/- A binary heap: what its two movements keep. In plain Lean; over any order. · The heap of commits: its row, less, swap, push, pop: walked once. -/
import Derived.Test.YtehneliphhgegaaSeq
import Derived.Test.YtehneliphhgegaaKidsAll
import Derived.Test.YtehneliphhgegaaRefGraphAll
section
set_option linter.unusedVariables false
namespace Go.Apo
section
variable {α : Type} (lt : α → α → Bool)
/-- what is asked of 'less' -/
structure Ord : Prop where
  asym : ∀ a b, lt a b = true → lt b a = false
  irr : ∀ a, lt a a = false
  trans : ∀ a b c, lt b a = false → lt c b = false → lt c a = false
def IsHeap (n : Nat) (f : Nat → α) : Prop := ∀ k, 0 < k → k < n → lt (f k) (f ((k - 1) / 2)) = false
def UpInv (n : Nat) (f : Nat → α) (j : Nat) : Prop :=
  (∀ k, 0 < k → k < n → k ≠ j → lt (f k) (f ((k - 1) / 2)) = false) ∧ (∀ k, 0 < k → k < n → (k - 1) / 2 = j → 0 < j → lt (f k) (f ((j - 1) / 2)) = false)
def DnInv (n : Nat) (f : Nat → α) (i : Nat) : Prop :=
  (∀ k, 0 < k → k < n → (k - 1) / 2 ≠ i → lt (f k) (f ((k - 1) / 2)) = false) ∧ (0 < i → ∀ k, 0 < k → k < n → (k - 1) / 2 = i → lt (f k) (f ((i - 1) / 2)) = false)
def sw (f : Nat → α) (i j : Nat) : Nat → α := fun k => if k = i then f j else if k = j then f i else f k
end
section
variable {α : Type} {lt : α → α → Bool} {f : Nat → α} {n i j : Nat}
theorem sw_l : sw f i j i = f j := by simp [sw]
theorem sw_r : sw f i j j = f i := by by_cases h : j = i <;> simp [sw, h]
theorem sw_o {k : Nat} (h1 : k ≠ i) (h2 : k ≠ j) : sw f i j k = f k := by simp [sw, h1, h2]
theorem UpInv.step (O : Ord lt) (h : UpInv lt n f j) (hj : 0 < j) (hn : j < n) (hi : i = (j - 1) / 2) (hl : lt (f j) (f i) = true) : UpInv lt n (sw f i j) i := by
  have hij : i < j := by omega
  have has := O.asym _ _ hl
  refine ⟨fun k k0 kn ki => ?_, fun k k0 kn kp i0 => ?_⟩
  · by_cases hkj : k = j
    · subst hkj
      rw [← hi, sw_r, sw_l]; exact has
    · rw [sw_o ki hkj]
      by_cases h1 : (k - 1) / 2 = j
      · rw [h1, sw_r, hi]; exact h.2 k k0 kn h1 hj
      · by_cases h2 : (k - 1) / 2 = i
        · rw [h2, sw_l]
          have := h.1 k k0 kn hkj
          rw [h2] at this
          exact O.trans _ _ _ has this
        · rw [sw_o h2 h1]; exact h.1 k k0 kn hkj
  · have hpi : (i - 1) / 2 < i := by omega
    rw [sw_o (k := (i - 1) / 2) (by omega) (by omega)]
    have hip := h.1 i i0 (by omega) (by omega)
    by_cases hkj : k = j
    · subst hkj; rw [sw_r]; exact hip
    · rw [sw_o (by omega) hkj]
      have := h.1 k k0 kn hkj
      rw [kp] at this
      exact O.trans _ _ _ hip this
theorem UpInv.done0 (h : UpInv lt n f 0) : IsHeap lt n f := fun k k0 kn => h.1 k k0 kn (by omega)
theorem UpInv.done (h : UpInv lt n f j) (hl : lt (f j) (f ((j - 1) / 2)) = false) : IsHeap lt n f := fun k k0 kn => by
  by_cases e : k = j
  · subst e; exact hl
  · exact h.1 k k0 kn e
theorem UpInv.start (h : IsHeap lt n f) : UpInv lt (n + 1) f n := ⟨fun k k0 kn ke => h k k0 (by omega), fun k k0 kn kp n0 => by omega⟩
theorem DnInv.step (O : Ord lt) (h : DnInv lt n f i) (hn : j < n) (h0 : 0 < j) (hi : (j - 1) / 2 = i) (hsm : ∀ k, 0 < k → k < n → (k - 1) / 2 = i → lt (f k) (f j) = false) (hl : lt (f j) (f i) = true) : DnInv lt n (sw f i j) j := by
  have hij : i < j := by omega
  refine ⟨fun k k0 kn kp => ?_, fun _ k k0 kn kp => ?_⟩
  · by_cases hkj : k = j
    · subst hkj; rw [hi, sw_r, sw_l]; exact O.asym _ _ hl
    · by_cases hki : k = i
      · subst hki
        rw [sw_l, sw_o (k := (k - 1) / 2) (by omega) (by omega)]
        exact h.2 k0 j h0 hn hi
      · rw [sw_o hki hkj]
        by_cases hpi : (k - 1) / 2 = i
        · rw [hpi, sw_l]; exact hsm k k0 kn hpi
        · rw [sw_o hpi kp]; exact h.1 k k0 kn hpi
  · rw [hi, sw_l, sw_o (by omega) (by omega)]
    have := h.1 k k0 kn (by omega)
    rwa [kp] at this
theorem DnInv.leaf (h : DnInv lt n f i) (hl : n ≤ 2 * i + 1) : IsHeap lt n f := fun k k0 kn => h.1 k k0 kn (by omega)
theorem DnInv.done (O : Ord lt) (h : DnInv lt n f i) (hsm : ∀ k, 0 < k → k < n → (k - 1) / 2 = i → lt (f k) (f j) = false) (hl : lt (f j) (f i) = false) : IsHeap lt n f := fun k k0 kn => by
  by_cases hp : (k - 1) / 2 = i
  · rw [hp]; exact O.trans _ _ _ hl (hsm k k0 kn hp)
  · exact h.1 k k0 kn hp
theorem DnInv.start (h : IsHeap lt (n + 1) f) : DnInv lt n (sw f 0 n) 0 :=
  ⟨fun k k0 kn kp => by rw [sw_o (by omega) (by omega), sw_o kp (by omega)]; exact h k k0 (by omega), fun h => absurd h (by omega)⟩
theorem IsHeap.least (O : Ord lt) (h : IsHeap lt n f) : ∀ k, k < n → lt (f k) (f 0) = false := by
  intro k
  induction k using Nat.strongRecOn with
  | ind k ih =>
    intro hk
    by_cases h0 : k = 0
    · subst h0; exact O.irr _
    · exact O.trans _ _ _ (ih ((k - 1) / 2) (by omega) (by omega)) (h k (by omega) hk)
theorem IsHeap.congr {g : Nat → α} (h : IsHeap lt n f) (e : ∀ k, k < n → g k = f k) : IsHeap lt n g := fun k k0 kn => by rw [e k kn, e _ (by omega)]; exact h k k0 kn
theorem IsHeap.zero : IsHeap lt 0 f := fun k k0 kn => by omega
end
end Go.Apo
end
section
set_option linter.unusedVariables false
set_option linter.unusedSimpArgs false
set_option maxRecDepth 100000
namespace Go.Proofs.Ytehneliphhgegaa
open Go.RowKit Go.Apo Go.Shelf

structure Ent where
  c : CommitD
  a : Option Addr
  k : Nat
def Ent.vals (e : Ent) : List Value := [.int .u64 e.c.id, .slice e.a e.c.par.length e.k, .int .u64 e.c.gen, .int .u64 e.c.root, .string e.c.text]
def HRow (w : World) (g cap n : Nat) (f : Nat → Ent) : Prop :=
  ∃ cur, Blk w g cur 69 ∧ cur.size = cap * 5 ∧ n ≤ cap ∧ cap ≤ maxLen ∧ ∀ j, j < n → ∀ t u, (f j).vals[t]? = some u → cur[j * 5 + t]? = some u
structure Five (w : World) (g o : Nat) (e : Ent) : Prop where
  c0 : w.cell? ⟨g, o, none⟩ = some (.int .u64 e.c.id)
  c1 : w.cell? ⟨g, o + 1, none⟩ = some (.slice e.a e.c.par.length e.k)
  c2 : w.cell? ⟨g, o + 2, none⟩ = some (.int .u64 e.c.gen)
  c3 : w.cell? ⟨g, o + 3, none⟩ = some (.int .u64 e.c.root)
  c4 : w.cell? ⟨g, o + 4, none⟩ = some (.string e.c.text)
theorem HRow.five {w : World} {g cap n : Nat} {f : Nat → Ent} (h : HRow w g cap n f) {j : Nat} (hj : j < n) : Five w g (j * 5) (f j) := by
  obtain ⟨cur, h1, h2, h3, h4, h5⟩ := h
  exact ⟨h1.cell (h5 j hj 0 _ rfl), h1.cell (h5 j hj 1 _ rfl), h1.cell (h5 j hj 2 _ rfl), h1.cell (h5 j hj 3 _ rfl), h1.cell (h5 j hj 4 _ rfl)⟩
theorem HRow.frozen {w : World} {g cap n : Nat} {f : Nat → Ent} (h : HRow w g cap n f) (j : Nat) : w.frozen? ⟨g, j, none⟩ = false := by
  obtain ⟨cur, h1, _⟩ := h
  exact h1.frozen j
theorem HRow.lt {w : World} {g cap n : Nat} {f : Nat → Ent} (h : HRow w g cap n f) : g < w.heap.size := by
  obtain ⟨cur, h1, _⟩ := h
  exact h1.lt
theorem HRow.below {w w' : World} {g cap n : Nat} {f : Nat → Ent} (h : HRow w g cap n f) (hb : Below w.heap.size w w') : HRow w' g cap n f := by
  obtain ⟨cur, h1, h2⟩ := h
  exact ⟨cur, h1.below hb, h2⟩
theorem HRow.dr {w : World} {g cap n : Nat} {f : Nat → Ent} (h : HRow w g cap n f) : HRow w.drew g cap n f := h
def ltQ (a b : CommitD) : Bool := if a.gen != b.gen then decide (a.gen < b.gen) else decide (a.id < b.id)
theorem lessQ_calls (w : World) (g cap n : Nat) (f : Nat → Ent) (h : HRow w g cap n f) (i j : Nat) (hi : i < n) (hj : j < n) (hn : n ≤ 100000) :
    Calls Try.prog 186 #[.slice (some ⟨g, 0, none⟩) n cap, .int .i64 i, .int .i64 j] w fun e w' => e = .returned (.bool (ltQ (f i).c (f j).c)) ∧ Below w.heap.size w w' := by
  obtain ⟨a0, a1, a2, a3, a4⟩ := h.five hi
  obtain ⟨b0, b1, b2, b3, b4⟩ := h.five hj
  have hlt := h.lt
  clear a1 a3 a4 b1 b3 b4 h
  generalize (f i).c = x at *
  generalize (f j).c = y at *
  unfold ltQ
  by_cases hg : x.gen = y.gen
  · have g1 : (x.gen != y.gen) = false := by simp [hg]
    rw [g1]
    go_enter Try.func186, Try.ntmps186
    go_wp2
    go_region
    all_goals go_wp2
    all_goals go_region
    all_goals go_wp2
    all_goals go_ret
    all_goals exact ⟨rfl, by (repeat (first | (with_reducible exact Below.refl _ _) | (with_reducible assumption) | (with_reducible refine bel_al0 ?_ _) | (with_reducible refine bel_set ?_ (by first | (simp; done) | (simp; omega)) _) | (with_reducible refine bel_dr ?_) | (with_reducible refine bel_drn ?_ _) | (with_reducible refine bel_tr ?_ (by assumption))))⟩
  · have g1 : (x.gen != y.gen) = true := by simp [hg]
    rw [g1]
    go_enter Try.func186, Try.ntmps186
    go_wp2
    go_region
    all_goals go_wp2
    all_goals go_region
    all_goals go_wp2
    all_goals go_ret
    all_goals exact ⟨rfl, by (repeat (first | (with_reducible exact Below.refl _ _) | (with_reducible assumption) | (with_reducible refine bel_al0 ?_ _) | (with_reducible refine bel_set ?_ (by first | (simp; done) | (simp; omega)) _) | (with_reducible refine bel_dr ?_) | (with_reducible refine bel_drn ?_ _) | (with_reducible refine bel_tr ?_ (by assumption))))⟩
def put5 (w : World) (g o : Nat) (e : Ent) : World := ((((w.setCell ⟨g, o, none⟩ (.int .u64 e.c.id)).setCell ⟨g, o + 1, none⟩ (.slice e.a e.c.par.length e.k)).setCell ⟨g, o + 2, none⟩ (.int .u64 e.c.gen)).setCell ⟨g, o + 3, none⟩ (.int .u64 e.c.root)).setCell ⟨g, o + 4, none⟩ (.string e.c.text)
def upd (f : Nat → Ent) (i : Nat) (e : Ent) : Nat → Ent := fun k => if k = i then e else f k
theorem put5_but (w : World) (g o : Nat) (e : Ent) : But g w (put5 w g o e) := ((((But.set _ _ _ _).trans (But.set _ _ _ _)).trans (But.set _ _ _ _)).trans (But.set _ _ _ _)).trans (But.set _ _ _ _)
theorem HRow.put {w : World} {g cap n : Nat} {f : Nat → Ent} (h : HRow w g cap n f) {i : Nat} (hi : i < n) (e : Ent) : HRow (put5 w g (i * 5) e) g cap n (upd f i e) := by
  obtain ⟨cur, h1, h2, h3, h4, h5⟩ := h
  refine ⟨_, ((((h1.set (i * 5) _).set (i * 5 + 1) _).set (i * 5 + 2) _).set (i * 5 + 3) _).set (i * 5 + 4) _, by simpa using h2, h3, h4, fun j hj t u ht => ?_⟩
  by_cases e1 : j = i
  · subst e1
    have hu : (upd f j e j) = e := by simp [upd]
    rw [hu] at ht
    match t, ht with
    | 0, ht => simp [Ent.vals] at ht; subst ht; simp [Array.getElem?_setIfInBounds]; omega
    | 1, ht => simp [Ent.vals] at ht; subst ht; simp [Array.getElem?_setIfInBounds]; omega
    | 2, ht => simp [Ent.vals] at ht; subst ht; simp [Array.getElem?_setIfInBounds]; omega
    | 3, ht => simp [Ent.vals] at ht; subst ht; simp [Array.getElem?_setIfInBounds]; omega
    | 4, ht => simp [Ent.vals] at ht; subst ht; simp [Array.getElem?_setIfInBounds]; omega
    | t + 5, ht => simp [Ent.vals] at ht
  · have hu : (upd f i e j) = f j := by simp [upd, e1]
    rw [hu] at ht
    have htl : t < 5 := by
      have := (List.getElem?_eq_some_iff.1 ht).1
      simpa [Ent.vals] using this
    have := h5 j hj t u ht
    rw [Array.getElem?_setIfInBounds_ne (by omega), Array.getElem?_setIfInBounds_ne (by omega), Array.getElem?_setIfInBounds_ne (by omega), Array.getElem?_setIfInBounds_ne (by omega), Array.getElem?_setIfInBounds_ne (by omega)]
    exact this
theorem HRow.congr {w : World} {g cap n : Nat} {f f' : Nat → Ent} (h : HRow w g cap n f) (e : ∀ k, k < n → f' k = f k) : HRow w g cap n f' := by
  obtain ⟨cur, h1, h2, h3, h4, h5⟩ := h
  exact ⟨cur, h1, h2, h3, h4, fun j hj t u ht => h5 j hj t u (by rw [← e j hj]; exact ht)⟩
set_option maxHeartbeats 4000000 in
theorem swapQ_calls (w : World) (g cap n : Nat) (f : Nat → Ent) (h : HRow w g cap n f) (i j : Nat) (hi : i < n) (hj : j < n) (hij : i ≠ j) (hn : n ≤ 100000) :
    Calls Try.prog 189 #[.slice (some ⟨g, 0, none⟩) n cap, .int .i64 i, .int .i64 j] w fun e w' => e = .returned (.tuple #[]) ∧ HRow w' g cap n (sw f i j) ∧ But g w w' := by
  obtain ⟨a0, a1, a2, a3, a4⟩ := h.five hi
  obtain ⟨b0, b1, b2, b3, b4⟩ := h.five hj
  have hlt := h.lt
  have HR := Lib.hid h
  have hfz := h.frozen
  clear h
  have d1 : ∀ t, t < 5 → ∀ s, s < 5 → i * 5 + t ≠ j * 5 + s := fun t ht s hs => by omega
  obtain ⟨x, hx⟩ : ∃ x, x = f i := ⟨_, rfl⟩
  obtain ⟨y, hy⟩ : ∃ y, y = f j := ⟨_, rfl⟩
  rw [← hx] at a0 a1 a2 a3 a4
  rw [← hy] at b0 b1 b2 b3 b4
  have HX := Lib.hid hx; clear hx
  have HY := Lib.hid hy; clear hy
  go_enter Try.func189, Try.ntmps189
  go_wp2
  go_region
  go_end0
  have h1 : HRow _ g cap n (sw f i j) := ((HR.out.put hi y).put hj x).congr (fun k _ => by
    rw [HX.out, HY.out]
    unfold sw upd
    by_cases e1 : k = i
    · subst e1
      by_cases e3 : k = j
      · subst e3; simp
      · simp [e3]
    · by_cases e2 : k = j
      · subst e2; simp [e1]
      · simp [e1, e2])
  have h2 := (put5_but w g (i * 5) y).trans (put5_but _ g (j * 5) x)
  unfold put5 at h1 h2
  exact ⟨rfl, h1.dr, h2.trans (But.of_below (bel_dr (Below.refl _ _)))⟩
set_option maxHeartbeats 4000000 in
theorem swapQ0_calls (w : World) (g cap n : Nat) (f : Nat → Ent) (h : HRow w g cap n f) (hi : 0 < n) (hn : n ≤ 100000) :
    Calls Try.prog 189 #[.slice (some ⟨g, 0, none⟩) n cap, .int .i64 0, .int .i64 0] w fun e w' => e = .returned (.tuple #[]) ∧ HRow w' g cap n f ∧ But g w w' := by
  obtain ⟨a0, a1, a2, a3, a4⟩ := h.five hi
  rw [Nat.zero_mul] at a0 a1 a2 a3 a4
  have hlt := h.lt
  have HR := Lib.hid h
  have hfz := h.frozen
  clear h
  obtain ⟨x, hx⟩ : ∃ x, x = f 0 := ⟨_, rfl⟩
  rw [← hx] at a0 a1 a2 a3 a4
  have HX := Lib.hid hx; clear hx
  go_enter Try.func189, Try.ntmps189
  go_wp2
  go_region
  go_end0
  have h1 : HRow _ g cap n f := ((HR.out.put hi x).put hi x).congr (fun k _ => by
    rw [HX.out]
    unfold upd
    by_cases e1 : k = 0
    · subst e1; simp
    · simp [e1])
  have h2 := (put5_but w g (0 * 5) x).trans (put5_but _ g (0 * 5) x)
  unfold put5 at h1 h2
  exact ⟨rfl, h1.dr, h2.trans (But.of_below (bel_dr (Below.refl _ _)))⟩
theorem Ent.vals_len (e : Ent) : e.vals.length = 5 := rfl
def flat (n : Nat) (f : Nat → Ent) : List Value := (List.range n).flatMap fun j => (f j).vals
theorem flat_succ (n : Nat) (f : Nat → Ent) : flat (n + 1) f = flat n f ++ (f n).vals := by unfold flat; rw [List.range_succ, List.flatMap_append]; simp
theorem flat_len (n : Nat) (f : Nat → Ent) : (flat n f).length = n * 5 := by
  induction n with
  | zero => rfl
  | succ n ih => rw [flat_succ, List.length_append, ih, Ent.vals_len]; omega
theorem flat_get (f : Nat → Ent) : ∀ (n j t : Nat), j < n → t < 5 → (flat n f)[j * 5 + t]? = (f j).vals[t]?
  | n + 1, j, t, hj, ht => by
    rw [flat_succ]
    rcases Nat.lt_or_ge j n with h | h
    · rw [List.getElem?_append_left (by rw [flat_len]; omega)]
      exact flat_get f n j t h ht
    · have : j = n := by omega
      subst this
      rw [List.getElem?_append_right (by rw [flat_len]; omega), flat_len, show j * 5 + t - j * 5 = t by omega]
theorem flat_congr {f f' : Nat → Ent} {n : Nat} (e : ∀ k, k < n → f' k = f k) : flat n f' = flat n f := by
  induction n with
  | zero => rfl
  | succ n ih => rw [flat_succ, flat_succ, ih (fun k hk => e k (by omega)), e n (by omega)]
theorem HRow.own {w : World} {g cap n : Nat} {f : Nat → Ent} (h : HRow w g cap n f) : w.ownsRow 0 69 5 (.slice (some ⟨g, 0, none⟩) n cap) n (flat n f) := by
  obtain ⟨cur, h1, h2, h3, h4, h5⟩ := h
  refine ⟨flat_len n f, Or.inr ⟨g, cap, cur, rfl, Nat.zero_le _, h1, h3, h4, h2, ?_⟩⟩
  apply List.ext_getElem?
  intro q
  by_cases hq : q < n * 5
  · rw [List.getElem?_take_of_lt hq, Array.getElem?_toList]
    have hq' : q / 5 * 5 + q % 5 = q := by omega
    have h6 := flat_get f n (q / 5) (q % 5) (by omega) (Nat.mod_lt _ (by omega))
    rw [hq'] at h6
    have hv : ∃ u, (f (q / 5)).vals[q % 5]? = some u := ⟨_, List.getElem?_eq_getElem (by rw [Ent.vals_len]; exact Nat.mod_lt _ (by omega))⟩
    obtain ⟨u, hu⟩ := hv
    have h7 := h5 (q / 5) (by omega) (q % 5) u hu
    rw [hq'] at h7
    rw [h6, hu, h7]
  · rw [List.getElem?_eq_none (by simp; omega), List.getElem?_eq_none (by rw [flat_len]; omega)]
theorem own_HRow {w : World} {v : Value} {n : Nat} {f : Nat → Ent} (h : w.ownsRow 0 69 5 v n (flat n f)) (hn : 0 < n) : ∃ g cap, v = .slice (some ⟨g, 0, none⟩) n cap ∧ HRow w g cap n f := by
  rcases h.2 with ⟨_, h0⟩ | ⟨g, cap, cur, hv, _, h1, h3, h4, h2, h5⟩
  · omega
  · refine ⟨g, cap, hv, cur, h1, h2, h3, h4, fun j hj t u hu => ?_⟩
    have ht : t < 5 := (List.getElem?_eq_some_iff.1 hu).1
    have h6 := flat_get f n j t hj ht
    rw [hu, ← h5, List.getElem?_take_of_lt (by omega), Array.getElem?_toList] at h6
    exact h6
/-- a queue: the block of its slice, and the row -/
def HQ (t : TypeId) (w : World) (h g cap n : Nat) (f : Nat → Ent) : Prop := Blk w h #[.slice (some ⟨g, 0, none⟩) n cap] t ∧ HRow w g cap n f ∧ h ≠ g
theorem HQ.below {t : TypeId} {w w' : World} {h g cap n : Nat} {f : Nat → Ent} (q : HQ t w h g cap n f) (hb : Below w.heap.size w w') : HQ t w' h g cap n f := ⟨q.1.below hb, q.2.1.below hb, q.2.2⟩
/-- two blocks alone may have turned -/
structure But2 (h g : Nat) (w w' : World) : Prop where
  os : w'.os = w.os
  tape : w'.tape = w.tape
  output : w'.output = w.output
  size : w.heap.size ≤ w'.heap.size
  block : ∀ k, k < w.heap.size → k ≠ h → k ≠ g → w'.heap[k]? = w.heap[k]?
theorem But2.refl (h g : Nat) (w : World) : But2 h g w w := ⟨rfl, rfl, rfl, Nat.le_refl _, fun _ _ _ _ => rfl⟩
theorem But2.trans {h g : Nat} {a b c : World} (x : But2 h g a b) (y : But2 h g b c) : But2 h g a c :=
  ⟨y.os.trans x.os, y.tape.trans x.tape, y.output.trans x.output, Nat.le_trans x.size y.size, fun k hk h1 h2 => (y.block k (Nat.lt_of_lt_of_le hk x.size) h1 h2).trans (x.block k hk h1 h2)⟩
theorem But2.of_below {h g : Nat} {a b : World} (x : Below a.heap.size a b) : But2 h g a b := ⟨x.os, x.tape, x.output, x.size, fun k hk _ _ => x.block k hk⟩
theorem But2.left {h g : Nat} {a b : World} (x : But h a b) : But2 h g a b := ⟨x.os, x.tape, x.output, x.size, fun k hk h1 _ => x.block k hk h1⟩
theorem But2.right {h g : Nat} {a b : World} (x : But g a b) : But2 h g a b := ⟨x.os, x.tape, x.output, x.size, fun k hk _ h1 => x.block k hk h1⟩
theorem But2.below {B h g : Nat} {w W W' : World} (x : Below B w W) (hB : B ≤ w.heap.size) (h1 : B ≤ h) (h2 : B ≤ g) (y : But2 h g W W') : Below B w W' :=
  ⟨y.os.trans x.os, y.tape.trans x.tape, y.output.trans x.output, Nat.le_trans x.size y.size, fun k hk => (y.block k (Nat.lt_of_lt_of_le (Nat.lt_of_lt_of_le hk hB) x.size) (by omega) (by omega)).trans (x.block k hk)⟩
theorem But2.later {h g g' : Nat} {a b c : World} (x : But2 h g a b) (hg : g' = g ∨ a.heap.size ≤ g') (y : But2 h g' b c) : But2 h g a c :=
  ⟨y.os.trans x.os, y.tape.trans x.tape, y.output.trans x.output, Nat.le_trans x.size y.size, fun k hk h1 h2 => (y.block k (Nat.lt_of_lt_of_le hk x.size) h1 (by rcases hg with e | e <;> omega)).trans (x.block k hk h1 h2)⟩
theorem assertC (v : Value) (w : World) : (Instr.typeAssert (.iface 69 v) 20 69 true).run Try.prog w = .ok (.tuple #[v, .bool true]) w := by kernel_rfl
set_option maxHeartbeats 4000000 in
theorem pushQ_calls (w : World) (h g cap n : Nat) (f : Nat → Ent) (hq : HQ 131 w h g cap n f) (hn : n ≤ 100000) (e : Ent) :
    Calls Try.prog 188 #[.pointer (some ⟨h, 0, none⟩), .iface 69 (.agg #[.int .u64 e.c.id, .slice e.a e.c.par.length e.k, .int .u64 e.c.gen, .int .u64 e.c.root, .string e.c.text])] w fun r w' => r = .returned (.tuple #[]) ∧ ∃ g' cap', HQ 131 w' h g' cap' (n + 1) (upd f n e) ∧ But2 h g w w' ∧ (g' = g ∨ w.heap.size ≤ g') := by
  have hta := assertC
  have hc := hq.1.one.1
  have hf := hq.1.one.2
  have hlt : h < w.heap.size := cell_lt hc
  have hgl := hq.2.1.lt
  obtain ⟨C, hC⟩ : ∃ C, C = Obj.cells #[.int .u64 e.c.id, .slice e.a e.c.par.length e.k, .int .u64 e.c.gen, .int .u64 e.c.root, .string e.c.text] 69 := ⟨_, rfl⟩
  have hb2 : Below w.heap.size w (((w.alloc C).drew).alloc C) := bel_al0 (bel_dr (bel_al0 (Below.refl _ _) _)) _
  have hz2 : (((w.alloc C).drew).alloc C).heap.size = w.heap.size + 2 := by simp
  have hfl : Flat (((w.alloc C).drew).alloc C) (some ⟨w.heap.size + 1, 0, none⟩) e.vals := fun _ => ⟨w.heap.size + 1, 0, rfl, fun q u hq => by
    have hb : Blk (((w.alloc C).drew).alloc C) (w.heap.size + 1) #[.int .u64 e.c.id, .slice e.a e.c.par.length e.k, .int .u64 e.c.gen, .int .u64 e.c.root, .string e.c.text] 69 := by
      have := blk_new ((w.alloc C).drew) #[.int .u64 e.c.id, .slice e.a e.c.par.length e.k, .int .u64 e.c.gen, .int .u64 e.c.root, .string e.c.text] 69
      rw [← hC] at this
      have hz : ((w.alloc C).drew).heap.size = w.heap.size + 1 := by simp
      rw [hz] at this
      exact this
    refine hb.cell ?_
    rw [Nat.zero_add]
    simpa [Ent.vals] using hq⟩
  obtain ⟨v', w3, r1, r2, r3, r4⟩ := run_append_flat (P := Try.prog) (w := ((w.alloc C).drew).alloc C) 0 131 131 69 _ 5 64 Try.underlying131 infoCommit rfl (by decide) _ n _ ((hq.2.1.below hb2).own) (some ⟨w.heap.size + 1, 0, none⟩) 1 1 e.vals rfl hfl (by intro u hu; simp [Ent.vals] at hu; rcases hu with rfl | rfl | rfl | rfl | rfl <;> rfl) (by unfold maxLen; omega) (by omega) (Nat.zero_le _)
  have hfx : flat n f ++ e.vals = flat (n + 1) (upd f n e) := by
    rw [flat_succ, flat_congr (f := f) (f' := upd f n e) (fun k hk => by unfold upd; rw [if_neg (by omega)])]
    simp [upd]
  rw [hfx] at r2
  obtain ⟨g', cap', rfl, hrow3⟩ := own_HRow r2 (by omega)
  have hg' : g' = g ∨ w.heap.size ≤ g' := by
    rcases r4 with e1 | e1
    · simp [Value.ownBlock] at e1; exact Or.inl e1
    · simp [Value.ownBlock] at e1; right; omega
  have hh3 : w3.heap[h]? = w.heap[h]? := by
    rw [r3.block h (by omega) (by simp [Value.ownBlock]; exact fun e => hq.2.2 e)]
    exact hb2.block h hlt
  have hbk3 : Blk w3 h #[.slice (some ⟨g, 0, none⟩) n cap] 131 := hh3.trans hq.1
  have hhg : h ≠ g' := by
    rcases hg' with rfl | hg'
    · exact hq.2.2
    · omega
  have hfin : HQ 131 (w3.setCell ⟨h, 0, none⟩ (.slice (some ⟨g', 0, none⟩) (n + 1) cap')) h g' cap' (n + 1) (upd f n e) ∧ But2 h g w (w3.setCell ⟨h, 0, none⟩ (.slice (some ⟨g', 0, none⟩) (n + 1) cap')) := by
    refine ⟨⟨hbk3.set 0 _, ?_, hhg⟩, ?_⟩
    · obtain ⟨cur, h1, h2⟩ := hrow3
      exact ⟨cur, h1.other hhg.symm _ _, h2⟩
    · exact (But2.of_below hb2).trans ((But2.right (But.of_grown r3)).trans (But2.left (But.set _ _ _ _)))
  have HFIN := Lib.hid hfin
  have HG' := Lib.hid hg'
  have HR1 := Lib.hid r1
  have hc3 : w3.cell? ⟨h, 0, none⟩ = some (.slice (some ⟨g, 0, none⟩) n cap) := hbk3.one.1
  have hf3 : w3.frozen? ⟨h, 0, none⟩ = false := hbk3.one.2 0
  have hlt3 := cell_lt hc3
  clear hfin hg' r1 r2 r3 r4 hrow3 hfx hfl hb2 hz2 hh3 hbk3 hhg
  subst hC
  go_enter Try.func188, Try.ntmps188
  go_wp2
  go_region_law (refine step_append_run rfl (.tmp 15) (.tmp 17) 131 rfl _ _ rfl rfl HR1.out ?_)
  all_goals go_wp2
  all_goals go_end0
  all_goals exact ⟨rfl, g', cap', HFIN.out.1, HFIN.out.2, HG'.out⟩
theorem HRow.less {w : World} {g cap n : Nat} {f : Nat → Ent} (h : HRow w g cap (n + 1) f) : HRow w g cap n f := by
  obtain ⟨cur, h1, h2, h3, h4, h5⟩ := h
  exact ⟨cur, h1, h2, by omega, h4, fun j hj t u ht => h5 j (by omega) t u ht⟩
set_option maxHeartbeats 4000000 in
theorem popQ_calls (w : World) (h g cap n : Nat) (f : Nat → Ent) (hq : HQ 131 w h g cap (n + 1) f) (hn : n ≤ 100000) :
    Calls Try.prog 187 #[.pointer (some ⟨h, 0, none⟩)] w fun r w' => r = .returned (.iface 69 (.agg #[.int .u64 (f n).c.id, .slice (f n).a (f n).c.par.length (f n).k, .int .u64 (f n).c.gen, .int .u64 (f n).c.root, .string (f n).c.text])) ∧ HQ 131 w' h g cap n f ∧ But h w w' := by
  have hc := hq.1.one.1
  have hf := hq.1.one.2
  have hlt : h < w.heap.size := cell_lt hc
  have hgl := hq.2.1.lt
  obtain ⟨a0, a1, a2, a3, a4⟩ := hq.2.1.five (j := n) (by omega)
  have hcap : n + 1 ≤ cap := by obtain ⟨cur, h1, h2, h3, _⟩ := hq.2.1; exact h3
  have hne : g ≠ h := fun e => hq.2.2 e.symm
  have H := Lib.hid hq; clear hq
  obtain ⟨x, hx⟩ : ∃ x, x = f n := ⟨_, rfl⟩
  rw [← hx] at a0 a1 a2 a3 a4 ⊢
  clear hx
  have e1 : ((n : Int) + 1 - 1) = n := by omega
  go_enter Try.func187, Try.ntmps187
  go_wp2
  go_ret
  refine ⟨rfl, ⟨H.out.1.set 0 _, ?_, H.out.2.2⟩, But.set _ _ _ _⟩
  obtain ⟨cur, h1, h2⟩ := H.out.2.1.less
  exact ⟨cur, h1.other hne _ _, h2⟩
end Go.Proofs.Ytehneliphhgegaa
end
