/- Slices as rows of cells: what is read, what is one's own, and the three ways of appending. -/
import Derived.Test.YtehneliphhgegaaGreatDoorBase
import Derived.Laws.OwnMore
import Derived.Laws.Append
import Derived.Maps.AppendAt
set_option linter.unusedVariables false
set_option linter.unusedSimpArgs false
namespace Go.Apo
open Go.RowKit

/-- from the address on these cells stand one behind the other -/
def Flat (w : World) (A : Option Addr) (cs : List Value) : Prop :=
  0 < cs.length → ∃ b off, A = some ⟨b, off, none⟩ ∧ ∀ j u, cs[j]? = some u → w.cell? ⟨b, off + j, none⟩ = some u

theorem Flat.nil (w : World) (A : Option Addr) : Flat w A [] := fun h => absurd h (by simp)
theorem Flat.below {w w' : World} {A : Option Addr} {cs : List Value} (h : Flat w A cs) (hb : Below w.heap.size w w') : Flat w' A cs := fun h0 => by
  obtain ⟨b, off, e, hc⟩ := h h0
  exact ⟨b, off, e, fun j u hj => cell_bel (hc j u hj) hb⟩
theorem Flat.cells {w w' : World} {A : Option Addr} {cs : List Value} (h : Flat w A cs) (hk : ∀ (b : Nat) (o : Obj), w.heap[b]? = some o → o.isCells = true → w'.heap[b]? = some o) : Flat w' A cs := fun h0 => by
  obtain ⟨b, off, e, hc⟩ := h h0
  refine ⟨b, off, e, fun j u hj => ?_⟩
  obtain ⟨o, ho, hoc⟩ := cells_of_cell (hc j u hj)
  exact (World.cell?_of_block (w := w) ((hk _ _ ho hoc).trans ho.symm)).trans (hc j u hj)
theorem Flat.at_ {w : World} {A : Option Addr} {cs : List Value} (h : Flat w A cs) {j : Nat} {u : Value} (hj : cs[j]? = some u) : ∃ b off, A = some ⟨b, off, none⟩ ∧ w.cell? ⟨b, off + j, none⟩ = some u := by
  have := (List.getElem?_eq_some_iff.1 hj).1
  obtain ⟨b, off, e, hc⟩ := h (by omega)
  exact ⟨b, off, e, hc j u hj⟩
theorem add_pl' (b o k : Nat) : (⟨b, o, none⟩ : Addr).add k = ⟨b, o + k, none⟩ := by unfold Addr.add; split <;> simp_all

/-- a row of the call's own is read -/
theorem own_flat {w : World} {base : Nat} {e size n : Nat} {A : Option Addr} {c : Nat} {xs : List Value} (h : w.ownsRow base e size (.slice A n c) n xs) : Flat w A xs := by
  intro h0
  rcases h.2 with ⟨h1, h2⟩ | ⟨g, cap, cur, h1, _⟩
  · have := h.1; subst h2; simp at this; simp [this] at h0
  · simp only [Value.slice.injEq] at h1
    obtain ⟨rfl, _, rfl⟩ := h1
    refine ⟨g, 0, rfl, fun j u hj => ?_⟩
    have := h.cells (g := g) rfl j u hj
    rwa [add_pl'] at this
theorem own_form {w : World} {base : Nat} {e size n : Nat} {v : Value} {xs : List Value} (h : w.ownsRow base e size v n xs) : ∃ A c, v = .slice A n c ∧ n ≤ c := by
  rcases h.2 with ⟨rfl, rfl⟩ | ⟨g, cap, cur, rfl, _, _, hc, _⟩
  · exact ⟨none, 0, rfl, Nat.le_refl _⟩
  · exact ⟨_, cap, rfl, hc⟩
theorem own_below {w w1 : World} {base : Nat} {e size n : Nat} {v : Value} {xs : List Value} (h : w.ownsRow base e size v n xs) (hb : Below w.heap.size w w1) : w1.ownsRow base e size v n xs :=
  h.kept (row := none) ⟨hb.os, hb.tape, hb.output, hb.size, fun i hi _ => hb.block i hi⟩ (by cases v.ownBlock <;> simp)
theorem own_mono {w : World} {base base' : Nat} {e size n : Nat} {v : Value} {xs : List Value} (h : w.ownsRow base e size v n xs) (hb : base' ≤ base) : w.ownsRow base' e size v n xs := by
  refine ⟨h.1, ?_⟩
  rcases h.2 with h2 | ⟨g, cap, cur, h1, h2, h3⟩
  · exact Or.inl h2
  · exact Or.inr ⟨g, cap, cur, h1, Nat.le_trans hb h2, h3⟩

section
variable {P : Program} {w : World}

/-- 'append(v, xs...)', v one's own: as a run -/
theorem run_append_flat (base : Nat) (t ty e : TypeId) (z : Value) (size bytes : Nat) (ht : P.underlying t = some (.slice e)) (hinfo : (P.info? e).map (fun i => (i.zero, i.size, i.bytes)) = some (some z, size, bytes))
    (hzs : z.cells.size = size) (hsz : 0 < size) (v : Value) (n : Nat) (xs : List Value) (hown : w.ownsRow base e size v n xs)
    (A : Option Addr) (m c : Nat) (news : List Value) (hl : news.length = m * size) (hf : Flat w A news) (h1 : ∀ u ∈ news, u.oneCell' = true)
    (h63 : n + m ≤ maxLen) (hbytes : (n + m) * bytes ≤ 140737488355328) (hbase : base ≤ w.heap.size) :
    ∃ v' w', (Builtin.append_ #[t, t] ty #[v, .slice A m c]).run P w = .ok v' w' ∧ w'.ownsRow base e size v' (n + m) (xs ++ news) ∧ w.grownBy w' v.ownBlock ∧ (v'.ownBlock = v.ownBlock ∨ v'.ownBlock = some w.heap.size) := by
  obtain ⟨i, hi, hii⟩ := Option.map_eq_some_iff.1 hinfo
  simp only [Prod.mk.injEq] at hii
  obtain ⟨i1, i2, i3⟩ := hii
  rcases Nat.eq_zero_or_pos m with rfl | hm
  · have hn0 : news = [] := List.eq_nil_of_length_eq_zero (by simpa using hl)
    subst hn0
    refine ⟨v, w, ?_, by simpa using hown, World.grownBy.refl w _, Or.inl rfl⟩
    rcases hown.2 with ⟨rfl, rfl⟩ | ⟨g, cap, cur, rfl, _, _, hnc, _⟩
    · cases A <;> simp [Builtin.append_, run_underlying ht, sizeOf, typeInfo, hi, Builtin.lenOf, Builtin.firstCells, loadCells, loadCellsFrom]
    · cases A <;> simp [Builtin.append_, run_underlying ht, sizeOf, typeInfo, hi, Builtin.lenOf, Builtin.firstCells, hnc, storeCells, loadCells, loadCellsFrom]
  · obtain ⟨b, off, rfl, hc⟩ := hf (by rw [hl]; exact Nat.mul_pos hm hsz)
    obtain ⟨v', w', r1, r2, r3, _, r5⟩ := run_append_own_at (P := P) w base t ty e i z size bytes ht hi i1 i2 i3 hzs hsz v n xs hown ⟨b, off, none⟩ m c news hl (fun j u hj => by rw [add_pl']; exact hc j u hj) h1 h63 hbytes hbase
    exact ⟨v', w', r1, r2, r3, r5⟩

/-- 'append(v, xs...)', v whatever with no room: a new row -/
theorem run_append_new (t ty e : TypeId) (z : Value) (size bytes : Nat) (ht : P.underlying t = some (.slice e)) (hinfo : (P.info? e).map (fun i => (i.zero, i.size, i.bytes)) = some (some z, size, bytes))
    (hzs : z.cells.size = size) (hsz : 0 < size) (A0 : Option Addr) (n c0 : Nat) (xs : List Value) (hlx : xs.length = n * size) (hfx : Flat w A0 xs) (hA0 : A0 = none → n = 0 ∧ c0 = 0)
    (A : Option Addr) (m c : Nat) (hnc : c0 < n + m) (news : List Value) (hl : news.length = m * size) (hf : Flat w A news)
    (h63 : n + m ≤ maxLen) (hbytes : (n + m) * bytes ≤ 140737488355328) (hm : 0 < m) :
    ∃ g c' w', (Builtin.append_ #[t, t] ty #[.slice A0 n c0, .slice A m c]).run P w = .ok (.slice (some ⟨g, 0, none⟩) (n + m) c') w' ∧ w.heap.size ≤ g ∧ g < w'.heap.size ∧ Flat w' (some ⟨g, 0, none⟩) (xs ++ news) ∧ Below w.heap.size w w' ∧ n + m ≤ c' := by
  obtain ⟨i, hi, hii⟩ := Option.map_eq_some_iff.1 hinfo
  simp only [Prod.mk.injEq] at hii
  obtain ⟨i1, i2, i3⟩ := hii
  obtain ⟨b, off, rfl, hc⟩ := hf (by rw [hl]; exact Nat.mul_pos hm hsz)
  have hfit : Builtin.nextslicecap (n + m) c0 * i.bytes ≤ 281474976710656 := by rw [i3]; exact growslice_fits hnc hbytes
  have h63' : ((n + m : Nat) : Int) ≤ 9223372036854775807 := by unfold maxLen at h63; omega
  have fin : ∀ (cs : Array Value), cs.toList.take ((n + m) * size) = xs ++ news → Flat (w.drew.alloc (.cells cs e)) (some ⟨w.heap.size, 0, none⟩) (xs ++ news) ∧ Below w.heap.size w (w.drew.alloc (.cells cs e)) := fun cs hcs => by
    refine ⟨fun _ => ⟨w.heap.size, 0, rfl, fun j u hj => ?_⟩, (bel_dr (Below.refl _ w)).alloc (Nat.le_refl _) _⟩
    have := cell_at_new w.drew cs e j (v := u) (by
      rw [← hcs] at hj
      rw [List.getElem?_take] at hj
      split at hj
      · rwa [Array.getElem?_toList] at hj
      · cases hj)
    rw [Nat.zero_add]
    exact this
  have hzl : ∀ k, (Builtin.zeroCells z.cells k).size = k * size := fun k => by simp [Builtin.zeroCells, hzs]
  cases A0 with
  | none =>
    obtain ⟨rfl, rfl⟩ := hA0 rfl
    have hx0 : xs = [] := List.eq_nil_of_length_eq_zero (by simpa using hlx)
    subst hx0
    have hr := run_append_nil (P := P) w t ty e i z ht hi i1 ⟨b, off, none⟩ m c news (by rw [hl, i2]) (fun j u hj => by rw [add_pl']; exact hc j u hj) hm (by unfold maxLen at h63; omega) (by rw [i3]; rw [Nat.zero_add] at hbytes; omega)
    have hfin := fin (news.toArray ++ Builtin.zeroCells z.cells (grownCap w m 0 e - m)) (by
      simp only [Array.toList_append, List.nil_append]
      rw [List.take_append_of_le_length (by simp [hl]), List.take_of_length_le (by simp [hl])])
    refine ⟨w.heap.size, _, _, by simpa using hr, Nat.le_refl _, ?_, hfin.1, hfin.2, by rw [Nat.zero_add]; exact grownCap_ge _ _ _ _⟩
    · simp [World.alloc]
  | some a0 =>
    have hfx' : ∀ j u, xs[j]? = some u → w.cell? (a0.add j) = some u := fun j u hj => by
      obtain ⟨b', o', e', hc'⟩ := hfx.at_ hj
      cases e'
      rw [add_pl']; exact hc'
    have hr := run_append_grow (P := P) w t ty e i z ht hi i1 a0 n c0 xs (by rw [hlx, i2]) hfx' ⟨b, off, none⟩ m c news (by rw [hl, i2]) (fun j u hj => by rw [add_pl']; exact hc j u hj) hnc h63' hfit
    have hfin := fin (xs.toArray ++ news.toArray ++ Builtin.zeroCells z.cells (grownCap w (n + m) c0 e - (n + m))) (by
      simp only [Array.toList_append]
      rw [List.take_append_of_le_length (by simp [hl, hlx, Nat.add_mul]), List.take_of_length_le (by simp [hl, hlx, Nat.add_mul])])
    refine ⟨w.heap.size, _, _, hr, Nat.le_refl _, ?_, hfin.1, hfin.2, grownCap_ge _ _ _ _⟩
    · simp [World.alloc]
end

section
variable {P : Program} {w : World} {ops : Array Oper} {rest : List Oper} {o : Oper} {a : Act} {Q : Exit → Act → World → Prop}
theorem wpl_append (hgd : o.guard = none) (s x : Operand) (t : TypeId) (ho : o.op = .call { callee := .builtin .append, args := #[s, x], argTypes := #[t, t] })
    (base : Nat) (e : TypeId) (z : Value) (size bytes : Nat) (ht : P.underlying t = some (.slice e)) (hinfo : (P.info? e).map (fun i => (i.zero, i.size, i.bytes)) = some (some z, size, bytes))
    (hzs : z.cells.size = size) (hsz : 0 < size) (v : Value) (n : Nat) (xs : List Value) (hs : a.eval s = v) (hown : w.ownsRow base e size v n xs)
    (A : Option Addr) (m c : Nat) (news : List Value) (hx : a.eval x = .slice A m c) (hl : news.length = m * size) (hf : Flat w A news) (h1 : ∀ u ∈ news, u.oneCell' = true)
    (h63 : n + m ≤ maxLen) (hbytes : (n + m) * bytes ≤ 140737488355328) (hbase : base ≤ w.heap.size)
    (h : ∀ v' w', w'.ownsRow base e size v' (n + m) (xs ++ news) → w.grownBy w' v.ownBlock → (v'.ownBlock = v.ownBlock ∨ v'.ownBlock = some w.heap.size) → wpList P ops Q rest (a.put o.dst v') w') : wpList P ops Q (o :: rest) a w := by
  refine wpList_plain hgd fun K hK => ?_
  obtain ⟨v', w', hr, r2, r3, r4⟩ := run_append_flat (P := P) base t o.type e z size bytes ht hinfo hzs hsz v n xs hown A m c news hl hf h1 h63 hbytes hbase
  unfold Oper.wp execOp
  simp only [ho, resolve, invoke, builtin, Sem.run_bind, Sem.run_pure, Result.andThen_ok, List.map_toArray, List.map_cons, List.map_nil, hs, hx, hr]
  exact hK _ _ (h v' w' r2 r3 r4)
theorem wpl_append_new (hgd : o.guard = none) (s x : Operand) (t : TypeId) (ho : o.op = .call { callee := .builtin .append, args := #[s, x], argTypes := #[t, t] })
    (e : TypeId) (z : Value) (size bytes : Nat) (ht : P.underlying t = some (.slice e)) (hinfo : (P.info? e).map (fun i => (i.zero, i.size, i.bytes)) = some (some z, size, bytes))
    (hzs : z.cells.size = size) (hsz : 0 < size) (A0 : Option Addr) (n c0 : Nat) (xs : List Value) (hs : a.eval s = .slice A0 n c0) (hlx : xs.length = n * size) (hfx : Flat w A0 xs) (hA0 : A0 = none → n = 0 ∧ c0 = 0)
    (A : Option Addr) (m c : Nat) (hnc : c0 < n + m) (news : List Value) (hx : a.eval x = .slice A m c) (hl : news.length = m * size) (hf : Flat w A news)
    (h63 : n + m ≤ maxLen) (hbytes : (n + m) * bytes ≤ 140737488355328) (hm : 0 < m)
    (h : ∀ g c' w', w.heap.size ≤ g → g < w'.heap.size → Flat w' (some ⟨g, 0, none⟩) (xs ++ news) → Below w.heap.size w w' → wpList P ops Q rest (a.put o.dst (.slice (some ⟨g, 0, none⟩) (n + m) c')) w') : wpList P ops Q (o :: rest) a w := by
  refine wpList_plain hgd fun K hK => ?_
  obtain ⟨g, c', w', hr, r1, r2, r3, r4, _⟩ := run_append_new (P := P) t o.type e z size bytes ht hinfo hzs hsz A0 n c0 xs hlx hfx hA0 A m c hnc news hl hf h63 hbytes hm
  unfold Oper.wp execOp
  simp only [ho, resolve, invoke, builtin, Sem.run_bind, Sem.run_pure, Result.andThen_ok, List.map_toArray, List.map_cons, List.map_nil, hs, hx, hr]
  exact hK _ _ (h g c' w' r1 r2 r3 r4)
/-- an append whose run is known, as one step of a region that draws -/
theorem step_append_run {K : Act → World → Prop} {E : Prop} (hg : o.guard = none) (s x : Operand) (t : TypeId) (hop : o.op = Op.call { callee := Callee.builtin Builtin.append, args := #[s, x], argTypes := #[t, t] })
    (v1 v2 : Value) (hs : a.eval s = v1) (hx : a.eval x = v2) {v : Value} {w' : World} (hrun : (Builtin.append_ #[t, t] o.type #[v1, v2]).run P w = .ok v w') (hK : K (a.put o.dst v) w') :
    if Region.wanted o (yielded ops a.tmps) = true then Oper.wp P o a w K Q else E := by
  have hw : Region.wanted o (yielded ops a.tmps) = true := by simp [Region.wanted, hg]
  rw [if_pos hw]
  unfold Oper.wp
  simp [execOp, hop, resolve, invoke, builtin, hs, hx, hrun, Result.andThen]
  exact hK
end
end Go.Apo
