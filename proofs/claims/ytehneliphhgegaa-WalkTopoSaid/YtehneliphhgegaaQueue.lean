/- A slice of one's own that is cut at its head and appended to: 'queue = queue[1:]', 'queue = append(queue, x)'. Elements of one cell. -/
import Derived.Test.YtehneliphhgegaaRows2
import Derived.ArgAppend
set_option linter.unusedVariables false
set_option linter.unusedSimpArgs false
namespace Go.Apo
open Go.RowKit

/-- a slice in block g, from its cell off on -/
structure Que (w : World) (base : Nat) (e : TypeId) (g off n cap : Nat) (xs : List Value) : Prop where
  base : base ≤ g
  len : xs.length = n
  le : n ≤ cap
  max : cap ≤ maxLen
  blk : ∃ cur, w.heap[g]? = some (.cells cur e) ∧ off + cap ≤ cur.size ∧ ∀ j u, xs[j]? = some u → cur[off + j]? = some u

section
variable {w w' : World} {base : Nat} {e : TypeId} {g off n cap : Nat} {xs : List Value}
theorem Que.new (w : World) (cs : Array Value) (e : TypeId) (hb : base ≤ w.heap.size) (hm : cs.size ≤ maxLen) : Que (w.alloc (.cells cs e)) base e w.heap.size 0 cs.size cs.size cs.toList :=
  ⟨hb, by simp, Nat.le_refl _, hm, cs, (MapKept.heap_alloc w _).1, by omega, fun j u h => by rw [Nat.zero_add]; rwa [Array.getElem?_toList] at h⟩
theorem Que.lt (h : Que w base e g off n cap xs) : g < w.heap.size := by
  obtain ⟨cur, h1, _⟩ := h.blk
  exact (Array.getElem?_eq_some_iff.1 h1).1
theorem Que.keep (h : Que w base e g off n cap xs) (hb : w'.heap[g]? = w.heap[g]?) : Que w' base e g off n cap xs := by
  obtain ⟨cur, h1, h2⟩ := h.blk
  exact ⟨h.base, h.len, h.le, h.max, cur, hb.trans h1, h2⟩
theorem Que.below (h : Que w base e g off n cap xs) (hb : Below w.heap.size w w') : Que w' base e g off n cap xs := h.keep (hb.block _ h.lt)
theorem Que.but {m : Nat} (h : Que w base e g off n cap xs) (hb : But m w w') (hm : g ≠ m) : Que w' base e g off n cap xs := h.keep (hb.block _ h.lt hm)
theorem Que.cell (h : Que w base e g off n cap xs) {j : Nat} {u : Value} (hj : xs[j]? = some u) : w.cell? ⟨g, off + j, none⟩ = some u := by
  obtain ⟨cur, h1, _, h3⟩ := h.blk
  unfold World.cell?; rw [h1]; exact h3 j u hj
theorem Que.flat (h : Que w base e g off n cap xs) : Flat w (some ⟨g, off, none⟩) xs := fun _ => ⟨g, off, rfl, fun j u hj => h.cell hj⟩
theorem Que.tail {x : Value} (h : Que w base e g off (n + 1) cap (x :: xs)) : Que w base e g (if cap = 1 then off else off + 1) n (cap - 1) xs := by
  have hl : xs.length = n := by have := h.len; simp at this; exact this
  have hle := h.le
  obtain ⟨cur, h1, h2, h3⟩ := h.blk
  by_cases hc : cap = 1
  · rw [if_pos hc]
    have hn : n = 0 := by omega
    subst hn
    have hx : xs = [] := List.eq_nil_of_length_eq_zero hl
    subst hx
    exact ⟨h.base, rfl, Nat.zero_le _, by have := h.max; omega, cur, h1, by omega, fun j u hj => by simp at hj⟩
  · rw [if_neg hc]
    exact ⟨h.base, hl, by omega, by have := h.max; omega, cur, h1, by omega, fun j u hj => by have := h3 (j + 1) u (by simpa using hj); rwa [← Nat.add_assoc, Nat.add_right_comm] at this⟩
theorem Que.mono {base' : Nat} (h : Que w base e g off n cap xs) (hb : base' ≤ base) : Que w base' e g off n cap xs := ⟨Nat.le_trans hb h.base, h.len, h.le, h.max, h.blk⟩

/-- one more at the end -/
theorem Que.append (P : Program) (t ty : TypeId) (z : Value) (bytes : Nat) (ht : P.underlying t = some (.slice e)) (hinfo : (P.info? e).map (fun i => (i.zero, i.size, i.bytes)) = some (some z, 1, bytes)) (hzs : z.cells.size = 1)
    (h : Que w base e g off n cap xs) (a : Addr) (c : Nat) (x : Value) (hx : w.cell? (a.add 0) = some x) (h1 : x.oneCell' = true) (h63 : n + 1 ≤ maxLen) (hbytes : (n + 1) * bytes ≤ 140737488355328) (hbase : base ≤ w.heap.size) :
    ∃ g' off' cap' w', (Builtin.append_ #[t, t] ty #[.slice (some ⟨g, off, none⟩) n cap, .slice (some a) 1 c]).run P w = .ok (.slice (some ⟨g', off', none⟩) (n + 1) cap') w' ∧ Que w' base e g' off' (n + 1) cap' (xs ++ [x]) ∧ But g w w' ∧ (g' = g ∨ w.heap.size ≤ g') := by
  obtain ⟨i, hi, hii⟩ := Option.map_eq_some_iff.1 hinfo
  simp only [Prod.mk.injEq] at hii
  obtain ⟨i1, i2, i3⟩ := hii
  have hnews : ∀ j u, [x][j]? = some u → w.cell? (a.add j) = some u := fun j u hj => by
    cases j with
    | zero => simp at hj; subst hj; exact hx
    | succ j => simp at hj
  obtain ⟨cur, q1, q2, q3⟩ := h.blk
  by_cases hroom : n + 1 ≤ cap
  · have hin : off + n < cur.size := by omega
    have hr := run_append_room_cells (P := P) w t ty e i ht hi g off n cap a 1 c [x] (by rw [i2]; rfl) hnews (by intro u hu; rw [List.mem_singleton] at hu; subst hu; exact h1) hroom
      (fun j hj => by
        simp at hj; subst hj
        have : w.cell? ⟨g, off + n * i.size + 0, none⟩ = some cur[off + n] := by
          rw [i2, Nat.mul_one, Nat.add_zero]
          unfold World.cell?; rw [q1]; simp [hin]
        rw [this]; rfl)
      (fun j hj => by unfold World.frozen?; rw [q1]; simp)
    rw [i2, Nat.mul_one] at hr
    refine ⟨g, off, cap, _, hr, ⟨h.base, by simp [h.len], hroom, h.max, cur.setIfInBounds (off + n) x, ?_, by simpa using q2, fun j u hj => ?_⟩, But.set _ _ _ _, Or.inl rfl⟩
    · exact (show Blk w g cur e from q1).set (off + n) x
    · rw [List.getElem?_append] at hj
      split at hj
      · rename_i hlt
        rw [h.len] at hlt
        rw [Array.getElem?_setIfInBounds_ne (by omega)]
        exact q3 j u hj
      · rename_i hge
        have hj0 : j = n := by
          rcases Nat.lt_or_ge (j - xs.length) 1 with h' | h'
          · have := h.len; omega
          · rw [List.getElem?_eq_none (by simpa using h')] at hj; cases hj
        subst hj0
        rw [h.len] at hj
        simp at hj
        subst hj
        rw [Array.getElem?_setIfInBounds_self_of_lt hin]
  · have hfit : Builtin.nextslicecap (n + 1) cap * i.bytes ≤ 281474976710656 := by rw [i3]; exact growslice_fits (by omega) hbytes
    have hr := run_append_grow (P := P) w t ty e i z ht hi i1 ⟨g, off, none⟩ n cap xs (by rw [h.len, i2, Nat.mul_one]) (fun j u hj => by rw [add_pl']; exact h.cell hj) a 1 c [x] (by rw [i2]; rfl) hnews (by omega) (by unfold maxLen at h63; omega) hfit
    have hcs : ([z].length) = 1 := rfl
    refine ⟨w.heap.size, 0, _, _, hr, ⟨hbase, by simp [h.len], grownCap_ge _ _ _ _, grownCap_le_maxLen _ _ _ _ h63, _, (MapKept.heap_alloc w.drew _).1, ?_, fun j u hj => ?_⟩, But.of_below ((bel_dr (Below.refl _ w)).alloc (Nat.le_refl _) _), Or.inr (Nat.le_refl _)⟩
    · have := grownCap_ge w (n + 1) cap e
      simp [Builtin.zeroCells, hzs, h.len]
      omega
    · rw [Nat.zero_add]
      rw [Array.getElem?_append_left (by have := (List.getElem?_eq_some_iff.1 hj).1; simpa using this)]
      have : xs.toArray ++ [x].toArray = (xs ++ [x]).toArray := by simp
      rw [this]
      simpa using hj
end

section
variable {P : Program} {w : World} {ops : Array Oper} {rest : List Oper} {o : Oper} {a : Act} {Q : Exit → Act → World → Prop}
theorem wpl_que_append (hgd : o.guard = none) (s x : Operand) (t : TypeId) (ho : o.op = .call { callee := .builtin .append, args := #[s, x], argTypes := #[t, t] })
    {base : Nat} {e : TypeId} (z : Value) (bytes : Nat) (ht : P.underlying t = some (.slice e)) (hinfo : (P.info? e).map (fun i => (i.zero, i.size, i.bytes)) = some (some z, 1, bytes)) (hzs : z.cells.size = 1)
    {g off n cap : Nat} {xs : List Value} (hs : a.eval s = .slice (some ⟨g, off, none⟩) n cap) (h : Que w base e g off n cap xs) (A : Addr) (c : Nat) (v : Value) (hx : a.eval x = .slice (some A) 1 c) (hv : w.cell? (A.add 0) = some v) (h1 : v.oneCell' = true) (h63 : n + 1 ≤ maxLen) (hbytes : (n + 1) * bytes ≤ 140737488355328) (hbase : base ≤ w.heap.size)
    (hk : ∀ g' off' cap' w', Que w' base e g' off' (n + 1) cap' (xs ++ [v]) → But g w w' → (g' = g ∨ w.heap.size ≤ g') → wpList P ops Q rest (a.put o.dst (.slice (some ⟨g', off', none⟩) (n + 1) cap')) w') : wpList P ops Q (o :: rest) a w := by
  refine wpList_plain hgd fun K hK => ?_
  obtain ⟨g', off', cap', w', hr, r2, r3, r4⟩ := h.append P t o.type z bytes ht hinfo hzs A c v hv h1 h63 hbytes hbase
  unfold Oper.wp execOp
  simp only [ho, resolve, invoke, builtin, Sem.run_bind, Sem.run_pure, Result.andThen_ok, List.map_toArray, List.map_cons, List.map_nil, hs, hx, hr]
  exact hK _ _ (hk _ _ _ w' r2 r3 r4)
end
end Go.Apo
