/- A slice of one's own that is cut at its head and appended to: 'queue = queue[1:]', 'queue = append(queue, x)'. Elements of one cell. · A slice of one's own that is cut at its head, and to which another slice is appended; a look-up under a guard. -/
import Derived.Test.YtehneliphhgegaaRows2
import Derived.ArgAppend
import Derived.Laws.IdiomCopy
section
set_option linter.unusedVariables false
set_option linter.unusedSimpArgs false
namespace Go.Apo
open Go.RowKit

/-- a slice in block g, from its cell off on -/
structure Que (w : World) (base : Nat) (e : TypeId) (g off n cap : Nat) (xs : List Value) : Prop where
  base : base ≤ g
  len : xs.length = n
  le : n ≤ cap
  max : cap ≤ maxLen
  blk : ∃ cur, w.heap[g]? = some (.cells cur e) ∧ off + cap ≤ cur.size ∧ ∀ j u, xs[j]? = some u → cur[off + j]? = some u

section
variable {w w' : World} {base : Nat} {e : TypeId} {g off n cap : Nat} {xs : List Value}
theorem Que.new (w : World) (cs : Array Value) (e : TypeId) (hb : base ≤ w.heap.size) (hm : cs.size ≤ maxLen) : Que (w.alloc (.cells cs e)) base e w.heap.size 0 cs.size cs.size cs.toList :=
  ⟨hb, by simp, Nat.le_refl _, hm, cs, (MapKept.heap_alloc w _).1, by omega, fun j u h => by rw [Nat.zero_add]; rwa [Array.getElem?_toList] at h⟩
theorem Que.lt (h : Que w base e g off n cap xs) : g < w.heap.size := by
  obtain ⟨cur, h1, _⟩ := h.blk
  exact (Array.getElem?_eq_some_iff.1 h1).1
theorem Que.keep (h : Que w base e g off n cap xs) (hb : w'.heap[g]? = w.heap[g]?) : Que w' base e g off n cap xs := by
  obtain ⟨cur, h1, h2⟩ := h.blk
  exact ⟨h.base, h.len, h.le, h.max, cur, hb.trans h1, h2⟩
theorem Que.below (h : Que w base e g off n cap xs) (hb : Below w.heap.size w w') : Que w' base e g off n cap xs := h.keep (hb.block _ h.lt)
theorem Que.but {m : Nat} (h : Que w base e g off n cap xs) (hb : But m w w') (hm : g ≠ m) : Que w' base e g off n cap xs := h.keep (hb.block _ h.lt hm)
theorem Que.cell (h : Que w base e g off n cap xs) {j : Nat} {u : Value} (hj : xs[j]? = some u) : w.cell? ⟨g, off + j, none⟩ = some u := by
  obtain ⟨cur, h1, _, h3⟩ := h.blk
  unfold World.cell?; rw [h1]; exact h3 j u hj
theorem Que.flat (h : Que w base e g off n cap xs) : Flat w (some ⟨g, off, none⟩) xs := fun _ => ⟨g, off, rfl, fun j u hj => h.cell hj⟩
theorem Que.tail {x : Value} (h : Que w base e g off (n + 1) cap (x :: xs)) : Que w base e g (if cap = 1 then off else off + 1) n (cap - 1) xs := by
  have hl : xs.length = n := by have := h.len; simp at this; exact this
  have hle := h.le
  obtain ⟨cur, h1, h2, h3⟩ := h.blk
  by_cases hc : cap = 1
  · rw [if_pos hc]
    have hn : n = 0 := by omega
    subst hn
    have hx : xs = [] := List.eq_nil_of_length_eq_zero hl
    subst hx
    exact ⟨h.base, rfl, Nat.zero_le _, by have := h.max; omega, cur, h1, by omega, fun j u hj => by simp at hj⟩
  · rw [if_neg hc]
    exact ⟨h.base, hl, by omega, by have := h.max; omega, cur, h1, by omega, fun j u hj => by have := h3 (j + 1) u (by simpa using hj); rwa [← Nat.add_assoc, Nat.add_right_comm] at this⟩
theorem Que.mono {base' : Nat} (h : Que w base e g off n cap xs) (hb : base' ≤ base) : Que w base' e g off n cap xs := ⟨Nat.le_trans hb h.base, h.len, h.le, h.max, h.blk⟩

/-- one more at the end -/
theorem Que.append (P : Program) (t ty : TypeId) (z : Value) (bytes : Nat) (ht : P.underlying t = some (.slice e)) (hinfo : (P.info? e).map (fun i => (i.zero, i.size, i.bytes)) = some (some z, 1, bytes)) (hzs : z.cells.size = 1)
    (h : Que w base e g off n cap xs) (a : Addr) (c : Nat) (x : Value) (hx : w.cell? (a.add 0) = some x) (h1 : x.oneCell' = true) (h63 : n + 1 ≤ maxLen) (hbytes : (n + 1) * bytes ≤ 140737488355328) (hbase : base ≤ w.heap.size) :
    ∃ g' off' cap' w', (Builtin.append_ #[t, t] ty #[.slice (some ⟨g, off, none⟩) n cap, .slice (some a) 1 c]).run P w = .ok (.slice (some ⟨g', off', none⟩) (n + 1) cap') w' ∧ Que w' base e g' off' (n + 1) cap' (xs ++ [x]) ∧ But g w w' ∧ (g' = g ∨ w.heap.size ≤ g') := by
  obtain ⟨i, hi, hii⟩ := Option.map_eq_some_iff.1 hinfo
  simp only [Prod.mk.injEq] at hii
  obtain ⟨i1, i2, i3⟩ := hii
  have hnews : ∀ j u, [x][j]? = some u → w.cell? (a.add j) = some u := fun j u hj => by
    cases j with
    | zero => simp at hj; subst hj; exact hx
    | succ j => simp at hj
  obtain ⟨cur, q1, q2, q3⟩ := h.blk
  by_cases hroom : n + 1 ≤ cap
  · have hin : off + n < cur.size := by omega
    have hr := run_append_room_cells (P := P) w t ty e i ht hi g off n cap a 1 c [x] (by rw [i2]; rfl) hnews (by intro u hu; rw [List.mem_singleton] at hu; subst hu; exact h1) hroom
      (fun j hj => by
        simp at hj; subst hj
        have : w.cell? ⟨g, off + n * i.size + 0, none⟩ = some cur[off + n] := by
          rw [i2, Nat.mul_one, Nat.add_zero]
          unfold World.cell?; rw [q1]; simp [hin]
        rw [this]; rfl)
      (fun j hj => by unfold World.frozen?; rw [q1]; simp)
    rw [i2, Nat.mul_one] at hr
    refine ⟨g, off, cap, _, hr, ⟨h.base, by simp [h.len], hroom, h.max, cur.setIfInBounds (off + n) x, ?_, by simpa using q2, fun j u hj => ?_⟩, But.set _ _ _ _, Or.inl rfl⟩
    · exact (show Blk w g cur e from q1).set (off + n) x
    · rw [List.getElem?_append] at hj
      split at hj
      · rename_i hlt
        rw [h.len] at hlt
        rw [Array.getElem?_setIfInBounds_ne (by omega)]
        exact q3 j u hj
      · rename_i hge
        have hj0 : j = n := by
          rcases Nat.lt_or_ge (j - xs.length) 1 with h' | h'
          · have := h.len; omega
          · rw [List.getElem?_eq_none (by simpa using h')] at hj; cases hj
        subst hj0
        rw [h.len] at hj
        simp at hj
        subst hj
        rw [Array.getElem?_setIfInBounds_self_of_lt hin]
  · have hfit : Builtin.nextslicecap (n + 1) cap * i.bytes ≤ 281474976710656 := by rw [i3]; exact growslice_fits (by omega) hbytes
    have hr := run_append_grow (P := P) w t ty e i z ht hi i1 ⟨g, off, none⟩ n cap xs (by rw [h.len, i2, Nat.mul_one]) (fun j u hj => by rw [add_pl']; exact h.cell hj) a 1 c [x] (by rw [i2]; rfl) hnews (by omega) (by unfold maxLen at h63; omega) hfit
    have hcs : ([z].length) = 1 := rfl
    refine ⟨w.heap.size, 0, _, _, hr, ⟨hbase, by simp [h.len], grownCap_ge _ _ _ _, grownCap_le_maxLen _ _ _ _ h63, _, (MapKept.heap_alloc w.drew _).1, ?_, fun j u hj => ?_⟩, But.of_below ((bel_dr (Below.refl _ w)).alloc (Nat.le_refl _) _), Or.inr (Nat.le_refl _)⟩
    · have := grownCap_ge w (n + 1) cap e
      simp [Builtin.zeroCells, hzs, h.len]
      omega
    · rw [Nat.zero_add]
      rw [Array.getElem?_append_left (by have := (List.getElem?_eq_some_iff.1 hj).1; simpa using this)]
      have : xs.toArray ++ [x].toArray = (xs ++ [x]).toArray := by simp
      rw [this]
      simpa using hj
end

section
variable {P : Program} {w : World} {ops : Array Oper} {rest : List Oper} {o : Oper} {a : Act} {Q : Exit → Act → World → Prop}
theorem wpl_que_append (hgd : o.guard = none) (s x : Operand) (t : TypeId) (ho : o.op = .call { callee := .builtin .append, args := #[s, x], argTypes := #[t, t] })
    {base : Nat} {e : TypeId} (z : Value) (bytes : Nat) (ht : P.underlying t = some (.slice e)) (hinfo : (P.info? e).map (fun i => (i.zero, i.size, i.bytes)) = some (some z, 1, bytes)) (hzs : z.cells.size = 1)
    {g off n cap : Nat} {xs : List Value} (hs : a.eval s = .slice (some ⟨g, off, none⟩) n cap) (h : Que w base e g off n cap xs) (A : Addr) (c : Nat) (v : Value) (hx : a.eval x = .slice (some A) 1 c) (hv : w.cell? (A.add 0) = some v) (h1 : v.oneCell' = true) (h63 : n + 1 ≤ maxLen) (hbytes : (n + 1) * bytes ≤ 140737488355328) (hbase : base ≤ w.heap.size)
    (hk : ∀ g' off' cap' w', Que w' base e g' off' (n + 1) cap' (xs ++ [v]) → But g w w' → (g' = g ∨ w.heap.size ≤ g') → wpList P ops Q rest (a.put o.dst (.slice (some ⟨g', off', none⟩) (n + 1) cap')) w') : wpList P ops Q (o :: rest) a w := by
  refine wpList_plain hgd fun K hK => ?_
  obtain ⟨g', off', cap', w', hr, r2, r3, r4⟩ := h.append P t o.type z bytes ht hinfo hzs A c v hv h1 h63 hbytes hbase
  unfold Oper.wp execOp
  simp only [ho, resolve, invoke, builtin, Sem.run_bind, Sem.run_pure, Result.andThen_ok, List.map_toArray, List.map_cons, List.map_nil, hs, hx, hr]
  exact hK _ _ (hk _ _ _ w' r2 r3 r4)
end
end Go.Apo
end
section
set_option linter.unusedVariables false
set_option linter.unusedSimpArgs false
namespace Go.Apo
open Go.RowKit

theorem blk_setCells {b : Nat} {t : TypeId} : ∀ (vs : List Value) (o : Nat) (w : World) (cs : Array Value), Blk w b cs t →
    ∃ cs', Blk (w.setCells b o vs) b cs' t ∧ cs'.size = cs.size ∧ (∀ j, j < o ∨ o + vs.length ≤ j → cs'[j]? = cs[j]?) ∧ (∀ j u, vs[j]? = some u → o + j < cs.size → cs'[o + j]? = some u) ∧ But b w (w.setCells b o vs)
  | [], o, w, cs, h => ⟨cs, h, rfl, fun _ _ => rfl, fun j u hj => by simp at hj, But.refl _ _⟩
  | v :: r, o, w, cs, h => by
    obtain ⟨cs', h1, h2, h3, h4, h5⟩ := blk_setCells r (o + 1) _ _ (h.set o v)
    refine ⟨cs', h1, by simpa using h2, fun j hj => ?_, fun j u hj hlt => ?_, (But.set w b o v).trans h5⟩
    · rw [h3 j (by simp at hj; omega), Array.getElem?_setIfInBounds_ne (by simp at hj; omega)]
    · cases j with
      | zero =>
        simp at hj; subst hj
        rw [Nat.add_zero, h3 o (Or.inl (by omega)), Array.getElem?_setIfInBounds_self_of_lt (by omega)]
      | succ j =>
        have := h4 j u (by simpa using hj) (by simp; omega)
        rwa [show o + 1 + j = o + (j + 1) by omega] at this

section
variable {w w' : World} {base : Nat} {e : TypeId} {g off n cap : Nat} {xs : List Value}
/-- some more at the end -/
theorem Que.appends (P : Program) (t ty : TypeId) (z : Value) (bytes : Nat) (ht : P.underlying t = some (.slice e)) (hinfo : (P.info? e).map (fun i => (i.zero, i.size, i.bytes)) = some (some z, 1, bytes)) (hzs : z.cells.size = 1)
    (h : Que w base e g off n cap xs) (A : Option Addr) (m c : Nat) (news : List Value) (hl : news.length = m) (hf : Flat w A news) (h1 : ∀ u ∈ news, u.oneCell' = true) (h63 : n + m ≤ maxLen) (hbytes : (n + m) * bytes ≤ 140737488355328) (hbase : base ≤ w.heap.size) :
    ∃ g' off' cap' w', (Builtin.append_ #[t, t] ty #[.slice (some ⟨g, off, none⟩) n cap, .slice A m c]).run P w = .ok (.slice (some ⟨g', off', none⟩) (n + m) cap') w' ∧ Que w' base e g' off' (n + m) cap' (xs ++ news) ∧ But g w w' ∧ (g' = g ∨ w.heap.size ≤ g') := by
  obtain ⟨i, hi, hii⟩ := Option.map_eq_some_iff.1 hinfo
  simp only [Prod.mk.injEq] at hii
  obtain ⟨i1, i2, i3⟩ := hii
  rcases Nat.eq_zero_or_pos m with rfl | hm
  · have hn0 : news = [] := List.eq_nil_of_length_eq_zero hl
    subst hn0
    refine ⟨g, off, cap, w, ?_, by simpa using h, But.refl _ _, Or.inl rfl⟩
    have hle := h.le
    cases A <;> simp [Builtin.append_, run_underlying ht, sizeOf, typeInfo, hi, Builtin.lenOf, Builtin.firstCells, hle, storeCells, loadCells, loadCellsFrom]
  · obtain ⟨ab, ao, rfl, hc⟩ := hf (by omega)
    have hnews : ∀ j u, news[j]? = some u → w.cell? ((⟨ab, ao, none⟩ : Addr).add j) = some u := fun j u hj => by rw [add_pl']; exact hc j u hj
    obtain ⟨cur, q1, q2, q3⟩ := h.blk
    by_cases hroom : n + m ≤ cap
    · have hr := run_append_room_cells (P := P) w t ty e i ht hi g off n cap ⟨ab, ao, none⟩ m c news (by rw [i2, Nat.mul_one]; exact hl) hnews h1 hroom
        (fun j hj => by
          have : w.cell? ⟨g, off + n * i.size + j, none⟩ = some (cur[off + n + j]'(by omega)) := by
            rw [i2, Nat.mul_one]
            unfold World.cell?; rw [q1]
            simp [show off + n + j < cur.size by omega]
          rw [this]; rfl)
        (fun j hj => by unfold World.frozen?; rw [q1]; simp)
      rw [i2, Nat.mul_one] at hr
      obtain ⟨cs', r1, r2, r3, r4, r5⟩ := blk_setCells news (off + n) w cur q1
      refine ⟨g, off, cap, _, hr, ⟨h.base, by simp [h.len, hl], hroom, h.max, cs', r1, by omega, fun j u hj => ?_⟩, r5, Or.inl rfl⟩
      rw [List.getElem?_append] at hj
      split at hj
      · rename_i hlt
        rw [h.len] at hlt
        rw [r3 _ (Or.inl (by omega))]
        exact q3 j u hj
      · rename_i hge
        rw [h.len] at hj hge
        have hjl := (List.getElem?_eq_some_iff.1 hj).1
        have := r4 (j - n) u hj (by omega)
        rwa [show off + n + (j - n) = off + j by omega] at this
    · have hfit : Builtin.nextslicecap (n + m) cap * i.bytes ≤ 281474976710656 := by rw [i3]; exact growslice_fits (by omega) hbytes
      have hr := run_append_grow (P := P) w t ty e i z ht hi i1 ⟨g, off, none⟩ n cap xs (by rw [h.len, i2, Nat.mul_one]) (fun j u hj => by rw [add_pl']; exact h.cell hj) ⟨ab, ao, none⟩ m c news (by rw [i2, Nat.mul_one]; exact hl) hnews (by omega) (by unfold maxLen at h63; omega) hfit
      refine ⟨w.heap.size, 0, _, _, hr, ⟨hbase, by simp [h.len, hl], grownCap_ge _ _ _ _, grownCap_le_maxLen _ _ _ _ h63, _, (MapKept.heap_alloc w.drew _).1, ?_, fun j u hj => ?_⟩, But.of_below ((bel_dr (Below.refl _ w)).alloc (Nat.le_refl _) _), Or.inr (Nat.le_refl _)⟩
      · have := grownCap_ge w (n + m) cap e
        simp [Builtin.zeroCells, hzs, h.len, hl]
        omega
      · rw [Nat.zero_add]
        rw [Array.getElem?_append_left (by have := (List.getElem?_eq_some_iff.1 hj).1; simpa using this)]
        have : xs.toArray ++ news.toArray = (xs ++ news).toArray := by simp
        rw [this]
        simpa using hj
/-- a row of one's own is such a slice -/
theorem Que.of_own {k : Nat} {v : Value} (h : w.ownsRow base e 1 v n xs) (hn : 0 < n) : ∃ g cap, v = .slice (some ⟨g, 0, none⟩) n cap ∧ Que w base e g 0 n cap xs := by
  rcases h.2 with ⟨_, h0⟩ | ⟨g, cap, cur, rfl, hb, hg, h1, h2, h3, h4⟩
  · omega
  · refine ⟨g, cap, rfl, ⟨hb, by simpa using h.1, h1, h2, cur, hg, by omega, fun j u hj => ?_⟩⟩
    have hjl := (List.getElem?_eq_some_iff.1 hj).1
    have hl := h.1
    rw [Nat.zero_add, ← Array.getElem?_toList]
    have e : (cur.toList.take (n * 1))[j]? = cur.toList[j]? := List.getElem?_take_of_lt (by omega)
    rw [← e, h4]; exact hj
end

section
variable {P : Program} {w : World} {ops : Array Oper} {rest : List Oper} {o : Oper} {a : Act} {Q : Exit → Act → World → Prop}
theorem wpl_que_appends (hgd : o.guard = none) (s x : Operand) (t : TypeId) (ho : o.op = .call { callee := .builtin .append, args := #[s, x], argTypes := #[t, t] })
    {base : Nat} {e : TypeId} (z : Value) (bytes : Nat) (ht : P.underlying t = some (.slice e)) (hinfo : (P.info? e).map (fun i => (i.zero, i.size, i.bytes)) = some (some z, 1, bytes)) (hzs : z.cells.size = 1)
    {g off n cap : Nat} {xs : List Value} (hs : a.eval s = .slice (some ⟨g, off, none⟩) n cap) (h : Que w base e g off n cap xs) (A : Option Addr) (m c : Nat) (news : List Value) (hx : a.eval x = .slice A m c) (hl : news.length = m) (hf : Flat w A news) (h1 : ∀ u ∈ news, u.oneCell' = true) (h63 : n + m ≤ maxLen) (hbytes : (n + m) * bytes ≤ 140737488355328) (hbase : base ≤ w.heap.size)
    (hk : ∀ g' off' cap' w', Que w' base e g' off' (n + m) cap' (xs ++ news) → But g w w' → (g' = g ∨ w.heap.size ≤ g') → wpList P ops Q rest (a.put o.dst (.slice (some ⟨g', off', none⟩) (n + m) cap')) w') : wpList P ops Q (o :: rest) a w := by
  refine wpList_plain hgd fun K hK => ?_
  obtain ⟨g', off', cap', w', hr, r2, r3, r4⟩ := h.appends P t o.type z bytes ht hinfo hzs A m c news hl hf h1 h63 hbytes hbase
  unfold Oper.wp execOp
  simp only [ho, resolve, invoke, builtin, Sem.run_bind, Sem.run_pure, Result.andThen_ok, List.map_toArray, List.map_cons, List.map_nil, hs, hx, hr]
  exact hK _ _ (hk _ _ _ w' r2 r3 r4)
end

section
variable {κ ν : Type} [DecidableEq κ] {P : Program} {kt : TypeId} {ek : κ → Value} {R : World → ν → Value → Prop} {w : World} {m : Nat} {L : List (κ × ν)}
variable {ops : Array Oper} {rest : List Oper} {o : Oper} {a : Act} {Q : Exit → Act → World → Prop}
theorem wplw_look_none (hg : Region.wanted o (yielded ops a.tmps) = true) (ok : Bool) (x y : Operand) (t et : TypeId) (hop : o.op = Op.lookup t x y ok) (K : KeyT P kt ek) (ht : P.underlying t = some (.map kt et)) (z : Value) (hz : ∀ W : World, (zeroValue et).run P W = .ok z W)
    (hm : a.eval x = .map (some m)) (k : κ) (hx : a.eval y = ek k) (h : MapIs ek R w m L) (hl : mget L k = none)
    (hK : wpList P ops Q rest (a.put o.dst (if ok then .tuple #[z, .bool false] else z)) w) : wpList P ops Q (o :: rest) a w := by
  refine wpList_step fun K' hK' => ?_
  rw [if_pos hg]
  rcases h.find K ht k with ⟨_, hrun⟩ | ⟨v, x', h1, _⟩
  · unfold Oper.wp
    simp [execOp, hop, hm, hx, hrun ok z (hz w), Result.andThen]
    exact hK' _ _ hK
  · rw [hl] at h1; cases h1
theorem wplw_look_some (hg : Region.wanted o (yielded ops a.tmps) = true) (ok : Bool) (x y : Operand) (t et : TypeId) (hop : o.op = Op.lookup t x y ok) (K : KeyT P kt ek) (ht : P.underlying t = some (.map kt et))
    (hm : a.eval x = .map (some m)) (k : κ) (hx : a.eval y = ek k) (h : MapIs ek R w m L) {v : ν} (hl : mget L k = some v)
    (hK : ∀ u, R w v u → wpList P ops Q rest (a.put o.dst (if ok then .tuple #[u, .bool true] else u)) w) : wpList P ops Q (o :: rest) a w := by
  refine wpList_step fun K' hK' => ?_
  rw [if_pos hg]
  rcases h.find K ht k with ⟨h1, _⟩ | ⟨v', x', h1, h2, hrun⟩
  · rw [hl] at h1; cases h1
  · rw [hl] at h1; cases h1
    unfold Oper.wp
    simp [execOp, hop, hm, hx, hrun ok, Result.andThen]
    exact hK' _ _ (hK _ h2)
end
end Go.Apo
end
