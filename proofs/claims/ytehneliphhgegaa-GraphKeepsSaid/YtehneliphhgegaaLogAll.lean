/- The log of a commit, the greatest first: in plain Lean. · The closure of Log: one is met, and waits. · Between two steps of Log: what stands in memory. · graph.Log: walked once. -/
import Derived.Test.YtehneliphhgegaaHeapO
import Derived.Test.YtehneliphhgegaaTopoAll
import Derived.Test.YtehneliphhgegaaPlainGens
section
set_option linter.unusedVariables false
set_option linter.unusedSimpArgs false
namespace Go.Proofs.Ytehneliphhgegaa.O
open Go.RowKit Go.Apo Go.Shelf

def CP (n : Nat) (f : Nat → Ent) : List CommitD := (List.range n).map fun k => (f k).c
theorem CP_perm {n : Nat} {f f' : Nat → Ent} (h : PermN n f f') : (CP n f').Perm (CP n f) := by
  have := List.Perm.map Ent.c h
  rw [List.map_map, List.map_map] at this
  exact this
theorem CP_upd (n : Nat) (f : Nat → Ent) (e : Ent) : CP (n + 1) (upd f n e) = CP n f ++ [e.c] := by
  unfold CP
  rw [List.range_succ, List.map_append]
  congr 1
  · refine List.map_congr_left fun k hk => ?_
    have := List.mem_range.1 hk
    unfold upd
    rw [if_neg (by omega)]
  · simp [upd]
theorem CP_mem {n : Nat} {f : Nat → Ent} {k : Nat} (h : k < n) : (f k).c ∈ CP n f := List.mem_map.2 ⟨k, List.mem_range.2 h, rfl⟩
theorem CP_of {n : Nat} {f : Nat → Ent} {c : CommitD} (h : c ∈ CP n f) : ∃ k, k < n ∧ (f k).c = c := by
  obtain ⟨k, hk, e⟩ := List.mem_map.1 h
  exact ⟨k, List.mem_range.1 hk, e⟩
def Rises (l : List CommitD) : Prop := l.Pairwise fun a b => ltQ b a = false

/-- between two steps of the log: who was met is told or waits; who is told stands ahead of who waits -/
structure LogInv (L : List (Int × CommitD)) (id : Int) (M : List (Int × Unit)) (m : Nat) (f : Nat → Ent) (cs : List CommitD) : Prop where
  perm : (cs ++ CP m f).Perm ((mkeys M).map (gGet L))
  nodup : (mkeys M).Nodup
  rises : Rises cs
  ahead : ∀ a ∈ cs, ∀ c ∈ CP m f, ltQ c a = false
  anc : ∀ k ∈ mkeys M, Anc L k id
/-- whose parents were met -/
def Shut (cs : List CommitD) (M : List (Int × Unit)) (L : List (Int × CommitD)) : Prop := ∀ a ∈ cs, ∀ p ∈ a.par, (mget L p).isSome = true → p ∈ mkeys M
theorem LogInv.zero (L : List (Int × CommitD)) (id : Int) (f : Nat → Ent) : LogInv L id [] 0 f [] :=
  ⟨List.Perm.refl _, List.nodup_nil, List.Pairwise.nil, (fun a h => by cases h), (fun k h => by cases h)⟩
/-- one is met: it waits from now on -/
theorem LogInv.push {L : List (Int × CommitD)} {id k : Int} {M : List (Int × Unit)} {m : Nat} {f f' : Nat → Ent} {cs : List CommitD} {e : Ent} (h : LogInv L id M m f cs) (hk : k ∉ mkeys M) (ha : Anc L k id) (he : e.c = gGet L k) (hp : PermN (m + 1) (upd f m e) f') (hl : ∀ a ∈ cs, ltQ (gGet L k) a = false) :
    LogInv L id (mput M k ()) (m + 1) f' cs := by
  have hc : (CP (m + 1) f').Perm (CP m f ++ [gGet L k]) := by
    have := CP_perm hp
    rw [CP_upd, he] at this
    exact this
  refine ⟨?_, nodup_mput _ h.nodup, h.rises, fun a haa c hcc => ?_, fun x hx => ?_⟩
  · rw [keys_mput_new _ hk, List.map_append, List.map_cons, List.map_nil]
    refine (List.Perm.append_left cs hc).trans ?_
    rw [← List.append_assoc]
    exact List.Perm.append_right _ h.perm
  · rcases List.mem_append.1 (hc.mem_iff.1 hcc) with h1 | h1
    · exact h.ahead a haa c h1
    · rw [List.mem_singleton] at h1; subst h1; exact hl a haa
  · rcases mem_keys_mput.1 hx with rfl | hx
    · exact ha
    · exact h.anc x hx
theorem Shut.put {cs : List CommitD} {M : List (Int × Unit)} {L : List (Int × CommitD)} (h : Shut cs M L) (k : Int) : Shut cs (mput M k ()) L := fun a ha p hp hs => mem_keys_mput.2 (Or.inr (h a ha p hp hs))
/-- the first one is told -/
theorem LogInv.pop {L : List (Int × CommitD)} {id : Int} {M : List (Int × Unit)} {m : Nat} {f f' : Nat → Ent} {cs : List CommitD} (h : LogInv L id M (m + 1) f cs) (hh : IsHeap ltE (m + 1) f) (hp : ((f 0) :: (List.range m).map f').Perm ((List.range (m + 1)).map f)) :
    LogInv L id M m f' (cs ++ [(f 0).c]) := by
  have hpc : ((f 0).c :: CP m f').Perm (CP (m + 1) f) := by
    have := List.Perm.map Ent.c hp
    rw [List.map_cons, List.map_map, List.map_map] at this
    exact this
  have hin : ∀ k, k < m → ∃ k', k' < m + 1 ∧ f' k = f k' := fun k hk => by
    have : f' k ∈ (List.range (m + 1)).map f := hp.mem_iff.1 (List.mem_cons_of_mem _ (List.mem_map.2 ⟨k, List.mem_range.2 hk, rfl⟩))
    obtain ⟨k', hk', e⟩ := List.mem_map.1 this
    exact ⟨k', List.mem_range.1 hk', e.symm⟩
  have hmin := hh.least ordQ
  refine ⟨?_, h.nodup, ?_, fun a ha c hc => ?_, h.anc⟩
  · rw [List.append_assoc]
    exact (List.Perm.append_left cs hpc).trans h.perm
  · unfold Rises
    rw [List.pairwise_append]
    refine ⟨h.rises, List.pairwise_singleton _ _, fun a ha b hb => ?_⟩
    rw [List.mem_singleton] at hb; subst hb
    exact h.ahead a ha _ (CP_mem (by omega))
  · obtain ⟨k, hk, rfl⟩ := CP_of hc
    obtain ⟨k', hk', e⟩ := hin k hk
    rw [e]
    rcases List.mem_append.1 ha with ha | ha
    · exact h.ahead a ha _ (CP_mem hk')
    · rw [List.mem_singleton] at ha; subst ha
      exact hmin k' hk'
/-- what the log is -/
structure LogIs (L : List (Int × CommitD)) (id most : Int) (cs : List CommitD) : Prop where
  rises : Rises cs
  nodup : (cs.map CommitD.id).Nodup
  mem : ∀ c ∈ cs, Anc L c.id id ∧ c = gGet L c.id
  rest : ∀ k, Anc L k id → k ∈ cs.map CommitD.id ∨ ∀ a ∈ cs, ltQ (gGet L k) a = false
  few : (cs.length : Int) ≤ max most 0
  all : (cs.length : Int) < most → ∀ k, Anc L k id → k ∈ cs.map CommitD.id
theorem LogInv.mem {L : List (Int × CommitD)} {R : List CommitD} (hs : Sync L R) {id : Int} {M : List (Int × Unit)} {m : Nat} {f : Nat → Ent} {cs : List CommitD} (h : LogInv L id M m f cs) {c : CommitD} (hc : c ∈ cs ++ CP m f) : c.id ∈ mkeys M ∧ c = gGet L c.id ∧ Anc L c.id id := by
  obtain ⟨k, hk, rfl⟩ := List.mem_map.1 (h.perm.mem_iff.1 hc)
  obtain ⟨d, hd⟩ := Option.isSome_iff_exists.1 (h.anc k hk).of
  have e : (gGet L k).id = k := by rw [gGet_at hd]; exact hs.ids k d hd
  rw [e]
  exact ⟨hk, rfl, h.anc k hk⟩
theorem LogInv.nodup_ids {L : List (Int × CommitD)} {R : List CommitD} (hs : Sync L R) {id : Int} {M : List (Int × Unit)} {m : Nat} {f : Nat → Ent} {cs : List CommitD} (h : LogInv L id M m f cs) : ((cs ++ CP m f).map CommitD.id).Nodup := by
  have h1 := List.Perm.map CommitD.id h.perm
  rw [List.map_map] at h1
  refine h1.nodup_iff.2 ?_
  have h2 : (mkeys M).map (CommitD.id ∘ gGet L) = mkeys M := by
    conv => rhs; rw [← List.map_id (mkeys M)]
    refine List.map_congr_left fun x hx => ?_
    obtain ⟨d, hd⟩ := Option.isSome_iff_exists.1 (h.anc x hx).of
    show (gGet L x).id = x
    rw [gGet_at hd]; exact hs.ids x d hd
  rw [h2]; exact h.nodup
/-- where a way up leaves what is told, one waits -/
theorem LogInv.way {L : List (Int × CommitD)} {R : List CommitD} (hs : Sync L R) {id : Int} {M : List (Int × Unit)} {m : Nat} {f : Nat → Ent} {cs : List CommitD} (h : LogInv L id M m f cs) (hS : Shut cs M L) {k i : Int} (ha : Anc L k i) (hi : i ∈ mkeys M) : k ∈ mkeys M ∨ ∃ y ∈ CP m f, Anc L k y.id := by
  induction ha with
  | self _ => exact Or.inl hi
  | @up i p c h1 h2 h3 ih =>
    have hm : gGet L i ∈ cs ++ CP m f := h.perm.mem_iff.2 (List.mem_map.2 ⟨i, hi, rfl⟩)
    rw [gGet_at h1] at hm
    rcases List.mem_append.1 hm with hm | hm
    · exact ih (hS c hm p h2 h3.there)
    · right
      refine ⟨c, hm, ?_⟩
      rw [hs.ids i c h1]
      exact .up h1 h2 h3
theorem LogInv.fin {L : List (Int × CommitD)} {R : List CommitD} (hs : Sync L R) {id most : Int} {M : List (Int × Unit)} {m : Nat} {f : Nat → Ent} {cs : List CommitD} (h : LogInv L id M m f cs) (hS : Shut cs M L) (hst : (mget L id).isSome = true → id ∈ mkeys M) (hl : (cs.length : Int) ≤ max most 0) (he : m = 0 ∨ most ≤ cs.length) : LogIs L id most cs := by
  have hmem : ∀ k, k ∈ mkeys M → (k ∈ cs.map CommitD.id) ∨ ∃ c ∈ CP m f, c = gGet L k := fun k hk => by
    have hm : gGet L k ∈ cs ++ CP m f := h.perm.mem_iff.2 (List.mem_map.2 ⟨k, hk, rfl⟩)
    rcases List.mem_append.1 hm with hm | hm
    · left
      obtain ⟨d, hd⟩ := Option.isSome_iff_exists.1 (h.anc k hk).of
      refine List.mem_map.2 ⟨_, hm, ?_⟩
      rw [gGet_at hd]; exact hs.ids k d hd
    · exact Or.inr ⟨_, hm, rfl⟩
  refine ⟨h.rises, ?_, fun c hc => ?_, fun k hk => ?_, hl, fun hlt k hk => ?_⟩
  · have := h.nodup_ids hs
    rw [List.map_append] at this
    exact (List.nodup_append.1 this).1
  · obtain ⟨_, h2, h3⟩ := h.mem hs (List.mem_append_left _ hc)
    exact ⟨h3, h2⟩
  · rcases h.way hs hS hk (hst hk.there) with h1 | ⟨y, hy, h1⟩
    · rcases hmem k h1 with h2 | ⟨c, hc, e⟩
      · exact Or.inl h2
      · right; intro a ha; rw [← e]; exact h.ahead a ha c hc
    · right
      intro a ha
      have h2 := h.ahead a ha y hy
      obtain ⟨_, h4, _⟩ := h.mem hs (List.mem_append_right _ hy)
      rcases hs.anc_gen h1 with rfl | h3
      · rw [← h4]; exact h2
      · rw [← h4] at h3
        rw [ltQ_no] at h2 ⊢
        omega
  · have hm0 : m = 0 := by rcases he with e | e <;> omega
    subst hm0
    rcases h.way hs hS hk (hst hk.there) with h1 | ⟨y, hy, h1⟩
    · rcases hmem k h1 with h2 | ⟨c, hc, e⟩
      · exact h2
      · cases hc
    · cases hy
/-- a parent of the last one told stands behind all that are told -/
theorem LogInv.parent {L : List (Int × CommitD)} {R : List CommitD} (hs : Sync L R) {id p : Int} {M : List (Int × Unit)} {m : Nat} {f : Nat → Ent} {cs : List CommitD} {c : CommitD} (h : LogInv L id M m f (cs ++ [c])) (hp : p ∈ c.par) (hq : (mget L p).isSome = true) : Anc L p id ∧ ∀ a ∈ cs ++ [c], ltQ (gGet L p) a = false := by
  obtain ⟨h1, h2, h3⟩ := h.mem hs (List.mem_append_left _ (List.mem_append_right cs (List.mem_singleton.2 rfl)))
  obtain ⟨d, hd⟩ := Option.isSome_iff_exists.1 h3.of
  rw [gGet_at hd] at h2
  subst h2
  obtain ⟨_, _, e, he, hlt⟩ := hs.pars _ c hd p hp
  refine ⟨.trans (.up hd hp (.self hq)) h3, fun a ha => ?_⟩
  rw [gGet_at he]
  have hca : a = c ∨ ltQ c a = false := by
    rcases List.mem_append.1 ha with h4 | h4
    · right
      have := h.rises
      unfold Rises at this
      rw [List.pairwise_append] at this
      exact this.2.2 a h4 c (List.mem_singleton.2 rfl)
    · exact Or.inl (List.mem_singleton.1 h4)
  rw [ltQ_no]
  rcases hca with rfl | hca
  · omega
  · rw [ltQ_no] at hca; omega
theorem LogInv.len {L : List (Int × CommitD)} {id : Int} {M : List (Int × Unit)} {m : Nat} {f : Nat → Ent} {cs : List CommitD} (h : LogInv L id M m f cs) : cs.length + m ≤ L.length ∧ (mkeys M).length = cs.length + m := by
  have h1 := h.perm.length_eq
  simp only [List.length_append, List.length_map, CP, List.length_range] at h1
  have h2 : (mkeys M).length ≤ (mkeys L).length := nodup_le2 h.nodup fun k hk => mem_keys.1 (h.anc k hk).of
  have h3 : (mkeys L).length = L.length := by simp [mkeys]
  omega

/-! two rows that fall, of the same numbers, are one row -/
theorem ltQ_tri {a b : CommitD} (h1 : ltQ a b = false) (h2 : ltQ b a = false) : a.gen = b.gen ∧ a.id = b.id := by
  rw [ltQ_no] at h1 h2; omega
/-- the log is the first of all ancestors in their order -/
theorem LogIs.take {L : List (Int × CommitD)} {R : List CommitD} (hs : Sync L R) {id most : Int} : ∀ {cs l : List CommitD}, Rises cs → Rises l → (cs.map CommitD.id).Nodup → (l.map CommitD.id).Nodup → (∀ c ∈ cs, c = gGet L c.id) → (∀ c ∈ l, c = gGet L c.id) → (∀ c ∈ cs, c ∈ l) → (∀ x ∈ l, x ∈ cs ∨ ∀ a ∈ cs, ltQ x a = false) → cs = l.take cs.length
  | [], l, _, _, _, _, _, _, _, _ => by simp
  | c :: cs, [], _, _, _, _, _, _, h, _ => by have := h c List.mem_cons_self; cases this
  | c :: cs, x :: l, r1, r2, n1, n2, g1, g2, s, t => by
    unfold Rises at r1 r2
    rw [List.pairwise_cons] at r1 r2
    rw [List.map_cons, List.nodup_cons] at n1 n2
    have hcx : c = x := by
      have e1 : ltQ c x = false := by
        rcases List.mem_cons.1 (s c List.mem_cons_self) with e | e
        · subst e; rw [ltQ_no]; omega
        · exact r2.1 c e
      have e2 : ltQ x c = false := by
        rcases t x List.mem_cons_self with e | e
        · rcases List.mem_cons.1 e with e | e
          · subst e; rw [ltQ_no]; omega
          · exact r1.1 x e
        · exact e c List.mem_cons_self
      have e3 := (ltQ_tri e1 e2).2
      rw [g1 c List.mem_cons_self, g2 x List.mem_cons_self, e3]
    subst hcx
    rw [List.length_cons, List.take_succ_cons]
    congr 1
    refine LogIs.take hs (most := most) (id := id) r1.2 r2.2 n1.2 n2.2 (fun a ha => g1 a (List.mem_cons_of_mem _ ha)) (fun a ha => g2 a (List.mem_cons_of_mem _ ha)) (fun a ha => ?_) (fun y hy => ?_)
    · rcases List.mem_cons.1 (s a (List.mem_cons_of_mem _ ha)) with e | e
      · subst e; exact absurd (List.mem_map.2 ⟨_, ha, rfl⟩) n1.1
      · exact e
    · rcases t y (List.mem_cons_of_mem _ hy) with e | e
      · rcases List.mem_cons.1 e with e | e
        · subst e; exact absurd (List.mem_map.2 ⟨_, hy, rfl⟩) n2.1
        · exact Or.inl e
      · exact Or.inr fun a ha => e a (List.mem_cons_of_mem _ ha)
end Go.Proofs.Ytehneliphhgegaa.O
end
section
set_option linter.unusedVariables false
set_option linter.unusedSimpArgs false
set_option maxRecDepth 100000
namespace Go.Proofs.Ytehneliphhgegaa.O
open Go.RowKit Go.Apo Go.Shelf

/-- the parents of one that is kept lie in a block from B on that no X turns -/
def EntOk (B : Nat) (X : Nat → Prop) (w : World) (e : Ent) : Prop :=
  Flat w e.a (nums e.c.par) ∧ (e.a = none → e.c.par = []) ∧ ∀ b off, e.a = some ⟨b, off, none⟩ → B ≤ b ∧ b < w.heap.size ∧ ¬ X b
theorem flat_keep {w w' : World} {A : Option Addr} {cs : List Value} (h : Flat w A cs) (hk : ∀ b off, A = some ⟨b, off, none⟩ → b < w.heap.size → w'.heap[b]? = w.heap[b]?) : Flat w' A cs := fun h0 => by
  obtain ⟨b, off, e, hc⟩ := h h0
  refine ⟨b, off, e, fun j u hj => ?_⟩
  have h1 := hc j u hj
  exact (World.cell?_of_block (w := w) (a := ⟨b, off + j, none⟩) (hk b off e (cell_lt h1))).trans h1
theorem EntOk.keep {B : Nat} {X X' : Nat → Prop} {w w' : World} {e : Ent} (h : EntOk B X w e) (hk : ∀ k, k < w.heap.size → B ≤ k → ¬ X k → w'.heap[k]? = w.heap[k]?) (hs : w.heap.size ≤ w'.heap.size) (hX : ∀ k, k < w.heap.size → X' k → X k) : EntOk B X' w' e := by
  obtain ⟨h1, h2, h3⟩ := h
  refine ⟨flat_keep h1 (fun b off e hb => ?_), h2, fun b off e => ?_⟩
  · obtain ⟨q1, q2, q3⟩ := h3 b off e; exact hk b hb q1 q3
  · obtain ⟨q1, q2, q3⟩ := h3 b off e
    exact ⟨q1, by omega, fun hx => q3 (hX b q2 hx)⟩
theorem EntOk.below {B : Nat} {X : Nat → Prop} {w w' : World} {e : Ent} (h : EntOk B X w e) (hb : Below w.heap.size w w') : EntOk B X w' e :=
  h.keep (fun k hk _ _ => hb.block k hk) hb.size (fun _ _ h => h)
/-- three blocks alone may have turned -/
structure But3 (m h g : Nat) (w w' : World) : Prop where
  os : w'.os = w.os
  tape : w'.tape = w.tape
  output : w'.output = w.output
  size : w.heap.size ≤ w'.heap.size
  block : ∀ k, k < w.heap.size → k ≠ m → k ≠ h → k ≠ g → w'.heap[k]? = w.heap[k]?
theorem But3.refl (m h g : Nat) (w : World) : But3 m h g w w := ⟨rfl, rfl, rfl, Nat.le_refl _, fun _ _ _ _ _ => rfl⟩
theorem But3.trans {m h g : Nat} {a b c : World} (x : But3 m h g a b) (y : But3 m h g b c) : But3 m h g a c :=
  ⟨y.os.trans x.os, y.tape.trans x.tape, y.output.trans x.output, Nat.le_trans x.size y.size, fun k hk h0 h1 h2 => (y.block k (Nat.lt_of_lt_of_le hk x.size) h0 h1 h2).trans (x.block k hk h0 h1 h2)⟩
theorem But3.later {m h g g' : Nat} {a b c : World} (x : But3 m h g a b) (hg : g' = g ∨ a.heap.size ≤ g') (y : But3 m h g' b c) : But3 m h g a c :=
  ⟨y.os.trans x.os, y.tape.trans x.tape, y.output.trans x.output, Nat.le_trans x.size y.size, fun k hk h0 h1 h2 => (y.block k (Nat.lt_of_lt_of_le hk x.size) h0 h1 (by rcases hg with e | e <;> omega)).trans (x.block k hk h0 h1 h2)⟩
theorem But3.of_below {m h g : Nat} {a b : World} (x : Below a.heap.size a b) : But3 m h g a b := ⟨x.os, x.tape, x.output, x.size, fun k hk _ _ _ => x.block k hk⟩
theorem But3.of_two {m h g : Nat} {a b : World} (x : But2 h g a b) : But3 m h g a b := ⟨x.os, x.tape, x.output, x.size, fun k hk _ h1 h2 => x.block k hk h1 h2⟩
theorem But3.of_map {m h g : Nat} {a b : World} (x : But m a b) : But3 m h g a b := ⟨x.os, x.tape, x.output, x.size, fun k hk h0 _ _ => x.block k hk h0⟩
theorem But3.grown {m h g : Nat} {a b c : World} {row : Option Nat} (x : But3 m h g a b) (hg : b.grownBy c row) (hr : ∀ r, row = some r → a.heap.size ≤ r) : But3 m h g a c :=
  ⟨hg.os.trans x.os, hg.tape.trans x.tape, hg.output.trans x.output, Nat.le_trans x.size hg.size, fun k hk h0 h1 h2 => (hg.block k (Nat.lt_of_lt_of_le hk x.size) (fun e => by have := hr k e.symm; omega)).trans (x.block k hk h0 h1 h2)⟩
theorem But3.below {B m h g : Nat} {w W W' : World} (x : Below B w W) (hB : B ≤ w.heap.size) (h0 : B ≤ m) (h1 : B ≤ h) (h2 : B ≤ g) (y : But3 m h g W W') : Below B w W' :=
  ⟨y.os.trans x.os, y.tape.trans x.tape, y.output.trans x.output, Nat.le_trans x.size y.size, fun k hk => (y.block k (Nat.lt_of_lt_of_le (Nat.lt_of_lt_of_le hk hB) x.size) (by omega) (by omega) (by omega)).trans (x.block k hk)⟩
theorem HQ.mapped {t : TypeId} {w w' : World} {h g cap n m : Nat} {f : Nat → Ent} (q : HQ t w h g cap n f) (hb : But m w w') (h1 : h ≠ m) (h2 : g ≠ m) : HQ t w' h g cap n f := by
  refine ⟨(hb.block h q.1.lt h1).trans q.1, ?_, q.2.2⟩
  obtain ⟨cur, k1, k2⟩ := q.2.1
  exact ⟨cur, (hb.block g k1.lt h2).trans k1, k2⟩
theorem HQ.ne_map {t : TypeId} {w : World} {h g cap n m : Nat} {f : Nat → Ent} {ν : Type} {R : World → ν → Value → Prop} {M : List (Int × ν)} (q : HQ t w h g cap n f) (hM : MapIs (Value.int .u64) R w m M) : h ≠ m ∧ g ≠ m := by
  obtain ⟨o, h1, h2⟩ := hM.notCells
  refine ⟨fun e => ?_, fun e => ?_⟩
  · subst e; have := q.1; unfold Blk at this; rw [h1] at this; cases this; cases h2
  · subst e
    obtain ⟨cur, k1, _⟩ := q.2.1
    unfold Blk at k1; rw [h1] at k1; cases k1; cases h2
theorem MapIs.but2 {w w' : World} {m h g : Nat} {M : List (Int × Unit)} (hM : MapIs (Value.int .u64) boolIs w m M) (h1 : h ≠ m) (h2 : g ≠ m) (hb : But2 h g w w') : MapIs (Value.int .u64) boolIs w' m M := by
  have hl := hM.lt
  obtain ⟨es, c, q1, hs, he⟩ := hM.ex
  exact ⟨es, c, (hb.block m hl (fun e => h1 e.symm) (fun e => h2 e.symm)).trans q1, hs, he⟩

/-- what a push leaves -/
structure Pushed (w : World) (mm hh g n : Nat) (f : Nat → Ent) (L : List (Int × CommitD)) (M : List (Int × Unit)) (id : Int) (r : Ending) (w' : World) (M' : List (Int × Unit)) (n' g' cap' : Nat) (f' : Nat → Ent) : Prop where
  r : r = .returned (.tuple #[])
  hq : HQ 126 w' hh g' cap' n' f'
  heap : IsHeap ltE n' f'
  map : MapIs (Value.int .u64) boolIs w' mm M'
  but : But3 mm hh g w w'
  row : g' = g ∨ w.heap.size ≤ g'
  rel : (M' = M ∧ n' = n ∧ f' = f ∧ ((mget L id).isSome = true → id ∈ mkeys M)) ∨ (id ∉ mkeys M ∧ (mget L id).isSome = true ∧ M' = mput M id () ∧ n' = n + 1 ∧ ∃ e, e.c = gGet L id ∧ PermN (n + 1) (upd f n e) f' ∧ Flat w' e.a (nums e.c.par) ∧ (e.a = none → e.c.par = []) ∧ ∀ b off, e.a = some ⟨b, off, none⟩ → w.heap.size ≤ b ∧ b < w'.heap.size ∧ b ≠ g')
def PushPost (w : World) (mm hh g n : Nat) (f : Nat → Ent) (L : List (Int × CommitD)) (M : List (Int × Unit)) (id : Int) (r : Ending) (w' : World) : Prop :=
  ∃ M' n' g' cap' f', Pushed w mm hh g n f L M id r w' M' n' g' cap' f'

set_option maxHeartbeats 4000000 in
theorem push1_calls (w : World) (Bg Bm Bh mm hh g cap n : Nat) (gq : Option Addr) (f : Nat → Ent) (L : List (Int × CommitD)) (M : List (Int × Unit)) (hcg : w.cell? ⟨Bg, 0, none⟩ = some (.pointer gq)) (h : GP w gq L) (hcm : w.cell? ⟨Bm, 0, none⟩ = some (.map (some mm))) (hM : MapIs (Value.int .u64) boolIs w mm M) (hch : w.cell? ⟨Bh, 0, none⟩ = some (.pointer (some ⟨hh, 0, none⟩))) (hne : Bh ≠ mm) (hq : HQ 126 w hh g cap n f) (hH : IsHeap ltE n f) (hn : n ≤ 80000) (id : Int) :
    Calls Try.prog 95 #[.int .u64 id, .pointer (some ⟨Bg, 0, none⟩), .pointer (some ⟨Bm, 0, none⟩), .pointer (some ⟨Bh, 0, none⟩)] w (PushPost w mm hh g n f L M id) := by
  have hGE := gp_get gq w L h id
  unfold GetOwn at hGE
  have hlg := cell_lt hcg
  have hlm := cell_lt hcm
  have hlh := cell_lt hch
  have HM := Lib.hid hM
  have HQ0 := Lib.hid hq
  have HH := Lib.hid hH
  have hnm := hq.ne_map hM
  have HNM := Lib.hid hnm
  clear hnm hM hq hH h
  cases hL : mget L id with
  | none =>
    unfold gGet at hGE
    rw [hL] at hGE
    have HL := Lib.hid hL; clear hL
    have HGE := Lib.hid hGE; clear hGE
    simp only [Option.isSome_none, Option.getD_none] at HGE
    obtain ⟨c, hcz⟩ : ∃ c, c = CommitD.zero := ⟨_, rfl⟩
    rw [← hcz] at HGE
    clear hcz
    go_enter Try.func95, Try.ntmps95
    go_wp2_with (go_at_call 44; refine HGE.out.mono ?_; rintro e w5 ⟨A5, k5, rfl, ho5, hb5⟩; clear ho5)
    go_end0
    have hb6 : Below w.heap.size w (w5.alloc (.cells #[.int .u64 c.id, .slice A5 c.par.length k5, .int .u64 c.gen, .int .u64 c.root, .string c.text] 69)) := bel_al0 hb5 _
    exact ⟨M, n, g, cap, f, rfl, HQ0.out.below hb6, HH.out, HM.out.below bools_onCells hb6, But3.of_below hb6, Or.inl rfl, Or.inl ⟨rfl, rfl, rfl, fun hs => by rw [HL.out] at hs; cases hs⟩⟩
  | some c =>
    unfold gGet at hGE
    rw [hL] at hGE
    have HL := Lib.hid hL; clear hL
    have HGE := Lib.hid hGE; clear hGE
    simp only [Option.isSome_some, Option.getD_some] at HGE
    cases hMq : mget M id with
    | some u =>
      have HMQ := Lib.hid hMq; clear hMq
      go_enter Try.func95, Try.ntmps95
      go_wp2_with (first | (go_at_call 44; refine HGE.out.mono ?_; rintro e w5 ⟨A5, k5, rfl, ho5, hb5⟩; clear ho5; replace hcm := cell_bel hcm hb5; have hlm5 := cell_lt hcm; have hM5 := Lib.hid (HM.out.below bools_onCells (bel_al0 hb5 (.cells #[.int .u64 c.id, .slice A5 c.par.length k5, .int .u64 c.gen, .int .u64 c.root, .string c.text] 69)))) | (at_lookup; refine wplw_look_some rfl false _ _ 117 4 rfl keyU Try.underlying117 rfl id rfl hM5.out HMQ.out ?_; intro u hu; unfold boolIs at hu; subst hu))
      go_end0
      have hb6 : Below w.heap.size w (w5.alloc (.cells #[.int .u64 c.id, .slice A5 c.par.length k5, .int .u64 c.gen, .int .u64 c.root, .string c.text] 69)) := bel_al0 hb5 _
      exact ⟨M, n, g, cap, f, rfl, HQ0.out.below hb6, HH.out, hM5.out, But3.of_below hb6, Or.inl rfl, Or.inl ⟨rfl, rfl, rfl, fun hs => mem_keys.1 (by rw [HMQ.out]; rfl)⟩⟩
    | none =>
      have HMQ := Lib.hid hMq; clear hMq
      obtain ⟨np, hnp⟩ : ∃ np, np = c.par.length := ⟨_, rfl⟩
      rw [← hnp] at HGE
      have HNP := Lib.hid hnp; clear hnp
      go_enter Try.func95, Try.ntmps95
      go_wp2_with (first
        | (go_at_call 44; refine HGE.out.mono ?_; rintro e w5 ⟨A5, k5, rfl, ho5, hb5⟩; have hcm5 := cell_bel hcm hb5; have hlm5 := cell_lt hcm5; have hch5 := cell_bel hch hb5; have hlh5 := cell_lt hch5; have hb6 : Below w.heap.size w (w5.alloc (.cells #[.int .u64 c.id, .slice A5 np k5, .int .u64 c.gen, .int .u64 c.root, .string c.text] 69)) := bel_al0 hb5 _; have hM5 := Lib.hid (HM.out.below bools_onCells hb6); have HO5 := Lib.hid ho5; clear ho5; have hz5 := hb5.size; have HB5 := Lib.hid hb6; clear hb6)
        | (at_lookup; refine wplw_look_none rfl false _ _ 117 4 rfl keyU Try.underlying117 _ (fun W => zeroBool W) rfl id rfl hM5.out HMQ.out ?_)
        | (at_mapUpdate; refine wpl_store (R := boolIs) rfl _ _ _ 117 4 rfl keyU bools_onCells Try.underlying117 rfl id rfl _ rfl hM5.out (v := ()) rfl ?_; intro w7 hm7 hg7 hz7; have HM7 := Lib.hid hm7; clear hm7; have HB7 := Lib.hid (But.of_grown hg7); clear hg7; obtain ⟨o9, ho9, hoc9⟩ := hM5.out.notCells; have B7 := HB7.out.cells ho9 hoc9 w5.heap.size _ (MapKept.heap_alloc w5 _).1 rfl; obtain ⟨x0, x1, x2, x3, x4, xf⟩ := Blk.five B7; have hz7' : w5.heap.size < w7.heap.size := (by simp at hz7; omega); have hch7 : w7.cell? ⟨Bh, 0, none⟩ = some (.pointer (some ⟨hh, 0, none⟩)) := HB7.out.cell_keeps ho9 hoc9 (cell_bel hch HB5.out); have hlh7 := cell_lt hch7; clear ho9 hoc9 B7; have HZ7 := Lib.hid hz7; clear hz7; have HPU := Lib.hid (hpush_calls w7 hh g cap n f ((HQ0.out.below HB5.out).mapped HB7.out HNM.out.1 HNM.out.2) (by omega) HH.out ⟨c, A5, k5⟩); simp only [← HNP.out] at HPU)
        | (go_at_call 96; refine HPU.out.mono ?_; rintro e w8 ⟨rfl, g8, cap8, f8, hq8, hh8, hp8, hb8, hg8⟩; have HQ8 := Lib.hid hq8; clear hq8; have HH8 := Lib.hid hh8; clear hh8; have HP8 := Lib.hid hp8; clear hp8; have HB8 := Lib.hid hb8; clear hb8; have HG8 := Lib.hid hg8; clear hg8))
      go_end0
      have hs5 := HB5.out.size
      have hs7 := HB7.out.size
      have hs8 := HB8.out.size
      simp at hs5 hs7
      have hgl := HQ0.out.2.1.lt
      have hml := HM.out.lt
      refine ⟨mput M id (), n + 1, g8, cap8, f8, rfl, HQ8.out, HH8.out, MapIs.but2 HM7.out HNM.out.1 HNM.out.2 HB8.out, ?_, ?_, Or.inr ⟨fun hk => ?_, by rw [HL.out]; rfl, rfl, rfl, ⟨c, A5, k5⟩, ?_, HP8.out, ?_, ?_, ?_⟩⟩
      · exact ((But3.of_below HB5.out).trans (But3.of_map HB7.out)).trans (But3.of_two HB8.out)
      · rcases HG8.out with e | e
        · exact Or.inl e
        · right; omega
      · have := mem_keys.2 hk; rw [HMQ.out] at this; cases this
      · show c = gGet L id; unfold gGet; rw [HL.out]; rfl
      · refine flat_keep (own_flat HO5.out) (fun b off e hb => ?_)
        subst e
        have hb0 := own_blk HO5.out
        rw [HB8.out.block b (by omega) (by have := HQ0.out.1.lt; omega) (by omega), HB7.out.block b (by simp; omega) (by omega)]
        exact (bel_al0 (Below.refl _ w5) _).block b hb
      · intro e
        have e' : A5 = none := e
        subst e'
        have := own_none HO5.out
        exact List.eq_nil_of_length_eq_zero (by rw [← HNP.out]; exact this)
      · intro b off e
        have e' : A5 = some ⟨b, off, none⟩ := e
        subst e'
        have hb0 := own_blk HO5.out
        have hb1 := own_lt HO5.out
        refine ⟨hb0, by omega, ?_⟩
        rcases HG8.out with e2 | e2
        · omega
        · omega
end Go.Proofs.Ytehneliphhgegaa.O
end
section
set_option linter.unusedVariables false
set_option linter.unusedSimpArgs false
namespace Go.Proofs.Ytehneliphhgegaa.O
open Go.RowKit Go.Apo Go.Shelf

/-- the blocks that the walk turns on its own: the heap's row, the log's row -/
def XB (g : Nat) (v : Value) (k : Nat) : Prop := k = g ∨ v.ownBlock = some k
def esVals (es : List Ent) : List Value := es.flatMap Ent.vals
theorem esVals_len (es : List Ent) : (esVals es).length = es.length * 5 := by
  induction es with
  | nil => rfl
  | cons e es ih => simp only [esVals, List.flatMap_cons, List.length_append, Ent.vals_len, List.length_cons] at *; omega
theorem esVals_snoc (es : List Ent) (e : Ent) : esVals (es ++ [e]) = esVals es ++ e.vals := by simp [esVals]
structure LogSt (B mm hh z1 : Nat) (W6 : World) (L : List (Int × CommitD)) (id : Int) (wr : World) (v : Value) (g cap m : Nat) (f : Nat → Ent) (M : List (Int × Unit)) (es : List Ent) : Prop where
  hq : HQ 126 wr hh g cap m f
  heap : IsHeap ltE m f
  map : MapIs (Value.int .u64) boolIs wr mm M
  out : wr.ownsRow B 69 5 v es.length (esVals es)
  inv : LogInv L id M m f (es.map Ent.c)
  ents : ∀ k, k < m → EntOk B (XB g v) wr (f k)
  told : ∀ e ∈ es, EntOk B (XB g v) wr e
  apart : ∀ r, v.ownBlock = some r → r ≠ g
  but : But3 mm hh z1 W6 wr
  row : g = z1 ∨ W6.heap.size ≤ g
theorem own_keep {w w' : World} {base e size n : Nat} {v : Value} {xs : List Value} (ho : w.ownsRow base e size v n xs) (hb : ∀ b, v.ownBlock = some b → b < w.heap.size → w'.heap[b]? = w.heap[b]?) : w'.ownsRow base e size v n xs := by
  refine ⟨ho.1, ?_⟩
  rcases ho.2 with hh | ⟨b, cap, cur, rfl, hb0, hg, rest⟩
  · exact Or.inl hh
  · exact Or.inr ⟨b, cap, cur, rfl, hb0, (hb b rfl (Array.getElem?_eq_some_iff.1 hg).1).trans hg, rest⟩
theorem own_row_lt {w : World} {base e size n : Nat} {v : Value} {xs : List Value} (h : w.ownsRow base e size v n xs) : ∀ k, v.ownBlock = some k → k < w.heap.size := fun k hk => (h.lt k hk).2
theorem own_row_base {w : World} {base e size n : Nat} {v : Value} {xs : List Value} (h : w.ownsRow base e size v n xs) : ∀ k, v.ownBlock = some k → base ≤ k := fun k hk => (h.lt k hk).1
theorem perm_ents {P : Ent → Prop} {n : Nat} {f f' : Nat → Ent} {e : Ent} (hp : PermN (n + 1) (upd f n e) f') (h : ∀ k, k < n → P (f k)) (he : P e) : ∀ k, k < n + 1 → P (f' k) := fun k hk => by
  have h1 : f' k ∈ (List.range (n + 1)).map (upd f n e) := hp.mem_iff.1 (List.mem_map.2 ⟨k, List.mem_range.2 hk, rfl⟩)
  obtain ⟨q, hq, e1⟩ := List.mem_map.1 h1
  rw [← e1]
  unfold upd
  by_cases hqn : q = n
  · rw [if_pos hqn]; exact he
  · rw [if_neg hqn]; have := List.mem_range.1 hq; exact h q (by omega)
theorem perm_ents2 {P : Ent → Prop} {n : Nat} {f f' : Nat → Ent} (hp : ((f 0) :: (List.range n).map f').Perm ((List.range (n + 1)).map f)) (h : ∀ k, k < n + 1 → P (f k)) : ∀ k, k < n → P (f' k) := fun k hk => by
  have h1 : f' k ∈ (List.range (n + 1)).map f := hp.mem_iff.1 (List.mem_cons_of_mem _ (List.mem_map.2 ⟨k, List.mem_range.2 hk, rfl⟩))
  obtain ⟨q, hq, e1⟩ := List.mem_map.1 h1
  rw [← e1]
  exact h q (List.mem_range.1 hq)
/-- one push more -/
theorem LogSt.push {B mm hh z1 : Nat} {W6 : World} {L : List (Int × CommitD)} {id p : Int} {wr : World} {v : Value} {g cap m : Nat} {f : Nat → Ent} {M : List (Int × Unit)} {es : List Ent} (h : LogSt B mm hh z1 W6 L id wr v g cap m f M es) (hB : W6.heap.size = B) (hmm : mm < B) (hhh : hh < B) {r : Ending} {w' : World} {M' : List (Int × Unit)} {n' g' cap' : Nat} {f' : Nat → Ent} (k : Pushed wr mm hh g m f L M p r w' M' n' g' cap' f') (hpar : (mget L p).isSome = true → Anc L p id ∧ ∀ a ∈ es.map Ent.c, ltQ (gGet L p) a = false) :
    LogSt B mm hh z1 W6 L id w' v g' cap' n' f' M' es ∧ (∀ x ∈ mkeys M, x ∈ mkeys M') ∧ ((mget L p).isSome = true → p ∈ mkeys M') := by
  have hvb := own_row_base h.out
  have hvl := own_row_lt h.out
  have hWs := h.but.size
  have hX : ∀ x, x < wr.heap.size → XB g' v x → XB g v x := fun x hx hk => by
    rcases hk with e | e
    · rcases k.row with e2 | e2
      · left; omega
      · omega
    · exact Or.inr e
  have hkeep : ∀ x, x < wr.heap.size → B ≤ x → ¬ XB g v x → w'.heap[x]? = wr.heap[x]? := fun x hx hb hn => k.but.block x hx (by omega) (by omega) (fun e => hn (Or.inl e))
  have hold : ∀ e, EntOk B (XB g v) wr e → EntOk B (XB g' v) w' e := fun e he => he.keep hkeep k.but.size hX
  have hout : w'.ownsRow B 69 5 v es.length (esVals es) := own_keep h.out fun b hb hl => k.but.block b hl (by have := hvb b hb; omega) (by have := hvb b hb; omega) (h.apart b hb)
  have hap : ∀ r, v.ownBlock = some r → r ≠ g' := fun r hr => by
    rcases k.row with e2 | e2
    · rw [e2]; exact h.apart r hr
    · have := hvl r hr; omega
  have hbut : But3 mm hh z1 W6 w' := h.but.later h.row k.but
  have hrow : g' = z1 ∨ W6.heap.size ≤ g' := by
    rcases k.row with e2 | e2
    · rw [e2]; exact h.row
    · right; omega
  rcases k.rel with ⟨e1, e2, e3, e4⟩ | ⟨e1, e2, e3, e4, e, q1, q2, q3, q4, q5⟩
  · subst e1 e2 e3
    refine ⟨⟨k.hq, k.heap, k.map, hout, h.inv, fun x hx => hold _ (h.ents x hx), fun x hx => hold _ (h.told x hx), hap, hbut, hrow⟩, fun x hx => hx, e4⟩
  · subst e3 e4
    obtain ⟨a1, a2⟩ := hpar e2
    have hep : p ∈ mkeys (mput M p ()) := mem_keys_mput.2 (Or.inl rfl)
    have hsub : ∀ x ∈ mkeys M, x ∈ mkeys (mput M p ()) := fun x hx => mem_keys_mput.2 (Or.inr hx)
    have heok : EntOk B (XB g' v) w' e := ⟨q3, q4, fun b off eq => by
      obtain ⟨b1, b2, b3⟩ := q5 b off eq
      refine ⟨by omega, b2, fun hx => ?_⟩
      rcases hx with hx | hx
      · exact b3 hx
      · have := hvl b hx; omega⟩
    exact ⟨⟨k.hq, k.heap, k.map, hout, h.inv.push e1 a1 q1 q2 a2, perm_ents q2 (fun x hx => hold _ (h.ents x hx)) heok, fun x hx => hold _ (h.told x hx), hap, hbut, hrow⟩, hsub, fun _ => hep⟩
theorem HQ.grown {t : TypeId} {w w' : World} {h g cap n : Nat} {f : Nat → Ent} {row : Option Nat} (q : HQ t w h g cap n f) (hg : w.grownBy w' row) (hr : ∀ r, row = some r → r ≠ h ∧ r ≠ g) : HQ t w' h g cap n f := by
  refine ⟨(hg.block h q.1.lt (fun e => (hr h e.symm).1 rfl)).trans q.1, ?_, q.2.2⟩
  obtain ⟨cur, h1, h2⟩ := q.2.1
  exact ⟨cur, (hg.block g h1.lt (fun e => (hr g e.symm).2 rfl)).trans h1, h2⟩
/-- one is told -/
theorem LogSt.tell {B mm hh z1 : Nat} {W6 : World} {L : List (Int × CommitD)} {id : Int} {wr : World} {v : Value} {g cap m : Nat} {f : Nat → Ent} {M : List (Int × Unit)} {es : List Ent} (h : LogSt B mm hh z1 W6 L id wr v g cap (m + 1) f M es) (hB : W6.heap.size = B) (hmm : mm < B) (hhh : hh < B) (hne : hh ≠ mm ∧ z1 ≠ mm) {w3 w5 w6 : World} {v' : Value} {f' : Nat → Ent} (hq3 : HQ 126 w3 hh g cap m f') (hh3 : IsHeap ltE m f') (hp3 : ((f 0) :: (List.range m).map f').Perm ((List.range (m + 1)).map f)) (hb3 : But2 hh g wr w3) (hb5 : Below w3.heap.size w3 w5) (ho6 : w6.ownsRow B 69 5 v' (es.length + 1) (esVals es ++ (f 0).vals)) (hg6 : w5.grownBy w6 v.ownBlock) (ha6 : v'.ownBlock = v.ownBlock ∨ v'.ownBlock = some w5.heap.size) :
    LogSt B mm hh z1 W6 L id w6 v' g cap m f' M (es ++ [f 0]) := by
  have hvb := own_row_base h.out
  have hvl := own_row_lt h.out
  have hWs := h.but.size
  have hs3 := hb3.size
  have hs5 := hb5.size
  have hs6 := hg6.size
  have hgl := h.hq.2.1.lt
  have hml := h.map.lt
  have hnm := h.hq.ne_map h.map
  have hX : ∀ x, x < wr.heap.size → XB g v' x → XB g v x := fun x hx hk => by
    rcases hk with e | e
    · exact Or.inl e
    · rcases ha6 with e2 | e2
      · right; rw [← e2]; exact e
      · rw [e2] at e; simp only [Option.some.injEq] at e; omega
  have hblk : ∀ x, x < wr.heap.size → x ≠ hh → ¬ XB g v x → w6.heap[x]? = wr.heap[x]? := fun x hx h1 hn => by
    rw [hg6.block x (by omega) (fun e => hn (Or.inr e.symm)), hb5.block x (by omega)]
    exact hb3.block x hx h1 (fun e => hn (Or.inl e))
  have hold : ∀ e, EntOk B (XB g v) wr e → EntOk B (XB g v') w6 e := fun e he => he.keep (fun x hx hb hn => hblk x hx (by omega) hn) (by omega) hX
  have hap : ∀ r, v'.ownBlock = some r → r ≠ g := fun r hr => by
    rcases ha6 with e2 | e2
    · rw [e2] at hr; exact h.apart r hr
    · rw [e2] at hr; simp only [Option.some.injEq] at hr; omega
  have hgr : ∀ r, v.ownBlock = some r → W6.heap.size ≤ r := fun r hr => by have := hvb r hr; omega
  refine ⟨(hq3.below hb5).grown hg6 (fun r hr => ⟨by have := hvb r hr; have := hhh; omega, h.apart r hr⟩), hh3, ?_, ?_, ?_, ?_, ?_, hap, ?_, h.row⟩
  · have hM3 := MapIs.but2 h.map hnm.1 hnm.2 hb3
    have hM5 := hM3.below bools_onCells hb5
    obtain ⟨es', c, q1, q2, q3⟩ := hM5.ex
    have hl5 := hM5.lt
    exact ⟨es', c, (hg6.block mm hl5 (fun e => by have := hvb mm e.symm; omega)).trans q1, q2, q3⟩
  · rw [List.length_append, List.length_singleton, esVals_snoc]; exact ho6
  · rw [List.map_append, List.map_cons, List.map_nil]
    exact h.inv.pop h.heap hp3
  · exact perm_ents2 hp3 (fun x hx => hold _ (h.ents x hx))
  · intro e he
    rcases List.mem_append.1 he with he | he
    · exact hold _ (h.told e he)
    · rw [List.mem_singleton] at he; subst he; exact hold _ (h.ents 0 (by omega))
  · refine But3.grown (But3.trans (h.but.later h.row (But3.of_two hb3)) (But3.of_below hb5)) hg6 hgr
/-- the log's row, read -/
theorem told_row {w : World} {B n : Nat} {v : Value} {X : Nat → Prop} {es : List Ent} (ho : w.ownsRow B 69 5 v n (esVals es)) (ht : ∀ e ∈ es, EntOk B X w e) {A : Option Addr} {k : Nat} (hv : v = .slice A n k) : CRow w A (es.map Ent.c) := by
  subst hv
  refine ⟨esVals es, ?_, own_flat ho⟩
  clear ho
  induction es with
  | nil => trivial
  | cons e es ih =>
    obtain ⟨h1, h2, _⟩ := ht e List.mem_cons_self
    exact ⟨⟨e.a, e.k, rfl, h1, h2⟩, ih (fun x hx => ht x (List.mem_cons_of_mem _ hx))⟩
end Go.Proofs.Ytehneliphhgegaa.O
end
section
set_option linter.unusedVariables false
set_option linter.unusedSimpArgs false
set_option maxRecDepth 100000
namespace Go.Proofs.Ytehneliphhgegaa.O
open Go.RowKit Go.Apo Go.Shelf

theorem flat_five (w : World) (v0 v1 v2 v3 v4 : Value) (t : TypeId) : Flat (w.alloc (.cells #[v0, v1, v2, v3, v4] t)) (some ⟨w.heap.size, 0, none⟩) [v0, v1, v2, v3, v4] := fun _ => ⟨w.heap.size, 0, rfl, fun q u hq => by
  refine (blk_new w #[v0, v1, v2, v3, v4] t).cell ?_
  rw [Nat.zero_add]
  simpa using hq⟩
def LogPost (w : World) (L : List (Int × CommitD)) (id most : Int) (r : Ending) (w' : World) : Prop :=
  ∃ A k cs, r = .returned (.slice A cs.length k) ∧ cs.length ≤ k ∧ CRow w' A cs ∧ LogIs L id most cs ∧ Below w.heap.size w w'
set_option maxHeartbeats 8000000 in
theorem log_calls (w : World) (gq : Option Addr) (L : List (Int × CommitD)) (R : List CommitD) (h : GP w gq L) (hs : Sync L R) (hL : L.length ≤ 70000) (id most : Int) :
    Calls Try.prog 62 #[.pointer gq, .int .u64 id, .int .i64 most] w (LogPost w L id most) := by
  have hmm := @run_makeMap Try.prog
  obtain ⟨z, hz⟩ : ∃ z, z = w.heap.size := ⟨_, rfl⟩
  obtain ⟨W6, hW6⟩ : ∃ W6, W6 = (((((w.alloc (.cells #[.pointer gq] 42)).alloc (.cells #[] 69)).alloc (.cells #[.slice (some ⟨w.heap.size + 1, 0, none⟩) 0 0] 126)).alloc (.cells #[.pointer (some ⟨w.heap.size + 1 + 1, 0, none⟩)] 125)).alloc (.map #[] 0)).alloc (.cells #[.map (some (w.heap.size + 1 + 1 + 1 + 1))] 117) := ⟨_, rfl⟩
  have hBw : Below w.heap.size w W6 := by rw [hW6]; (repeat (first | (with_reducible exact Below.refl _ _) | (with_reducible assumption) | (with_reducible refine bel_al0 ?_ _) | (with_reducible refine bel_set ?_ (by first | (simp; done) | (simp; omega)) _) | (with_reducible refine bel_dr ?_) | (with_reducible refine bel_drn ?_ _) | (with_reducible refine bel_tr ?_ (by assumption))))
  have hz6 : W6.heap.size = z + 6 := by rw [hW6, hz]; simp
  have c0 : W6.cell? ⟨z, 0, none⟩ = some (.pointer gq) := by
    rw [hW6, hz]; exact cell_al (cell_al (cell_al (cell_al (cell_al (cell_at_new w _ _ 0 rfl) _) _) _) _) _
  have hQ0 : HQ 126 W6 (z + 1 + 1) (z + 1) 0 0 (fun _ => ⟨CommitD.zero, none, 0⟩) := by
    rw [hW6, hz]
    refine ⟨?_, ⟨#[], ?_, rfl, Nat.le_refl _, Nat.zero_le _, (fun j hj => by omega)⟩, by omega⟩
    · have := blk_new ((w.alloc (.cells #[.pointer gq] 42)).alloc (.cells #[] 69)) #[.slice (some ⟨w.heap.size + 1, 0, none⟩) 0 0] 126
      rw [World.size_alloc, World.size_alloc] at this
      exact ((this.al _).al _).al _
    · have := blk_new (w.alloc (.cells #[.pointer gq] 42)) #[] 69
      rw [World.size_alloc] at this
      exact (((this.al _).al _).al _).al _
  have c3 : W6.cell? ⟨z + 1 + 1 + 1, 0, none⟩ = some (.pointer (some ⟨z + 1 + 1, 0, none⟩)) := by
    rw [hW6, hz]
    have := cell_at_new (((w.alloc (.cells #[.pointer gq] 42)).alloc (.cells #[] 69)).alloc (.cells #[.slice (some ⟨w.heap.size + 1, 0, none⟩) 0 0] 126)) #[.pointer (some ⟨w.heap.size + 1 + 1, 0, none⟩)] 125 0 (v := .pointer (some ⟨w.heap.size + 1 + 1, 0, none⟩)) rfl
    rw [World.size_alloc, World.size_alloc, World.size_alloc] at this
    exact cell_al (cell_al this _) _
  have bM : MapIs (Value.int .u64) boolIs W6 (z + 1 + 1 + 1 + 1) [] := by
    have := mapIs_made (Value.int .u64) boolIs ((((w.alloc (.cells #[.pointer gq] 42)).alloc (.cells #[] 69)).alloc (.cells #[.slice (some ⟨w.heap.size + 1, 0, none⟩) 0 0] 126)).alloc (.cells #[.pointer (some ⟨w.heap.size + 1 + 1, 0, none⟩)] 125))
    rw [World.size_alloc, World.size_alloc, World.size_alloc, World.size_alloc] at this
    rw [hW6, hz]
    exact this.below bools_onCells (bel_al0 (Below.refl _ _) _)
  have c5 : W6.cell? ⟨z + 1 + 1 + 1 + 1 + 1, 0, none⟩ = some (.map (some (z + 1 + 1 + 1 + 1))) := by
    rw [hW6, hz]
    have := cell_at_new (((((w.alloc (.cells #[.pointer gq] 42)).alloc (.cells #[] 69)).alloc (.cells #[.slice (some ⟨w.heap.size + 1, 0, none⟩) 0 0] 126)).alloc (.cells #[.pointer (some ⟨w.heap.size + 1 + 1, 0, none⟩)] 125)).alloc (.map #[] 0)) #[.map (some (w.heap.size + 1 + 1 + 1 + 1))] 117 0 (v := .map (some (w.heap.size + 1 + 1 + 1 + 1))) rfl
    rw [World.size_alloc, World.size_alloc, World.size_alloc, World.size_alloc, World.size_alloc] at this
    exact this
  -- what a push does, wherever the walk stands
  have HPU := Lib.hid (fun (wr : World) (g cap m : Nat) (f : Nat → Ent) (M : List (Int × Unit)) (hb : But3 (z + 1 + 1 + 1 + 1) (z + 1 + 1) (z + 1) W6 wr) (hM : MapIs (Value.int .u64) boolIs wr (z + 1 + 1 + 1 + 1) M) (hq : HQ 126 wr (z + 1 + 1) g cap m f) (hh : IsHeap ltE m f) (hm : m ≤ 80000) (x : Int) =>
    have hcell : ∀ k u, W6.cell? ⟨k, 0, none⟩ = some u → k ≠ z + 1 + 1 + 1 + 1 → k ≠ z + 1 + 1 → k ≠ z + 1 → wr.cell? ⟨k, 0, none⟩ = some u := fun k u hk h0 h1 h2 => (World.cell?_of_block (w := W6) (a := ⟨k, 0, none⟩) (hb.block k (cell_lt hk) h0 h1 h2)).trans hk
    push1_calls wr z (z + 1 + 1 + 1 + 1 + 1) (z + 1 + 1 + 1) (z + 1 + 1 + 1 + 1) (z + 1 + 1) g cap m gq f L M (hcell _ _ c0 (by omega) (by omega) (by omega)) (h.below (But3.below hBw (Nat.le_refl _) (by omega) (by omega) (by omega) hb)) (hcell _ _ c5 (by omega) (by omega) (by omega)) hM (hcell _ _ c3 (by omega) (by omega) (by omega)) (by omega) hq hh hm x)
  unfold PushPost at HPU
  have HC3 := Lib.hid (fun (wr : World) (hb : But3 (z + 1 + 1 + 1 + 1) (z + 1 + 1) (z + 1) W6 wr) => (World.cell?_of_block (w := W6) (a := ⟨z + 1 + 1 + 1, 0, none⟩) (hb.block (z + 1 + 1 + 1) (cell_lt c3) (by omega) (by omega) (by omega))).trans c3)
  have HBW := Lib.hid hBw
  have HBEL := Lib.hid (fun (wr : World) (hb : But3 (z + 1 + 1 + 1 + 1) (z + 1 + 1) (z + 1) W6 wr) => But3.below hBw (Nat.le_refl _) (by omega) (by omega) (by omega) hb)
  have HST0 : Hid (LogSt (z + 6) (z + 1 + 1 + 1 + 1) (z + 1 + 1) (z + 1) W6 L id W6 (.slice none 0 0) (z + 1) 0 0 (fun _ => ⟨CommitD.zero, none, 0⟩) [] []) :=
    ⟨hQ0, IsHeap.zero, bM, World.ownsRow_nil _ _ _ _, LogInv.zero _ _ _, (fun k hk => by omega), (fun e he => by cases he), (fun r hr => by cases hr), But3.refl _ _ _ _, Or.inl rfl⟩
  have HQ0 := Lib.hid hQ0
  have HBM := Lib.hid bM
  have HS := Lib.hid hs
  have HZ6 := Lib.hid hz6
  obtain ⟨N, hN⟩ : ∃ N, N = L.length := ⟨_, rfl⟩
  rw [← hN] at hL
  have HN := Lib.hid hN
  have hta := assertC
  clear h hs hQ0 bM c0 c3 c5 hBw hz6 hN
  go_enter Try.func62, Try.ntmps62
  go_wp2_with fail
  rw [← hW6, ← hz]
  clear hmm hW6
  have HZ := Lib.hid hz; clear hz
  refine (HPU.out W6 (z + 1) 0 0 _ [] (But3.refl _ _ _ _) HBM.out HQ0.out IsHeap.zero (by omega) id).mono ?_
  rintro e w1 ⟨M1, n1, g1, cap1, f1, hp1⟩
  obtain rfl := hp1.r
  obtain ⟨hst1, _, hin1⟩ := HST0.out.push HZ6.out (by omega) (by omega) hp1 (fun hq => ⟨.self hq, (fun a ha => by cases ha)⟩)
  have HST1 := Lib.hid hst1
  have HIN1 := Lib.hid hin1
  clear hst1 hin1 hp1 HBM HQ0 HST0
  go_wp2_with fail
  go_loopg [10] N (fun gg v10 wr => ∃ (A : Option Addr) (n k g cap m : Nat) (f : Nat → Ent) (M : List (Int × Unit)) (es : List Ent), v10 = .slice A n k ∧ n ≤ k ∧ Hid (es.length = n) ∧ N - n ≤ gg ∧ (n : Int) ≤ max most 0 ∧ Hid (LogSt (z + 6) (z + 1 + 1 + 1 + 1) (z + 1 + 1) (z + 1) W6 L id wr (.slice A n k) g cap m f M es) ∧ Hid (Shut (es.map Ent.c) M L) ∧ Hid ((mget L id).isSome = true → id ∈ mkeys M))
  case atStart => exact ⟨none, 0, 0, g1, cap1, n1, f1, M1, [], rfl, Nat.le_refl _, rfl, by omega, by omega, HST1, (fun a ha => by cases ha), HIN1⟩
  case round =>
    obtain ⟨A, n, k, g, cap, m, f, M, es, rfl, hnk, hen, hgg, hfew, hST, hSH, hIN⟩ := hrel
    obtain ⟨wo, rfl⟩ : ∃ wo : World, wo = wr := ⟨_, rfl⟩
    have c3 := HC3.out wo hST.out.but
    have hc3l := cell_lt c3
    have cq := hST.out.hq.1.one.1
    have hcql := cell_lt cq
    have hlen := hST.out.inv.len
    rw [List.length_map, hen.out, ← HN.out] at hlen
    have hlen1 := hlen.1
    clear hlen
    have hrow := hST.out.out
    rw [hen.out] at hrow
    have HCR := Lib.hid (told_row hrow hST.out.told rfl)
    have HLE : Hid ((es.map Ent.c).length = n) := by show _ = _; rw [List.length_map, hen.out]
    clear hrow
    cases m with
    | zero =>
      have HFIN := Lib.hid (hST.out.inv.fin HS.out hSH.out hIN.out (by rw [List.length_map, hen.out]; exact hfew) (Or.inl rfl))
      go_wp2_with (go_at_call 97; refine (qlen_calls _ _ _ _).mono ?_; rintro e w2 ⟨rfl, hb2⟩)
      go_ret
      exact ⟨A, k, es.map Ent.c, by rw [HLE.out]; rfl, by rw [HLE.out]; exact hnk, HCR.out.below hb2, HFIN.out, bel_tr (HBEL.out _ hST.out.but) hb2⟩
    | succ m =>
      have hmpos : (0 : Int) < (m : Int) + 1 := by omega
      by_cases hlt : (n : Int) < most
      · have hlt' : decide ((n : Int) < most) = true := by simpa using hlt
        have HPO := Lib.hid (fun w2 (hb : Below wo.heap.size wo w2) => hpop_calls w2 (z + 1 + 1) g cap m f (hST.out.hq.below hb) (by omega) hST.out.heap)
        unfold PopPost at HPO
        obtain ⟨x, hx⟩ : ∃ x, x = f 0 := ⟨_, rfl⟩
        rw [← hx] at HPO
        have HX := Lib.hid hx; clear hx
        obtain ⟨c, hc⟩ : ∃ c, c = x.c := ⟨_, rfl⟩
        obtain ⟨fa, hfa⟩ : ∃ fa, fa = x.a := ⟨_, rfl⟩
        obtain ⟨fk, hfk⟩ : ∃ fk, fk = x.k := ⟨_, rfl⟩
        rw [← hc, ← hfa, ← hfk] at HPO
        obtain ⟨np, hnp⟩ : ∃ np, np = c.par.length := ⟨_, rfl⟩
        rw [← hnp] at HPO
        have HVALS : Hid ((f 0).vals = [.int .u64 c.id, .slice fa np fk, .int .u64 c.gen, .int .u64 c.root, .string c.text]) := by
          show _ = _
          rw [← HX.out, hnp, hfa, hfk, hc]; rfl
        have hnp2 : np ≤ 2 := by
          obtain ⟨_, h2, h3⟩ := hST.out.inv.mem HS.out (List.mem_append_right _ (CP_mem (f := f) (Nat.succ_pos m)))
          obtain ⟨d, hd⟩ := Option.isSome_iff_exists.1 h3.of
          rw [gGet_at hd] at h2
          have := (HS.out.two _ d hd).1
          rw [hnp, hc, HX.out, h2]; exact this
        have HC := Lib.hid hc
        have HFA := Lib.hid hfa
        have HNP := Lib.hid hnp
        clear hc hfa hfk hnp
        have hOB := own_row_lt hST.out.out
        have HOB := Lib.hid hOB; clear hOB
        have hout0 := hST.out.out
        rw [hen.out] at hout0
        have HOUT := Lib.hid hout0; clear hout0
        have hHHb : Hid (∀ b, (Value.slice A n k).ownBlock = some b → b ≠ z + 1 + 1 ∧ b ≠ g ∧ z + 6 ≤ b) := fun b hb => ⟨by have := own_row_base hST.out.out b hb; omega, hST.out.apart b hb, own_row_base hST.out.out b hb⟩
        have hzw : z + 6 ≤ wo.heap.size := by have := hST.out.but.size; have := HZ6.out; omega
        go_wp2_with (first
          | (go_at_call 97; refine (qlen_calls _ _ _ _).mono ?_; rintro e w2 ⟨rfl, hb2⟩; have c32 := cell_bel c3 hb2; have hc32l := cell_lt c32)
          | (go_at_call 98; refine (HPO.out _ hb2).mono ?_; rintro e w3 ⟨f3, rfl, hq3, hh3, hp3, hb3⟩; have HQ3 := Lib.hid hq3; clear hq3; have HH3 := Lib.hid hh3; clear hh3; have HP3 := Lib.hid hp3; clear hp3; have hz3 : wo.heap.size ≤ w3.heap.size := Nat.le_trans hb2.size hb3.size; have HB3 := Lib.hid ((But2.of_below hb2).trans hb3); clear hb3; have HO3 := Lib.hid (own_keep HOUT.out (fun b hb hl => HB3.out.block b hl (hHHb.out b hb).1 (hHHb.out b hb).2.1)))
          | (at_builtin; refine wpl_append rfl _ _ 40 rfl (z + 6) 69 _ 5 64 Try.underlying40 infoCommit rfl (by decide) _ n (esVals es) rfl (own_below HO3.out (bel_al0 (bel_al0 (Below.refl _ _) _) _)) (some ⟨w3.heap.size + 1, 0, none⟩) 1 1 [.int .u64 c.id, .slice fa np fk, .int .u64 c.gen, .int .u64 c.root, .string c.text] rfl rfl (by have := flat_five (w3.alloc (.cells #[.int .u64 c.id, .slice fa np fk, .int .u64 c.gen, .int .u64 c.root, .string c.text] 69)) (.int .u64 c.id) (.slice fa np fk) (.int .u64 c.gen) (.int .u64 c.root) (.string c.text) 69; simpa using this) (by intro u hu; simp at hu; rcases hu with rfl | rfl | rfl | rfl | rfl <;> rfl) (by unfold maxLen; omega) (by omega) (by simp; omega) ?_; intro v' w6 ho6 hg6 hat6; obtain ⟨A7, k7, rfl, hk7⟩ := own_form ho6; have HO6 := Lib.hid ho6; clear ho6; have B6 : Blk w6 w3.heap.size #[.int .u64 c.id, .slice fa np fk, .int .u64 c.gen, .int .u64 c.root, .string c.text] 69 := (hg6.block w3.heap.size (by simp; omega) (fun e => by have := HOB.out _ e.symm; omega)).trans ((blk_new w3 _ _).al _); have hbcl := B6.lt; obtain ⟨x0, x1, x2, x3, x4, xf⟩ := B6.five; clear B6 x0 x2 x3 x4 xf; have HG6 := Lib.hid hg6; clear hg6; have HAT6 := Lib.hid hat6; clear hat6))
        have HT : Hid (LogSt (z + 6) (z + 1 + 1 + 1 + 1) (z + 1 + 1) (z + 1) W6 L id w6 (.slice A7 (n + 1) k7) g cap m f3 M (es ++ [x])) := by
          have h6 := HO6.out
          rw [← HVALS.out] at h6
          have hp3 := HP3.out
          rw [HX.out] at hp3 ⊢
          have := LogSt.tell hST.out HZ6.out (by omega) (by omega) (by omega) HQ3.out HH3.out hp3 HB3.out (bel_al0 (bel_al0 (Below.refl _ _) _) _) (by rw [hen.out]; exact h6) HG6.out HAT6.out
          exact this
        have hes2 : Hid ((es ++ [x]).length = n + 1) := by show _ = _; rw [List.length_append, hen.out]; rfl
        have hmap2 : Hid ((es ++ [x]).map Ent.c = es.map Ent.c ++ [c]) := by show _ = _; rw [List.map_append, HC.out]; rfl
        clear HO6 HG6 HAT6 HO3 HQ3 HH3 HP3 HB3 HVALS HPO HOB HOUT hHHb hST c3 cq hcql hc3l
        go_loopg [50] np (fun gg v50 wq => ∃ (j g cap m : Nat) (f : Nat → Ent) (M : List (Int × Unit)), j ≤ np ∧ np - j ≤ gg ∧ v50 = .int .i64 j ∧ Hid (LogSt (z + 6) (z + 1 + 1 + 1 + 1) (z + 1 + 1) (z + 1) W6 L id wq (.slice A7 (n + 1) k7) g cap m f M (es ++ [x])) ∧ Hid (Shut (es.map Ent.c) M L) ∧ Hid (∀ p ∈ c.par.take j, (mget L p).isSome = true → p ∈ mkeys M) ∧ Hid ((mget L id).isSome = true → id ∈ mkeys M))
        case atStart => exact ⟨0, g, cap, m, f3, M, Nat.zero_le _, by omega, rfl, HT, hSH, (fun p hp => by cases hp), hIN⟩
        case round =>
          obtain ⟨j, g, cap, m, f, M, hj, hgj, rfl, hST, hSH, hTK, hIN⟩ := hrel
          obtain ⟨wq, rfl⟩ : ∃ wq : World, wq = wr := ⟨_, rfl⟩
          have hlen := hST.out.inv.len
          rw [List.length_map, hes2.out, ← HN.out] at hlen
          have hlen1 := hlen.1
          clear hlen
          by_cases hlj : j < np
          · obtain ⟨pj, hpj⟩ : ∃ pj, c.par[j]? = some pj := ⟨_, List.getElem?_eq_getElem (by rw [← HNP.out]; exact hlj)⟩
            have hfx := (hST.out.told x (List.mem_append_right _ (List.mem_singleton.2 rfl))).1
            rw [← HFA.out, ← HC.out] at hfx
            obtain ⟨bb, off, rfl, cj⟩ := hfx.at_ (nums_at hpj)
            have hbbl := cell_lt cj
            have htk : Hid (c.par.take (j + 1) = c.par.take j ++ [pj]) := by show _ = _; rw [List.take_add_one, hpj]; rfl
            have hmem : Hid (pj ∈ c.par) := List.mem_of_getElem? hpj
            have HPi := Lib.hid (HPU.out wq g cap m f M hST.out.but hST.out.map hST.out.hq hST.out.heap (by omega) pj)
            clear hfx hpj
            go_wp2_with (go_at_call 95; refine HPi.out.mono ?_; rintro e w8 ⟨M8, n8, g8, cap8, f8, hp8⟩; obtain rfl := hp8.r; have HP8 := Lib.hid hp8; clear hp8)
            go_roundg (np - (j + 1))
            case measure => omega
            case rel =>
              obtain ⟨t1, t2, t3⟩ := hST.out.push HZ6.out (by omega) (by omega) HP8.out (fun hq => by
                have hi := hST.out.inv
                rw [hmap2.out] at hi ⊢
                exact hi.parent HS.out hmem.out hq)
              refine ⟨j + 1, g8, cap8, n8, f8, M8, by omega, Nat.le_refl _, by go_num, t1, fun a ha p hp hq => t2 _ (hSH.out a ha p hp hq), fun p hp hq => ?_, fun hq => t2 _ (hIN.out hq)⟩
              rw [htk.out] at hp
              rcases List.mem_append.1 hp with hp | hp
              · exact t2 _ (hTK.out p hp hq)
              · rw [List.mem_singleton] at hp; subst hp; exact t3 hq
          · have hjn : j = np := by omega
            have htk : c.par.take j = c.par := by rw [List.take_of_length_le]; have := HNP.out; omega
            have hSH2 : Hid (Shut ((es ++ [x]).map Ent.c) M L) := by
              show Shut _ _ _
              rw [hmap2.out]
              intro a ha p hp hq
              rcases List.mem_append.1 ha with ha | ha
              · exact hSH.out a ha p hp hq
              · rw [List.mem_singleton] at ha; subst ha
                exact hTK.out p (by rw [htk]; exact hp) hq
            clear htk hjn
            go_wp2_with fail
            go_roundg (N - (n + 1))
            case measure => omega
            case rel => exact ⟨A7, n + 1, k7, g, cap, m, f, M, es ++ [x], rfl, hk7, hes2, Nat.le_refl _, by omega, hST, hSH2, hIN⟩
      · have HFIN := Lib.hid (hST.out.inv.fin HS.out hSH.out hIN.out (by rw [List.length_map, hen.out]; exact hfew) (Or.inr (by rw [List.length_map, hen.out]; omega)))
        have hlt' : decide ((n : Int) < most) = false := by simpa using hlt
        go_wp2_with (go_at_call 97; refine (qlen_calls _ _ _ _).mono ?_; rintro e w2 ⟨rfl, hb2⟩)
        go_ret
        exact ⟨A, k, es.map Ent.c, by rw [HLE.out]; rfl, by rw [HLE.out]; exact hnk, HCR.out.below hb2, HFIN.out, bel_tr (HBEL.out _ hST.out.but) hb2⟩
end Go.Proofs.Ytehneliphhgegaa.O
end
