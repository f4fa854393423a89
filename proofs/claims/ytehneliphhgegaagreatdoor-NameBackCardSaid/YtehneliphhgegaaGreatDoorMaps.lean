/- The map of a Go program as a list of pairs: laws on looking up, laying, striking, counting and ranging, over any program. -/
import Derived.WalkKit
import Derived.Maps.Own
import Derived.Maps.OwnOps
import Derived.Maps.OwnSet
import Derived.Maps.RangeRun
import Derived.RangeFuncOwn
set_option linter.unusedVariables false
set_option linter.unusedSimpArgs false
set_option linter.unusedSectionVars false
namespace Go.Apo
open Go.RowKit Go.MapKept
open Go.ChangeMaps (setBlock)

/-! ### lists of pairs -/
section
variable {κ ν : Type} [DecidableEq κ]

def mget (L : List (κ × ν)) (k : κ) : Option ν := (L.find? (fun p => p.1 = k)).map (·.2)
def mput : List (κ × ν) → κ → ν → List (κ × ν)
  | [], k, v => [(k, v)]
  | p :: L, k, v => if p.1 = k then (k, v) :: L else p :: mput L k v
def mdel (L : List (κ × ν)) (k : κ) : List (κ × ν) := L.filter (fun p => p.1 ≠ k)
def mkeys (L : List (κ × ν)) : List κ := L.map (·.1)

theorem mget_nil (k : κ) : mget ([] : List (κ × ν)) k = none := rfl
theorem mget_cons (p : κ × ν) (L : List (κ × ν)) (k : κ) : mget (p :: L) k = if p.1 = k then some p.2 else mget L k := by
  unfold mget
  rw [List.find?_cons]
  by_cases h : p.1 = k <;> simp [h]
theorem mget_none {L : List (κ × ν)} {k : κ} : mget L k = none ↔ k ∉ mkeys L := by
  induction L with
  | nil => simp [mget_nil, mkeys]
  | cons p L ih =>
    rw [mget_cons]
    by_cases h : p.1 = k
    · subst h; simp [mkeys]
    · rw [if_neg h, ih]; simp [mkeys, Ne.symm h]
theorem mget_mem {L : List (κ × ν)} {k : κ} {v : ν} (h : mget L k = some v) : (k, v) ∈ L := by
  induction L with
  | nil => cases h
  | cons p L ih =>
    rw [mget_cons] at h
    by_cases e : p.1 = k
    · rw [if_pos e] at h; cases h; subst e; exact List.mem_cons_self ..
    · rw [if_neg e] at h; exact List.mem_cons_of_mem _ (ih h)
theorem mget_of_mem {L : List (κ × ν)} {k : κ} {v : ν} (hn : (mkeys L).Nodup) (h : (k, v) ∈ L) : mget L k = some v := by
  induction L with
  | nil => cases h
  | cons p L ih =>
    rw [mget_cons]
    simp only [mkeys, List.map_cons, List.nodup_cons] at hn
    rcases List.mem_cons.1 h with e | h
    · subst e; simp
    · rw [if_neg, ih hn.2 h]
      intro e; subst e; exact hn.1 (List.mem_map.2 ⟨_, h, rfl⟩)
theorem mput_new {L : List (κ × ν)} {k : κ} (v : ν) (h : k ∉ mkeys L) : mput L k v = L ++ [(k, v)] := by
  induction L with
  | nil => rfl
  | cons p L ih =>
    simp only [mkeys, List.map_cons, List.mem_cons, not_or] at h
    simp only [mput]
    rw [if_neg (Ne.symm h.1), ih h.2]; rfl
theorem keys_mput_old {L : List (κ × ν)} {k : κ} (v : ν) (h : k ∈ mkeys L) : mkeys (mput L k v) = mkeys L := by
  induction L with
  | nil => cases h
  | cons p L ih =>
    simp only [mput]
    by_cases e : p.1 = k
    · rw [if_pos e]; subst e; rfl
    · rw [if_neg e]
      simp only [mkeys, List.map_cons, List.mem_cons] at h ⊢
      rcases h with h | h
      · exact absurd h.symm e
      · exact congrArg _ (ih h)
theorem keys_mput_new {L : List (κ × ν)} {k : κ} (v : ν) (h : k ∉ mkeys L) : mkeys (mput L k v) = mkeys L ++ [k] := by
  rw [mput_new v h]; simp [mkeys]
theorem mem_keys_mput {L : List (κ × ν)} {k x : κ} {v : ν} : x ∈ mkeys (mput L k v) ↔ x = k ∨ x ∈ mkeys L := by
  by_cases h : k ∈ mkeys L
  · rw [keys_mput_old v h]
    constructor
    · exact Or.inr
    · rintro (rfl | h')
      · exact h
      · exact h'
  · rw [keys_mput_new v h]
    simp only [List.mem_append, List.mem_singleton]
    exact Or.comm
theorem nodup_mput {L : List (κ × ν)} {k : κ} (v : ν) (h : (mkeys L).Nodup) : (mkeys (mput L k v)).Nodup := by
  by_cases hk : k ∈ mkeys L
  · rw [keys_mput_old v hk]; exact h
  · rw [keys_mput_new v hk]
    refine List.nodup_append.2 ⟨h, by simp, ?_⟩
    intro a ha b hb e
    simp only [List.mem_singleton] at hb
    subst hb; subst e; exact hk ha
theorem mget_mput (L : List (κ × ν)) (k x : κ) (v : ν) : mget (mput L k v) x = if x = k then some v else mget L x := by
  induction L with
  | nil => simp only [mput, mget_cons, mget_nil]; by_cases h : x = k <;> simp [h, Ne.symm]
  | cons p L ih =>
    simp only [mput]
    by_cases e : p.1 = k
    · rw [if_pos e, mget_cons, mget_cons]
      by_cases h : x = k
      · subst h; simp
      · simp [h, Ne.symm h, e]
    · rw [if_neg e, mget_cons, mget_cons, ih]
      by_cases h : p.1 = x
      · subst h; simp [e]
      · simp [h]
theorem mget_mdel (L : List (κ × ν)) (k x : κ) : mget (mdel L k) x = if x = k then none else mget L x := by
  induction L with
  | nil => simp [mdel, mget_nil]
  | cons p L ih =>
    unfold mdel at ih ⊢
    by_cases e : p.1 = k
    · rw [List.filter_cons_of_neg (by simpa using e), ih, mget_cons]
      by_cases h : x = k
      · simp [h]
      · simp [h, e, Ne.symm h]
    · rw [List.filter_cons_of_pos (by simpa using e), mget_cons, mget_cons, ih]
      by_cases h : p.1 = x
      · subst h; simp [e]
      · simp [h]
theorem mem_keys_mdel {L : List (κ × ν)} {k x : κ} : x ∈ mkeys (mdel L k) ↔ x ≠ k ∧ x ∈ mkeys L := by
  simp only [mkeys, mdel, List.mem_map, List.mem_filter, decide_eq_true_eq]
  constructor
  · rintro ⟨p, ⟨hp, hne⟩, rfl⟩; exact ⟨hne, p, hp, rfl⟩
  · rintro ⟨hne, p, hp, rfl⟩; exact ⟨p, ⟨hp, hne⟩, rfl⟩
theorem nodup_mdel {L : List (κ × ν)} {k : κ} (h : (mkeys L).Nodup) : (mkeys (mdel L k)).Nodup :=
  (List.filter_sublist.map _).nodup h
theorem length_mput_old {L : List (κ × ν)} {k : κ} (v : ν) (h : k ∈ mkeys L) : (mput L k v).length = L.length := by
  have := congrArg List.length (keys_mput_old v h); simpa [mkeys] using this
end

/-! ### the block -/
section
variable {κ ν : Type}

/-- entry by entry: the key, and how the value stands for what it is -/
def Ents (ek : κ → Value) (R : ν → Value → Prop) : List MapEntry → List (κ × ν) → Prop
  | [], [] => True
  | e :: es, p :: L => e.key = ek p.1 ∧ R p.2 e.val ∧ Ents ek R es L
  | _, _ => False

theorem Ents.length {ek : κ → Value} {R : ν → Value → Prop} : ∀ {es : List MapEntry} {L : List (κ × ν)}, Ents ek R es L → es.length = L.length
  | [], [], _ => rfl
  | _ :: _, _ :: _, h => congrArg (· + 1) (Ents.length h.2.2)
theorem Ents.at_ {ek : κ → Value} {R : ν → Value → Prop} : ∀ {es : List MapEntry} {L : List (κ × ν)}, Ents ek R es L → ∀ {j : Nat} {e : MapEntry}, es[j]? = some e → ∃ p, L[j]? = some p ∧ e.key = ek p.1 ∧ R p.2 e.val
  | [], [], _, j, e, h => by simp at h
  | x :: es, p :: L, H, 0, e, h => by simp at h; subst h; exact ⟨p, rfl, H.1, H.2.1⟩
  | x :: es, p :: L, H, j + 1, e, h => by
    obtain ⟨q, h1, h2⟩ := Ents.at_ H.2.2 (show es[j]? = some e by simpa using h)
    exact ⟨q, by simpa using h1, h2⟩
theorem Ents.mem {ek : κ → Value} {R : ν → Value → Prop} {es : List MapEntry} {L : List (κ × ν)} (h : Ents ek R es L) {p : κ × ν} (hp : p ∈ L) : ∃ e ∈ es, e.key = ek p.1 ∧ R p.2 e.val := by
  induction L generalizing es with
  | nil => cases hp
  | cons q L ih =>
    match es, h with
    | e :: es, ⟨h1, h2, h3⟩ =>
      rcases List.mem_cons.1 hp with rfl | hp
      · exact ⟨e, List.mem_cons_self .., h1, h2⟩
      · obtain ⟨e', he, h'⟩ := ih h3 hp
        exact ⟨e', List.mem_cons_of_mem _ he, h'⟩
theorem Ents.mono {ek : κ → Value} {R R' : ν → Value → Prop} (hR : ∀ v x, R v x → R' v x) : ∀ {es : List MapEntry} {L : List (κ × ν)}, Ents ek R es L → Ents ek R' es L
  | [], [], _ => trivial
  | _ :: _, _ :: _, h => ⟨h.1, hR _ _ h.2.1, Ents.mono hR h.2.2⟩
theorem Ents.push {ek : κ → Value} {R : ν → Value → Prop} {key val : Value} {k : κ} {v : ν} {b : Nat} (hk : key = ek k) (hv : R v val) : ∀ {es : List MapEntry} {L : List (κ × ν)}, Ents ek R es L → Ents ek R (es ++ [{ key, val, born := b }]) (L ++ [(k, v)])
  | [], [], _ => ⟨hk, hv, trivial⟩
  | _ :: _, _ :: _, h => ⟨h.1, h.2.1, Ents.push hk hv h.2.2⟩

variable [DecidableEq κ]

/-- the law of a key's type -/
structure KeyT (P : Program) (kt : TypeId) (ek : κ → Value) : Prop where
  ex : ∃ d, P.underlying kt = some d ∧ ∀ k, IsKey d (ek k)
  inj : ∀ a b, ek a = ek b → a = b

theorem keyT_string {P : Program} {kt : TypeId} (h : P.underlying kt = some .string) : KeyT P kt Value.string := ⟨⟨_, h, fun _ => trivial⟩, fun _ _ h => by cases h; rfl⟩
theorem keyT_int {P : Program} {kt : TypeId} {q : IntKind} (h : P.underlying kt = some (.int q)) : KeyT P kt (Value.int q) := ⟨⟨_, h, fun _ => rfl⟩, fun _ _ h => by cases h; rfl⟩

/-- m is a map's block that holds these pairs -/
structure MapIs (ek : κ → Value) (R : World → ν → Value → Prop) (w : World) (m : Nat) (L : List (κ × ν)) : Prop where
  ex : ∃ es c, w.heap[m]? = some (.map es c) ∧ Stamped es c ∧ Ents ek (R w) es.toList L

/-- what is said of a value hangs on rows of cells alone -/
def OnCells (R : World → ν → Value → Prop) : Prop :=
  ∀ (w w' : World) (v : ν) (x : Value), (∀ (b : Nat) (o : Obj), w.heap[b]? = some o → o.isCells = true → w'.heap[b]? = some o) → R w v x → R w' v x

theorem onCells_plain (R : ν → Value → Prop) : OnCells (fun _ => R) := fun _ _ _ _ _ h => h

variable {P : Program} {kt : TypeId} {ek : κ → Value} {R : World → ν → Value → Prop} {w : World} {m : Nat} {L : List (κ × ν)}

theorem MapIs.lt (h : MapIs ek R w m L) : m < w.heap.size := by
  obtain ⟨es, c, hb, _⟩ := h.ex
  exact (Array.getElem?_eq_some_iff.1 hb).1
theorem MapIs.notCells (h : MapIs ek R w m L) : ∃ o : Obj, w.heap[m]? = some o ∧ o.isCells = false := by
  obtain ⟨es, c, hb, _⟩ := h.ex
  exact ⟨_, hb, rfl⟩

theorem MapIs.nodup (K : KeyT P kt ek) (h : MapIs ek R w m L) : (mkeys L).Nodup := by
  obtain ⟨es, c, _, hs, he⟩ := h.ex
  clear h
  have h3 := hs.2.2
  have e : es.toList.map (·.key) = (mkeys L).map ek := by
    clear h3 hs
    obtain ⟨l, hl⟩ : ∃ l, l = es.toList := ⟨_, rfl⟩
    rw [← hl] at he ⊢
    clear hl
    induction L generalizing l with
    | nil => match l, he with | [], _ => rfl
    | cons p L ih =>
      match l, he with
      | x :: l, ⟨h1, _, h2⟩ => simp only [List.map_cons, mkeys, h1]; exact congrArg _ (ih (l := l) h2)
  rw [e] at h3
  exact List.Pairwise.imp (fun h e => h (congrArg ek e)) (List.pairwise_map.1 h3)

/-- nothing of the map has turned -/
theorem MapIs.keep {w' : World} (hR : OnCells R) (h : MapIs ek R w m L) (hb : w'.heap[m]? = w.heap[m]?)
    (hc : ∀ (b : Nat) (o : Obj), w.heap[b]? = some o → o.isCells = true → w'.heap[b]? = some o) : MapIs ek R w' m L := by
  obtain ⟨es, c, h1, hs, he⟩ := h.ex
  exact ⟨es, c, hb.trans h1, hs, he.mono (fun v x => hR w w' v x hc)⟩

theorem MapIs.below {w' : World} (hR : OnCells R) (h : MapIs ek R w m L) (hb : Below w.heap.size w w') : MapIs ek R w' m L :=
  h.keep hR (hb.block _ h.lt) (fun b o ho _ => (hb.block b (Array.getElem?_eq_some_iff.1 ho).1).trans ho)

/-- where the key stands -/
theorem find_in (K : KeyT P kt ek) (k : κ) (es : List MapEntry) {Rv : ν → Value → Prop} (he : Ents ek Rv es L) (hn : (mkeys L).Nodup) (w : World) :
    ((Instr.findKey kt (ek k) es).run P w = .ok none w ∧ mget L k = none ∧ ∀ x ∈ es, x.key ≠ ek k) ∨
    ∃ j e v, (Instr.findKey kt (ek k) es).run P w = .ok (some (j, e.val)) w ∧ es[j]? = some e ∧ e.key = ek k ∧ L[j]? = some (k, v) ∧ mget L k = some v ∧ Rv v e.val := by
  obtain ⟨d, hd, hk⟩ := K.ex
  have hks : ∀ x ∈ es, IsKey d x.key := fun x hx => by
    obtain ⟨j, hj⟩ := List.mem_iff_getElem?.1 hx
    obtain ⟨p, _, h2, _⟩ := he.at_ hj
    rw [h2]; exact hk _
  rcases findNow_spec (hk k) es 0 hks with ⟨h1, h2⟩ | ⟨j, e, h1, h2, h3⟩
  · refine Or.inl ⟨run_findKey hd h1, mget_none.2 (fun hm => ?_), h2⟩
    obtain ⟨p, hp, rfl⟩ := List.mem_map.1 hm
    obtain ⟨e, he', hke, _⟩ := he.mem hp
    exact h2 e he' hke
  · obtain ⟨p, hp1, hp2, hp3⟩ := he.at_ h2
    have hpk : p.1 = k := K.inj _ _ (hp2.symm.trans h3)
    subst hpk
    exact Or.inr ⟨j, e, p.2, by simpa using run_findKey hd h1, h2, h3, hp1, mget_of_mem hn (List.mem_of_getElem? hp1), hp3⟩

theorem MapIs.find (K : KeyT P kt ek) (h : MapIs ek R w m L) {t et : TypeId} (ht : P.underlying t = some (.map kt et)) (k : κ) :
    (mget L k = none ∧ ∀ ok z, (zeroValue et).run P w = .ok z w → (Instr.lookup t (.map (some m)) (ek k) ok).run P w = .ok (if ok then .tuple #[z, .bool false] else z) w) ∨
    ∃ v x, mget L k = some v ∧ R w v x ∧ ∀ ok, (Instr.lookup t (.map (some m)) (ek k) ok).run P w = .ok (if ok then .tuple #[x, .bool true] else x) w := by
  have hn := h.nodup K
  obtain ⟨es, c, hb, hs, he⟩ := h.ex
  obtain ⟨d, hd, hk⟩ := K.ex
  rcases find_in K k es.toList he hn w with ⟨h1, h2, _⟩ | ⟨j, e, v, h1, h2, _, _, h5, h6⟩
  · refine Or.inl ⟨h2, fun ok z hz => ?_⟩
    simp [Instr.lookup, run_underlying ht, MapKept.run_getObj_map hb, run_checkKey hd (hk k), h1, hz, Result.andThen]
  · refine Or.inr ⟨v, e.val, h5, h6, fun ok => ?_⟩
    simp [Instr.lookup, run_underlying ht, MapKept.run_getObj_map hb, run_checkKey hd (hk k), h1, Result.andThen]

/-- the same, said of every world that has the map's block as it is here -/
theorem MapIs.findAll (K : KeyT P kt ek) (h : MapIs ek R w m L) {t et : TypeId} (ht : P.underlying t = some (.map kt et)) (k : κ) :
    (mget L k = none ∧ ∀ z, (∀ W : World, (zeroValue et).run P W = .ok z W) → ∀ W : World, W.heap[m]? = w.heap[m]? → ∀ ok, (Instr.lookup t (.map (some m)) (ek k) ok).run P W = .ok (if ok then .tuple #[z, .bool false] else z) W) ∨
    ∃ v x, mget L k = some v ∧ R w v x ∧ ∀ W : World, W.heap[m]? = w.heap[m]? → ∀ ok, (Instr.lookup t (.map (some m)) (ek k) ok).run P W = .ok (if ok then .tuple #[x, .bool true] else x) W := by
  have hn := h.nodup K
  obtain ⟨es, c, hb, hs, he⟩ := h.ex
  obtain ⟨d, hd, hk⟩ := K.ex
  rcases find_in K k es.toList he hn w with ⟨h1, h2, _⟩ | ⟨j, e, v, h1, h2, h3, h4, h5, h6⟩
  · refine Or.inl ⟨h2, fun z hz W hW ok => ?_⟩
    rcases find_in K k es.toList he hn W with ⟨h1', _⟩ | ⟨j', e', v', h1', _, _, _, h5', _⟩
    · simp [Instr.lookup, run_underlying ht, MapKept.run_getObj_map (hW.trans hb), run_checkKey hd (hk k), h1', hz W, Result.andThen]
    · rw [h2] at h5'; cases h5'
  · refine Or.inr ⟨v, e.val, h5, h6, fun W hW ok => ?_⟩
    rcases find_in K k es.toList he hn W with ⟨_, h2', _⟩ | ⟨j', e', v', h1', h2', h3', _, _, _⟩
    · rw [h5] at h2'; cases h2'
    · have hee : e' = e := by
        have hkeys := (stamped_iff es c).1 hs
        have hpw := hkeys.2.2
        rcases Nat.lt_trichotomy j j' with hlt | heq | hlt
        · obtain ⟨hj1, e1⟩ := List.getElem?_eq_some_iff.1 h2
          obtain ⟨hj2, e2⟩ := List.getElem?_eq_some_iff.1 h2'
          have := List.pairwise_iff_getElem.1 hpw j j' hj1 hj2 hlt
          rw [e1, e2, h3, h3'] at this
          exact absurd rfl this
        · subst heq; rw [h2] at h2'; cases h2'; rfl
        · obtain ⟨hj1, e1⟩ := List.getElem?_eq_some_iff.1 h2
          obtain ⟨hj2, e2⟩ := List.getElem?_eq_some_iff.1 h2'
          have := List.pairwise_iff_getElem.1 hpw j' j hj2 hj1 hlt
          rw [e1, e2, h3, h3'] at this
          exact absurd rfl this
      rw [hee] at h1'
      simp [Instr.lookup, run_underlying ht, MapKept.run_getObj_map (hW.trans hb), run_checkKey hd (hk k), h1', Result.andThen]

theorem setBlock_cells {w : World} {m : Nat} {o o' : Obj} (hb : w.heap[m]? = some o) (hc : o.isCells = false) : ∀ (b : Nat) (x : Obj), w.heap[b]? = some x → x.isCells = true → (setBlock w m o').heap[b]? = some x := by
  intro b x hx hxc
  have hne : b ≠ m := fun e => by subst e; rw [hb] at hx; cases hx; rw [hc] at hxc; cases hxc
  rw [← hx]; exact (heap_set hb).2 b hne
theorem setBlock_grownBy {w : World} {m : Nat} {o o' : Obj} (hb : w.heap[m]? = some o) : w.grownBy (setBlock w m o') (some m) :=
  ⟨rfl, rfl, rfl, by simp [setBlock], fun i _ hi => (heap_set hb).2 i (fun e => hi (by rw [e]))⟩

theorem mput_get {k : κ} {v0 v : ν} : ∀ {L : List (κ × ν)} {j : Nat}, (mkeys L).Nodup → L[j]? = some (k, v0) → mput L k v = L.set j (k, v)
  | [], _, _, h => by simp at h
  | p :: L, 0, _, h => by simp at h; subst h; simp [mput]
  | p :: L, j + 1, hn, h => by
    simp only [mkeys, List.map_cons, List.nodup_cons] at hn
    have hj : L[j]? = some (k, v0) := by simpa using h
    have hne : p.1 ≠ k := fun e => hn.1 (e ▸ List.mem_map.2 ⟨_, List.mem_of_getElem? hj, rfl⟩)
    simp only [mput, if_neg hne, List.set_cons_succ]
    rw [mput_get hn.2 hj]
theorem Ents.set {ek : κ → Value} {Rv : ν → Value → Prop} {k : κ} {v : ν} {e' : MapEntry} (h1 : e'.key = ek k) (h2 : Rv v e'.val) : ∀ {es : List MapEntry} {L : List (κ × ν)} (j : Nat), Ents ek Rv es L → Ents ek Rv (es.set j e') (L.set j (k, v))
  | [], [], j, _ => by simp [Ents]
  | _ :: _, _ :: _, 0, h => ⟨h1, h2, h.2.2⟩
  | _ :: _, _ :: _, j + 1, h => ⟨h.1, h.2.1, Ents.set h1 h2 j h.2.2⟩

/-- 'm[k] = v' -/
theorem MapIs.store (K : KeyT P kt ek) (hR : OnCells R) (h : MapIs ek R w m L) {t et : TypeId} (ht : P.underlying t = some (.map kt et)) (k : κ) {v : ν} {x : Value} (hv : R w v x) :
    ∃ w', (Instr.mapUpdate t (.map (some m)) (ek k) x).run P w = .ok () w' ∧ MapIs ek R w' m (mput L k v) ∧ w.grownBy w' (some m) ∧ w'.heap.size = w.heap.size := by
  have hn := h.nodup K
  obtain ⟨es, c, hb, hs, he⟩ := h.ex
  obtain ⟨d, hd, hk⟩ := K.ex
  rcases find_in K k es.toList he hn w with ⟨h1, h2, h3⟩ | ⟨j, e, v0, h1, h2, h3, h4, h5, h6⟩
  · refine ⟨setBlock w m (.map (es.push { key := ek k, val := x, born := c }) (c + 1)), ?_, ⟨_, _, (heap_set hb).1, stamped_push hs h3, ?_⟩, setBlock_grownBy hb, by simp [setBlock]⟩
    · simp [Instr.mapUpdate, run_underlying ht, MapKept.run_getObj_map hb, run_checkKey hd (hk k), h1, Result.andThen, MapKept.run_setObj_map _ hb, setBlock]
    · rw [mput_new v (mget_none.1 h2), Array.toList_push]
      exact (he.push rfl hv).mono (fun v x => hR _ _ v x (setBlock_cells hb rfl))
  · have hst : (Instr.keyThatStays (ek k) (ek k)).run P w = .ok (ek k) w := run_keyThatStays (hk k)
    have hj : es[j]? = some e := by simpa using h2
    refine ⟨setBlock w m (.map (es.modify j fun e => { e with key := ek k, val := x }) c), ?_, ⟨_, _, (heap_set hb).1, stamped_modify hs j _ (fun _ _ => rfl) (fun e' _ he' => by rw [hj] at he'; cases he'; exact h3.symm), ?_⟩, setBlock_grownBy hb, by simp [setBlock]⟩
    · simp [Instr.mapUpdate, run_underlying ht, MapKept.run_getObj_map hb, run_checkKey hd (hk k), h1, Result.andThen, MapKept.run_setObj_map _ hb, setBlock, hj, h3, hst]
    · rw [mput_get hn h4]
      have em : (es.modify j fun e => { e with key := ek k, val := x }).toList = es.toList.set j { e with key := ek k, val := x } := by
        apply List.ext_getElem?
        intro i
        simp only [Array.getElem?_toList, Array.getElem?_modify, List.getElem?_set]
        by_cases hij : j = i
        · subst hij
          have hlt : j < es.size := (Array.getElem?_eq_some_iff.1 hj).1
          have hb' : es[j].born = e.born := by rw [Array.getElem?_eq_getElem hlt] at hj; cases hj; rfl
          simp [hlt, hb']
        · simp [hij]
      rw [em]
      exact (Ents.set (e' := { e with key := ek k, val := x }) (k := k) (v := v) rfl hv j he).mono (fun v x => hR _ _ v x (setBlock_cells hb rfl))

theorem mdel_get {k : κ} {v0 : ν} : ∀ {L : List (κ × ν)} {j : Nat}, (mkeys L).Nodup → L[j]? = some (k, v0) → mdel L k = L.eraseIdx j
  | [], _, _, h => by simp at h
  | p :: L, 0, hn, h => by
    simp at h; subst h
    simp only [mkeys, List.map_cons, List.nodup_cons] at hn
    simp only [mdel, List.eraseIdx_zero, List.tail_cons]
    rw [List.filter_cons_of_neg (by simp), List.filter_eq_self]
    intro q hq
    simp only [decide_eq_true_eq]
    intro e; exact hn.1 (List.mem_map.2 ⟨q, hq, e⟩)
  | p :: L, j + 1, hn, h => by
    simp only [mkeys, List.map_cons, List.nodup_cons] at hn
    have hj : L[j]? = some (k, v0) := by simpa using h
    have hne : p.1 ≠ k := fun e => hn.1 (e ▸ List.mem_map.2 ⟨_, List.mem_of_getElem? hj, rfl⟩)
    have := mdel_get hn.2 hj
    unfold mdel at this ⊢
    rw [List.filter_cons_of_pos (by simpa using hne), this, List.eraseIdx_cons_succ]
theorem mdel_none {k : κ} {L : List (κ × ν)} (h : mget L k = none) : mdel L k = L := by
  unfold mdel
  rw [List.filter_eq_self]
  intro p hp
  simp only [decide_eq_true_eq]
  intro e
  exact mget_none.1 h (e ▸ List.mem_map.2 ⟨p, hp, rfl⟩)
theorem Ents.erase {ek : κ → Value} {Rv : ν → Value → Prop} : ∀ {es : List MapEntry} {L : List (κ × ν)} (j : Nat), Ents ek Rv es L → Ents ek Rv (es.eraseIdx j) (L.eraseIdx j)
  | [], [], j, _ => by simp [Ents]
  | _ :: _, _ :: _, 0, h => by simpa using h.2.2
  | _ :: _, _ :: _, j + 1, h => ⟨h.1, h.2.1, Ents.erase j h.2.2⟩

/-- 'delete(m, k)' -/
theorem MapIs.strike (K : KeyT P kt ek) (hR : OnCells R) (h : MapIs ek R w m L) {t et ty : TypeId} (ht : P.underlying t = some (.map kt et)) (k : κ) :
    ∃ w', (Builtin.delete_ #[t, kt] ty #[.map (some m), ek k]).run P w = .ok (.tuple #[]) w' ∧ MapIs ek R w' m (mdel L k) ∧ w.grownBy w' (some m) ∧ w'.heap.size = w.heap.size := by
  have hn := h.nodup K
  obtain ⟨es, c, hb, hs, he⟩ := h.ex
  obtain ⟨d, hd, hk⟩ := K.ex
  rcases find_in K k es.toList he hn w with ⟨h1, h2, h3⟩ | ⟨j, e, v0, h1, h2, h3, h4, h5, h6⟩
  · refine ⟨setBlock w m (.map es c), ?_, ⟨_, _, (heap_set hb).1, hs, ?_⟩, setBlock_grownBy hb, by simp [setBlock]⟩
    · simp [Builtin.delete_, run_underlying ht, MapKept.run_getObj_map hb, run_checkKey hd (hk k), h1, Result.andThen, MapKept.run_setObj_map _ hb, setBlock]
    · rw [mdel_none h2]
      exact he.mono (fun v x => hR _ _ v x (setBlock_cells hb rfl))
  · refine ⟨setBlock w m (.map (es.eraseIdxIfInBounds j) c), ?_, ⟨_, _, (heap_set hb).1, stamped_erase hs j, ?_⟩, setBlock_grownBy hb, by simp [setBlock]⟩
    · simp [Builtin.delete_, run_underlying ht, MapKept.run_getObj_map hb, run_checkKey hd (hk k), h1, Result.andThen, MapKept.run_setObj_map _ hb, setBlock]
    · rw [mdel_get hn h4]
      have hj : j < es.size := by have := (List.getElem?_eq_some_iff.1 h2).1; simpa using this
      have em : (es.eraseIdxIfInBounds j).toList = es.toList.eraseIdx j := by
        unfold Array.eraseIdxIfInBounds
        rw [dif_pos hj, Array.toList_eraseIdx]
      rw [em]
      exact (Ents.erase j he).mono (fun v x => hR _ _ v x (setBlock_cells hb rfl))

/-- 'len(m)' -/
theorem MapIs.len (h : MapIs ek R w m L) (ta ty : TypeId) {kt' et : TypeId} (ht : P.underlying ta = some (.map kt' et)) : (Builtin.len_ #[ta] ty #[.map (some m)]).run P w = .ok (.int .i64 L.length) w := by
  obtain ⟨es, c, hb, _, he⟩ := h.ex
  have := he.length
  simp only [Array.length_toList] at this
  simp [Builtin.len_, run_underlying ht, MapKept.run_getObj_map hb, Result.andThen, this, goInt]

/-- 'make(map[K]V)' -/
theorem mapIs_made (ek : κ → Value) (R : World → ν → Value → Prop) (w : World) : MapIs ek R (w.alloc (.map #[] 0)) w.heap.size [] :=
  ⟨#[], 0, (MapKept.heap_alloc w _).1, stamped_empty 0, trivial⟩
end

/-! ### at the operation, for the walk -/
section
variable {κ ν : Type} [DecidableEq κ] {P : Program} {kt : TypeId} {ek : κ → Value} {R : World → ν → Value → Prop} {w : World} {m : Nat} {L : List (κ × ν)}
variable {ops : Array Oper} {rest : List Oper} {o : Oper} {a : Act} {Q : Exit → Act → World → Prop}

theorem wpl_look_none (hg : o.guard = none) (ok : Bool) (x y : Operand) (t et : TypeId) (hop : o.op = Op.lookup t x y ok) (K : KeyT P kt ek) (ht : P.underlying t = some (.map kt et)) (z : Value) (hz : ∀ W : World, (zeroValue et).run P W = .ok z W)
    (hm : a.eval x = .map (some m)) (k : κ) (hx : a.eval y = ek k) (h : MapIs ek R w m L) (hl : mget L k = none)
    (hK : wpList P ops Q rest (a.put o.dst (if ok then .tuple #[z, .bool false] else z)) w) : wpList P ops Q (o :: rest) a w := by
  refine wpList_plain hg fun K' hK' => ?_
  rcases h.find K ht k with ⟨_, hrun⟩ | ⟨v, x', h1, _⟩
  · unfold Oper.wp
    simp [execOp, hop, hm, hx, hrun ok z (hz w), Result.andThen]
    exact hK' _ _ hK
  · rw [hl] at h1; cases h1

theorem wpl_look_some (hg : o.guard = none) (ok : Bool) (x y : Operand) (t et : TypeId) (hop : o.op = Op.lookup t x y ok) (K : KeyT P kt ek) (ht : P.underlying t = some (.map kt et))
    (hm : a.eval x = .map (some m)) (k : κ) (hx : a.eval y = ek k) (h : MapIs ek R w m L) {v : ν} (hl : mget L k = some v)
    (hK : ∀ u, R w v u → wpList P ops Q rest (a.put o.dst (if ok then .tuple #[u, .bool true] else u)) w) : wpList P ops Q (o :: rest) a w := by
  refine wpList_plain hg fun K' hK' => ?_
  rcases h.find K ht k with ⟨h1, _⟩ | ⟨v', x', h1, h2, hrun⟩
  · rw [hl] at h1; cases h1
  · rw [hl] at h1; cases h1
    unfold Oper.wp
    simp [execOp, hop, hm, hx, hrun ok, Result.andThen]
    exact hK' _ _ (hK _ h2)

theorem wpl_store (hg : o.guard = none) (x y z : Operand) (t et : TypeId) (hop : o.op = Op.mapUpdate t x y z) (K : KeyT P kt ek) (hR : OnCells R) (ht : P.underlying t = some (.map kt et))
    (hm : a.eval x = .map (some m)) (k : κ) (hx : a.eval y = ek k) (u : Value) (hu : a.eval z = u) (h : MapIs ek R w m L) {v : ν} (hv : R w v u)
    (hK : ∀ w', MapIs ek R w' m (mput L k v) → w.grownBy w' (some m) → w'.heap.size = w.heap.size → wpList P ops Q rest (a.put o.dst undef) w') : wpList P ops Q (o :: rest) a w := by
  refine wpList_plain hg fun K' hK' => ?_
  obtain ⟨w', hrun, r1, r2, r3⟩ := h.store K hR ht k hv
  unfold Oper.wp
  simp [execOp, hop, hm, hx, hu, hrun, Result.andThen]
  exact hK' _ _ (hK w' r1 r2 r3)

theorem wpl_strike (hg : o.guard = none) (x y : Operand) (t et : TypeId) (hop : o.op = Op.call { callee := Callee.builtin Builtin.delete, args := #[x, y], argTypes := #[t, kt] }) (K : KeyT P kt ek) (hR : OnCells R) (ht : P.underlying t = some (.map kt et))
    (hm : a.eval x = .map (some m)) (k : κ) (hx : a.eval y = ek k) (h : MapIs ek R w m L)
    (hK : ∀ w', MapIs ek R w' m (mdel L k) → w.grownBy w' (some m) → w'.heap.size = w.heap.size → wpList P ops Q rest (a.put o.dst (.tuple #[])) w') : wpList P ops Q (o :: rest) a w := by
  refine wpList_plain hg fun K' hK' => ?_
  obtain ⟨w', hrun, r1, r2, r3⟩ := h.strike (ty := o.type) K hR ht k
  unfold Oper.wp
  simp [execOp, hop, resolve, invoke, builtin, hm, hx, hrun, Result.andThen]
  exact hK' _ _ (hK w' r1 r2 r3)

theorem wpl_len (hg : o.guard = none) (x : Operand) (t et : TypeId) (hop : o.op = Op.call { callee := Callee.builtin Builtin.len, args := #[x], argTypes := #[t] }) {kt : TypeId} (ht : P.underlying t = some (.map kt et))
    (hm : a.eval x = .map (some m)) (h : MapIs ek R w m L)
    (hK : wpList P ops Q rest (a.put o.dst (.int .i64 L.length)) w) : wpList P ops Q (o :: rest) a w := by
  refine wpList_plain hg fun K' hK' => ?_
  unfold Oper.wp
  simp [execOp, hop, resolve, invoke, builtin, hm, h.len t o.type ht, Result.andThen]
  exact hK' _ _ hK
end
end Go.Apo
