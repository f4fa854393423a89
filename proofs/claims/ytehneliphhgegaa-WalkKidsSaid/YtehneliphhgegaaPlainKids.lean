/- The law WalkKids in plain Lean: what the code and the document answer. -/
import Derived.Test.YtehneliphhgegaaRefKids
set_option linter.unusedVariables false
set_option linter.unusedSimpArgs false
namespace Go.Proofs.Ytehneliphhgegaa
open Go.RowKit Go.Apo

def DJ (a b : Value) : Prop := ∀ k, a.ownBlock = some k → b.ownBlock ≠ some k
theorem DJ.left {a b : Value} (h : DJ a b) : b.ownBlock = none ∨ b.ownBlock ≠ a.ownBlock := by
  cases hb : b.ownBlock with
  | none => exact Or.inl rfl
  | some k => exact Or.inr (fun e => h k e.symm hb)
theorem DJ.right {a b : Value} (h : DJ a b) : a.ownBlock = none ∨ a.ownBlock ≠ b.ownBlock := by
  cases ha : a.ownBlock with
  | none => exact Or.inl rfl
  | some k => exact Or.inr (fun e => h k ha e.symm)
theorem DJ.grow_l {a a' b : Value} {N : Nat} (h : DJ a b) (ha : a'.ownBlock = a.ownBlock ∨ a'.ownBlock = some N) (hb : ∀ k, b.ownBlock = some k → k < N) : DJ a' b := fun k hk hb' => by
  rcases ha with e | e
  · exact h k (e ▸ hk) hb'
  · rw [e] at hk; cases hk; have := hb _ hb'; omega
theorem DJ.grow_r {a b b' : Value} {N : Nat} (h : DJ a b) (hb : b'.ownBlock = b.ownBlock ∨ b'.ownBlock = some N) (ha : ∀ k, a.ownBlock = some k → k < N) : DJ a b' := fun k hk hb' => by
  rcases hb with e | e
  · exact h k hk (e ▸ hb')
  · rw [e] at hb'; cases hb'; have := ha _ hk; omega

theorem rFind_self : ∀ {R : List CommitD}, R.Pairwise (fun a b => a.id < b.id) → ∀ c ∈ R, rFind R c.id = some c
  | d :: R, h, c, hc => by
    rw [List.pairwise_cons] at h
    unfold rFind
    rw [List.find?_cons]
    rcases List.mem_cons.1 hc with rfl | hc
    · simp
    · have := h.1 c hc
      have hne : (d.id == c.id) = false := by simp; omega
      rw [hne]
      exact rFind_self h.2 c hc
theorem Sync.at_ {L : List (Int × CommitD)} {R : List CommitD} (h : Sync L R) {c : CommitD} (hc : c ∈ R) : gGet L c.id = c := by
  unfold gGet
  rw [← h.same, rFind_self h.sorted c hc]; rfl
theorem filter_ids {L : List (Int × CommitD)} {R : List CommitD} (h : Sync L R) (f : CommitD → Bool) (g : Int → Bool) (e : ∀ c ∈ R, g c.id = f c) : (sortI (mkeys L)).filter g = (R.filter f).map CommitD.id := by
  rw [sync_ids h, List.filter_map]
  congr 1
  exact List.filter_congr e
theorem Sync.kids {L : List (Int × CommitD)} {R : List CommitD} (h : Sync L R) (x : Int) : kidsL L x = rkids R x := by
  unfold kidsL kidsIn rkids
  refine filter_ids h _ _ fun c hc => ?_
  rw [h.at_ hc]
  unfold hasB
  by_cases hx : x ∈ c.par
  · rw [decide_eq_true hx, List.any_eq_true]; exact ⟨x, hx, by simp⟩
  · rw [decide_eq_false hx, List.any_eq_false]
    intro y hy
    simp
    rintro rfl
    exact hx hy
def rroots (R : List CommitD) : List Int := (R.filter fun c => c.par.isEmpty).map CommitD.id
theorem Sync.roots {L : List (Int × CommitD)} {R : List CommitD} (h : Sync L R) : ((sortI (mkeys L)).filter fun k => (gGet L k).par.isEmpty) = rroots R :=
  filter_ids h _ _ fun c hc => by rw [h.at_ hc]
theorem mget_metIn {l : List Int} : ∀ {S : List (Int × Unit)} {x : Int}, (mget (metIn S l) x).isSome = true ↔ (mget S x).isSome = true ∨ x ∈ l := by
  induction l with
  | nil => intro S x; simp [metIn]
  | cons a l ih =>
    intro S x
    have e : metIn S (a :: l) = metIn (mput S a ()) l := rfl
    rw [e, ih, mem_keys, mem_keys_mput, mem_keys]
    constructor
    · rintro ((rfl | h) | h)
      · exact Or.inr List.mem_cons_self
      · exact Or.inl h
      · exact Or.inr (List.mem_cons_of_mem _ h)
    · rintro (h | h)
      · exact Or.inl (Or.inr h)
      · rcases List.mem_cons.1 h with rfl | h
        · exact Or.inl (Or.inl rfl)
        · exact Or.inr h
theorem mget_metOf (L : List (Int × CommitD)) (x : Int) (l : List Int) : (mget (metOf L l) x).isSome = true ↔ ∃ k ∈ l, x ∈ (gGet L k).par := by
  have : ∀ (l : List Int) (S : List (Int × Unit)), (mget (l.foldl (fun S k => metIn S (gGet L k).par) S) x).isSome = true ↔ (mget S x).isSome = true ∨ ∃ k ∈ l, x ∈ (gGet L k).par := by
    intro l
    induction l with
    | nil => intro S; simp
    | cons a l ih =>
      intro S
      rw [List.foldl_cons, ih, mget_metIn]
      simp only [List.mem_cons, exists_eq_or_imp]
      exact or_assoc
  unfold metOf
  rw [this]
  simp [mget]
def rheads (R : List CommitD) : List Int := (R.filter fun c => (rkids R c.id).isEmpty).map CommitD.id
theorem Sync.heads {L : List (Int × CommitD)} {R : List CommitD} (h : Sync L R) : ((sortI (mkeys L)).filter fun k => !(mget (metOf L (sortI (mkeys L))) k).isSome) = rheads R :=
  filter_ids h _ _ fun c hc => by
    have e : (mget (metOf L (sortI (mkeys L))) c.id).isSome = true ↔ ¬ (rkids R c.id).isEmpty = true := by
      rw [mget_metOf, sync_ids h]
      unfold rkids
      rw [List.isEmpty_iff, List.map_eq_nil_iff, List.filter_eq_nil_iff]
      constructor
      · rintro ⟨k, hk, hx⟩ hn
        obtain ⟨d, hd, rfl⟩ := List.mem_map.1 hk
        rw [h.at_ hd] at hx
        exact hn d hd (decide_eq_true hx)
      · intro hn
        rw [Classical.not_forall] at hn
        obtain ⟨d, hn⟩ := hn
        rw [Classical.not_imp] at hn
        refine ⟨d.id, List.mem_map.2 ⟨d, hn.1, rfl⟩, ?_⟩
        rw [h.at_ hn.1]
        exact of_decide_eq_true (Classical.not_not.1 hn.2)
    cases h1 : (mget (metOf L (sortI (mkeys L))) c.id).isSome <;> cases h2 : (rkids R c.id).isEmpty <;> simp [h1, h2] at e ⊢
end Go.Proofs.Ytehneliphhgegaa
