/- Generations: in plain Lean. -/
import Derived.Test.YtehneliphhgegaaLaw15a
set_option linter.unusedVariables false
set_option linter.unusedSimpArgs false
namespace Go.Proofs.Ytehneliphhgegaa
open Go.RowKit Go.Apo

def parMax (L : List (Int × CommitD)) (l : List Int) : Int := l.foldl (fun g p => max g (gGet L p).gen) 0
theorem parGenF_fold (L : List (Int × CommitD)) : ∀ (l : List Int) (g x : Int), parGenF (mget L) l g = some x → l.foldl (fun g p => max g (gGet L p).gen) g = x
  | [], g, x, h => by cases h; rfl
  | p :: l, g, x, h => by
    simp only [parGenF] at h
    cases hp : mget L p with
    | none => rw [hp] at h; cases h
    | some c =>
      rw [hp] at h
      rw [List.foldl_cons]
      have : gGet L p = c := by unfold gGet; rw [hp]; rfl
      rw [this]
      exact parGenF_fold L l _ x h
theorem Sync.parMax {L : List (Int × CommitD)} {R : List CommitD} (h : Sync L R) {i : Int} {c : CommitD} (hq : mget L i = some c) : parMax L c.par + 1 = c.gen := by
  have := parGenF_fold L c.par 0 _ (h.top i c hq)
  unfold Go.Proofs.Ytehneliphhgegaa.parMax
  rw [this]; omega
theorem gGet_some {L : List (Int × CommitD)} {i : Int} {c : CommitD} (h : mget L i = some c) : gGet L i = c := by unfold gGet; rw [h]; rfl
theorem Sync.gen_bd {L : List (Int × CommitD)} {R : List CommitD} (h : Sync L R) (i : Int) : 0 ≤ (gGet L i).gen ∧ (gGet L i).gen ≤ L.length := by
  unfold gGet
  cases hq : mget L i with
  | none => simp [CommitD.zero]
  | some c => have := h.gens i c hq; simp; omega
theorem parMax_snoc (L : List (Int × CommitD)) (l : List Int) (p : Int) : parMax L (l ++ [p]) = max (parMax L l) (gGet L p).gen := by
  unfold parMax; rw [List.foldl_append]; rfl
theorem Sync.parMax_bd {L : List (Int × CommitD)} {R : List CommitD} (h : Sync L R) : ∀ l : List Int, 0 ≤ Go.Proofs.Ytehneliphhgegaa.parMax L l ∧ Go.Proofs.Ytehneliphhgegaa.parMax L l ≤ L.length := by
  intro l
  unfold Go.Proofs.Ytehneliphhgegaa.parMax
  have : ∀ (l : List Int) (g : Int), 0 ≤ g → g ≤ L.length → 0 ≤ l.foldl (fun g p => max g (gGet L p).gen) g ∧ l.foldl (fun g p => max g (gGet L p).gen) g ≤ L.length := by
    intro l
    induction l with
    | nil => intro g h0 h1; exact ⟨h0, h1⟩
    | cons a l ih => intro g h0 h1; have := h.gen_bd a; exact ih _ (by show 0 ≤ max g _; omega) (by show max g _ ≤ _; omega)
  exact this l 0 (by omega) (by omega)
/-- an ancestor of another one is of a lesser generation -/
theorem Sync.anc_gen {L : List (Int × CommitD)} {R : List CommitD} (h : Sync L R) {x i : Int} (ha : Anc L x i) : x = i ∨ (gGet L x).gen < (gGet L i).gen := by
  induction ha with
  | self _ => exact Or.inl rfl
  | @up i p c h1 h2 h3 ih =>
    right
    obtain ⟨_, _, d, hd, hlt⟩ := h.pars i c h1 p h2
    rw [gGet_some h1]
    rw [gGet_some hd] at ih
    rcases ih with rfl | ih
    · rw [gGet_some hd]; exact hlt
    · omega
theorem Sync.is_gen {L : List (Int × CommitD)} {R : List CommitD} (h : Sync L R) {x i : Int} (hne : x ≠ i) (hi : isB L x i = true) : (gGet L x).gen < (gGet L i).gen := by
  rcases h.anc_gen ((isB_iff h.lok).1 hi) with h1 | h1
  · exact absurd h1 hne
  · exact h1

/-! the merge base -/
theorem made_nz (l : List CommitD) : ∀ k ∈ mkeys (madeL l), k ≠ 0 := by
  have : ∀ (l : List CommitD) (L : List (Int × CommitD)), (∀ k ∈ mkeys L, k ≠ 0) → ∀ k ∈ mkeys (l.foldl addL L), k ≠ 0 := by
    intro l
    induction l with
    | nil => intro L h; exact h
    | cons c l ih =>
      intro L h
      refine ih (addL L c) fun k hk => ?_
      unfold addL at hk
      split at hk
      · rename_i he
        rcases mem_keys_mput.1 hk with rfl | hk
        · intro h0
          unfold addE at he
          split at he
          · rename_i hr
            unfold rightE at hr
            rw [if_pos h0] at hr
            omega
          · rename_i hr
            exact hr he
        · exact h k hk
      · exact h k hk
  exact this l [] (fun k hk => by simp [mkeys] at hk)
theorem mem_commonL {L : List (Int × CommitD)} (hO : LOk L) {a b x : Int} : x ∈ commonL L a b ↔ isB L x a = true ∧ isB L x b = true := by
  unfold commonL isB
  rw [mem_sortI, List.mem_filter, ← mem_keys]
theorem nodup_commonL' {L : List (Int × CommitD)} (hO : LOk L) (a b : Int) : ((mkeys (reachS L [a])).filter fun x => (mget (reachS L [b]) x).isSome).Nodup :=
  (reachS_ok hO [a]).nodup.sublist List.filter_sublist
theorem commonL_comm {L : List (Int × CommitD)} (hO : LOk L) (a b : Int) : commonL L a b = commonL L b a := by
  unfold commonL
  refine sortI_of_perm ((List.perm_ext_iff_of_nodup (nodup_commonL' hO a b) (nodup_commonL' hO b a)).2 fun x => ?_)
  simp only [List.mem_filter, mem_keys]
  exact And.comm
theorem baseC_comm {L : List (Int × CommitD)} (hO : LOk L) (a b : Int) : baseC L a b = baseC L b a := by
  unfold baseC basesL
  rw [commonL_comm hO a b]
/-- the best of some: one of them, and none is greater -/
theorem bestOf_is (L : List (Int × CommitD)) (l : List Int) : (bestOf L l = CommitD.zero ∨ ∃ x ∈ l, bestOf L l = gGet L x) ∧ 0 ≤ (bestOf L l).gen ∧ ∀ x ∈ l, (gGet L x).gen ≤ (bestOf L l).gen := by
  have : ∀ (l : List Int) (c : CommitD), 0 ≤ c.gen → (l.foldl (bestStep L) c = c ∨ ∃ x ∈ l, l.foldl (bestStep L) c = gGet L x) ∧ c.gen ≤ (l.foldl (bestStep L) c).gen ∧ ∀ x ∈ l, (gGet L x).gen ≤ (l.foldl (bestStep L) c).gen := by
    intro l
    induction l with
    | nil => intro c h; exact ⟨Or.inl rfl, Int.le_refl _, fun x hx => by cases hx⟩
    | cons a l ih =>
      intro c h
      rw [List.foldl_cons]
      have hs : bestStep L c a = c ∧ (gGet L a).gen ≤ c.gen ∨ bestStep L c a = gGet L a ∧ c.gen < (gGet L a).gen := by
        unfold bestStep
        by_cases hh : c.gen < (gGet L a).gen
        · rw [if_pos hh]; exact Or.inr ⟨rfl, hh⟩
        · rw [if_neg hh]; exact Or.inl ⟨rfl, by omega⟩
      rcases hs with ⟨e, h2⟩ | ⟨e, h2⟩
      · rw [e]
        obtain ⟨i1, i2, i3⟩ := ih c h
        refine ⟨?_, i2, fun x hx => ?_⟩
        · rcases i1 with i1 | ⟨x, hx, i1⟩
          · exact Or.inl i1
          · exact Or.inr ⟨x, List.mem_cons_of_mem _ hx, i1⟩
        · rcases List.mem_cons.1 hx with rfl | hx
          · omega
          · exact i3 x hx
      · rw [e]
        obtain ⟨i1, i2, i3⟩ := ih (gGet L a) (by omega)
        refine ⟨?_, by omega, fun x hx => ?_⟩
        · rcases i1 with i1 | ⟨x, hx, i1⟩
          · exact Or.inr ⟨a, List.mem_cons_self, i1⟩
          · exact Or.inr ⟨x, List.mem_cons_of_mem _ hx, i1⟩
        · rcases List.mem_cons.1 hx with rfl | hx
          · omega
          · exact i3 x hx
  obtain ⟨h1, h2, h3⟩ := this l CommitD.zero (by simp [CommitD.zero])
  exact ⟨h1, h2, h3⟩
theorem max_of (L : List (Int × CommitD)) : ∀ (l : List Int), l ≠ [] → ∃ x ∈ l, ∀ y ∈ l, (gGet L y).gen ≤ (gGet L x).gen
  | [a], _ => ⟨a, List.mem_cons_self, fun y hy => by rw [List.mem_singleton] at hy; subst hy; exact Int.le_refl _⟩
  | a :: b :: l, _ => by
    obtain ⟨x, hx, hm⟩ := max_of L (b :: l) (by simp)
    by_cases h : (gGet L x).gen < (gGet L a).gen
    · refine ⟨a, List.mem_cons_self, fun y hy => ?_⟩
      rcases List.mem_cons.1 hy with rfl | hy
      · exact Int.le_refl _
      · have := hm y hy; omega
    · refine ⟨x, List.mem_cons_of_mem _ hx, fun y hy => ?_⟩
      rcases List.mem_cons.1 hy with rfl | hy
      · omega
      · exact hm y hy
/-- each of the common ancestors is of a generation that the base's is not behind -/
theorem base_top {L : List (Int × CommitD)} {R : List CommitD} (h : Sync L R) (hz : ∀ k ∈ mkeys L, k ≠ 0) (a b n : Int) (h1 : isB L n a = true) (h2 : isB L n b = true) :
    (baseC L a b).id ≠ 0 ∧ (gGet L n).gen ≤ (baseC L a b).gen := by
  have hn : n ∈ commonL L a b := (mem_commonL h.lok).2 ⟨h1, h2⟩
  obtain ⟨x, hx, hm⟩ := max_of L (commonL L a b) (fun e => by rw [e] at hn; cases hn)
  have hxb : x ∈ basesL L a b := by
    unfold basesL
    rw [List.mem_filter]
    refine ⟨hx, ?_⟩
    unfold belowB
    rw [Bool.not_eq_true', List.any_eq_false]
    intro k hk hkx
    rw [Bool.and_eq_true, Bool.not_eq_true', beq_eq_false_iff_ne] at hkx
    have := h.is_gen (Ne.symm hkx.1) hkx.2
    have := hm k hk
    omega
  obtain ⟨c1, c2, c3⟩ := bestOf_is L (basesL L a b)
  unfold baseC
  have h3 := c3 x hxb
  have h4 := hm n hn
  refine ⟨?_, by omega⟩
  have hxs := ((isB_iff h.lok).1 ((mem_commonL h.lok).1 hx).1).of
  obtain ⟨c, hc⟩ := Option.isSome_iff_exists.1 hxs
  have hg := h.gens x c hc
  rw [gGet_some hc] at h3
  rcases c1 with e | ⟨y, hy, e⟩
  · rw [e] at h3; simp [CommitD.zero] at h3; omega
  · rw [e]
    have hyc : y ∈ commonL L a b := by unfold basesL at hy; exact (List.mem_filter.1 hy).1
    have hys := ((isB_iff h.lok).1 ((mem_commonL h.lok).1 hyc).1).of
    obtain ⟨d, hd⟩ := Option.isSome_iff_exists.1 hys
    rw [gGet_some hd, h.ids y d hd]
    exact hz y (mem_keys.1 hys)
/-- the base is a common ancestor, and is what its number says -/
theorem base_is {L : List (Int × CommitD)} {R : List CommitD} (h : Sync L R) (a b : Int) (hid : (baseC L a b).id ≠ 0) :
    isB L (baseC L a b).id a = true ∧ isB L (baseC L a b).id b = true ∧ gGet L (baseC L a b).id = baseC L a b := by
  obtain ⟨c1, c2, c3⟩ := bestOf_is L (basesL L a b)
  rcases c1 with e | ⟨y, hy, e⟩
  · unfold baseC at hid; rw [e] at hid; exact absurd rfl hid
  · have hyc : y ∈ commonL L a b := by unfold basesL at hy; exact (List.mem_filter.1 hy).1
    have hm := (mem_commonL h.lok).1 hyc
    have hys := ((isB_iff h.lok).1 hm.1).of
    obtain ⟨d, hd⟩ := Option.isSome_iff_exists.1 hys
    have he : (baseC L a b).id = y := by
      unfold baseC; rw [e, gGet_some hd, h.ids y d hd]
    rw [he]
    exact ⟨hm.1, hm.2, by unfold baseC; rw [e]⟩
end Go.Proofs.Ytehneliphhgegaa
