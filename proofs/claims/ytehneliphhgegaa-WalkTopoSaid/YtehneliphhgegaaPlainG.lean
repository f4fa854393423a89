/- The graph as a table and the document's as a row say the same: in plain Lean. -/
import Derived.Test.YtehneliphhgegaaRefAdd
set_option linter.unusedVariables false
set_option linter.unusedSimpArgs false
namespace Go.Proofs.Ytehneliphhgegaa
open Go.RowKit Go.Apo

theorem parGenF_congr {f h : Int → Option CommitD} (e : ∀ i, f i = h i) : ∀ (l : List Int) (g : Int), parGenF f l g = parGenF h l g
  | [], g => rfl
  | p :: l, g => by
    simp only [parGenF, e p]
    cases h p with
    | none => rfl
    | some x => exact parGenF_congr e l _
theorem parGenF_all {f : Int → Option CommitD} : ∀ {l : List Int} {g x : Int}, parGenF f l g = some x → ∀ p ∈ l, ∃ c, f p = some c ∧ c.gen ≤ x
  | p :: l, g, x, h, q, hq => by
    simp only [parGenF] at h
    cases hp : f p with
    | none => rw [hp] at h; cases h
    | some c =>
      rw [hp] at h
      simp only at h
      have mono : ∀ (l : List Int) (g x : Int), parGenF f l g = some x → g ≤ x := by
        intro l
        induction l with
        | nil => intro g x h; cases h; exact Int.le_refl _
        | cons a l ih =>
          intro g x h
          simp only [parGenF] at h
          cases ha : f a with
          | none => rw [ha] at h; cases h
          | some b => rw [ha] at h; have := ih _ _ h; omega
      rcases List.mem_cons.1 hq with rfl | hq
      · exact ⟨c, hp, by have := mono _ _ _ h; omega⟩
      · exact parGenF_all h q hq
theorem parGenF_le {f : Int → Option CommitD} {N : Int} (hf : ∀ i c, f i = some c → 0 ≤ c.gen ∧ c.gen ≤ N) : ∀ {l : List Int} {g x : Int}, 0 ≤ g → g ≤ N → parGenF f l g = some x → 0 ≤ x ∧ x ≤ N
  | [], g, x, h0, h1, h => by cases h; exact ⟨h0, h1⟩
  | p :: l, g, x, h0, h1, h => by
    simp only [parGenF] at h
    cases hp : f p with
    | none => rw [hp] at h; cases h
    | some c =>
      rw [hp] at h
      have := hf p c hp
      exact parGenF_le hf (g := max g c.gen) (by omega) (by omega) h

/-- what two graphs, and how they were made, have in common -/
structure Sync (L : List (Int × CommitD)) (R : List CommitD) : Prop where
  same : ∀ i, rFind R i = mget L i
  len : R.length = L.length
  ids : ∀ i c, mget L i = some c → c.id = i
  gens : ∀ i c, mget L i = some c → 1 ≤ c.gen ∧ c.gen ≤ L.length
  pars : ∀ i c, mget L i = some c → ∀ p ∈ c.par, p ≠ 0 ∧ p < i ∧ ∃ d, mget L p = some d ∧ d.gen < c.gen
  two : ∀ i c, mget L i = some c → c.par.length ≤ 2 ∧ c.par.Nodup
  top : ∀ i c, mget L i = some c → parGenF (mget L) c.par 0 = some (c.gen - 1)
  sorted : R.Pairwise (fun a b => a.id < b.id)
  nodup : (mkeys L).Nodup

theorem Sync.nil : Sync [] [] :=
  ⟨fun _ => rfl, rfl, fun _ _ h => (by cases h), fun _ _ h => (by cases h), fun _ _ h => (by cases h), fun _ _ h => (by cases h), fun _ _ h => (by cases h), List.Pairwise.nil, List.nodup_nil⟩
theorem Sync.err {L : List (Int × CommitD)} {R : List CommitD} (h : Sync L R) (c : CommitD) : raddE R c = addE L c := by
  unfold raddE addE
  rw [h.same c.id, parGen_F, parGenF_congr h.same]
  cases parGenF (mget L) c.par 0 <;> rfl
theorem rFind_app (A B : List CommitD) (i : Int) : rFind (A ++ B) i = (rFind A i).or (rFind B i) := by
  unfold rFind; rw [List.find?_append]
theorem rIns_find {R : List CommitD} {c : CommitD} (h : rFind R c.id = none) (i : Int) : rFind (rIns R c) i = if i = c.id then some c else rFind R i := by
  have e : rFind R i = (rFind (R.take (rPos R c.id)) i).or (rFind (R.drop (rPos R c.id)) i) := by rw [← rFind_app, List.take_append_drop]
  have e0 : rFind R c.id = (rFind (R.take (rPos R c.id)) c.id).or (rFind (R.drop (rPos R c.id)) c.id) := by rw [← rFind_app, List.take_append_drop]
  unfold rIns
  rw [rFind_app, rFind_app]
  have e1 : rFind [c] i = if i = c.id then some c else none := by
    unfold rFind
    rw [List.find?_cons]
    by_cases hi : i = c.id
    · subst hi; simp
    · rw [if_neg hi]
      have : (c.id == i) = false := by simpa using fun e => hi e.symm
      rw [this]; rfl
  rw [e1]
  by_cases hi : i = c.id
  · subst hi
    rw [if_pos rfl, if_pos rfl]
    rw [h] at e0
    cases ht : rFind (R.take (rPos R c.id)) c.id with
    | none => simp
    | some x => rw [ht] at e0; cases e0
  · rw [if_neg hi, if_neg hi, e]
    simp
theorem rIns_sorted {R : List CommitD} {c : CommitD} (hs : R.Pairwise (fun a b => a.id < b.id)) (h : rFind R c.id = none) : (rIns R c).Pairwise (fun a b => a.id < b.id) := by
  unfold rIns
  have hne : ∀ a ∈ R, a.id ≠ c.id := fun a ha e => by
    have := List.find?_eq_none.1 h a ha
    simp [e] at this
  have htake : ∀ a ∈ R.take (rPos R c.id), a.id < c.id := by
    intro a ha
    unfold rPos at ha
    have e : R.take (R.takeWhile fun c' => decide (c'.id < c.id)).length = R.takeWhile fun c' => decide (c'.id < c.id) := by
      conv => lhs; arg 2; rw [← List.takeWhile_append_dropWhile (p := fun c' => decide (c'.id < c.id)) (l := R)]
      rw [List.take_left']
      rfl
    rw [e] at ha
    have h2 := List.all_takeWhile (l := R) (p := fun c' => decide (c'.id < c.id))
    exact of_decide_eq_true (List.all_eq_true.1 h2 a ha)
  have hdrop : ∀ a ∈ R.drop (rPos R c.id), c.id < a.id := by
    intro a ha
    have hd : R.drop (rPos R c.id) = R.dropWhile fun c' => decide (c'.id < c.id) := by
      unfold rPos
      conv => lhs; arg 2; rw [← List.takeWhile_append_dropWhile (p := fun c' => decide (c'.id < c.id)) (l := R)]
      rw [List.drop_left']
      rfl
    have hsd := hs.sublist (List.drop_sublist (rPos R c.id) R)
    rw [hd] at ha hsd
    cases hq : R.dropWhile fun c' => decide (c'.id < c.id) with
    | nil => rw [hq] at ha; cases ha
    | cons b l =>
      rw [hq] at ha hsd
      have hb : ¬ b.id < c.id := by
        have := List.head_dropWhile_not (fun c' : CommitD => decide (c'.id < c.id)) (l := R) (w := by rw [hq]; simp)
        simp only [hq, List.head_cons] at this
        simpa using this
      have hbm : b ∈ R := by
        have : b ∈ R.dropWhile fun c' => decide (c'.id < c.id) := by rw [hq]; exact List.mem_cons_self
        exact (List.dropWhile_sublist _).subset this
      have hb2 := hne b hbm
      rcases List.mem_cons.1 ha with rfl | ha
      · omega
      · have := (List.pairwise_cons.1 hsd).1 a ha
        omega
  rw [List.pairwise_append, List.pairwise_append]
  refine ⟨⟨hs.sublist (List.take_sublist _ _), List.pairwise_singleton _ _, fun a ha b hb => ?_⟩, hs.sublist (List.drop_sublist _ _), fun a ha b hb => ?_⟩
  · rw [List.mem_singleton] at hb; subst hb; exact htake a ha
  · rcases List.mem_append.1 ha with ha | ha
    · exact Int.lt_trans (htake a ha) (hdrop b hb)
    · rw [List.mem_singleton] at ha; subst ha; exact hdrop b hb
theorem rIns_len (R : List CommitD) (c : CommitD) : (rIns R c).length = R.length + 1 := by
  unfold rIns
  have := rPos_le R c.id
  simp
  omega

theorem rightE_pars {c : CommitD} (h : rightE c = 0) : (∀ p ∈ c.par, p ≠ 0 ∧ p < c.id) ∧ c.par.Nodup := by
  have h2 := rightE_par h
  unfold rightE at h
  by_cases ha : (List.range c.par.length).all (parOk c.id c.par) = true
  · rw [List.all_eq_true] at ha
    obtain ⟨i, ps, g, r, t⟩ := c
    simp only at ha h2 ⊢
    match ps, h2 with
    | [], _ => exact ⟨(fun p hp => by cases hp), List.nodup_nil⟩
    | [a], _ =>
      have h0 := ha 0 (by simp)
      simp [parOk] at h0
      exact ⟨fun p hp => by rw [List.mem_singleton] at hp; subst hp; exact h0, by simp⟩
    | [a, b], _ =>
      have h0 := ha 0 (by simp)
      have h1 := ha 1 (by simp)
      simp [parOk] at h0 h1
      refine ⟨fun p hp => ?_, by simp; exact fun e => h1.2 e.symm⟩
      simp only [List.mem_cons, List.not_mem_nil, or_false] at hp
      rcases hp with rfl | rfl
      · exact h0
      · exact h1.1
  · rw [if_neg ha] at h
    repeat' split at h
    all_goals (first | omega | (simp at h; done))
theorem addE_zero {L : List (Int × CommitD)} {c : CommitD} (h : addE L c = 0) : rightE c = 0 ∧ mget L c.id = none ∧ parGenF (mget L) c.par 0 = some (c.gen - 1) := by
  unfold addE at h
  by_cases h1 : rightE c = 0
  · rw [if_pos h1] at h
    cases h2 : mget L c.id with
    | some x => rw [h2] at h; simp at h
    | none =>
      rw [h2] at h
      rw [parGen_F] at h
      cases h3 : parGenF (mget L) c.par 0 with
      | none => rw [h3] at h; simp at h
      | some g =>
        rw [h3] at h
        by_cases h4 : c.gen = g + 1
        · exact ⟨h1, rfl, by rw [h4]; congr 1; omega⟩
        · simp [h4] at h
  · rw [if_neg h1] at h; exact absurd h h1
theorem parGenF_mono {f h : Int → Option CommitD} (e : ∀ i c, f i = some c → h i = some c) : ∀ {l : List Int} {g x : Int}, parGenF f l g = some x → parGenF h l g = some x
  | [], g, x, q => q
  | p :: l, g, x, q => by
    simp only [parGenF] at q ⊢
    cases hp : f p with
    | none => rw [hp] at q; cases q
    | some c => rw [hp] at q; rw [e p c hp]; exact parGenF_mono e q
theorem Sync.put {L : List (Int × CommitD)} {R : List CommitD} (h : Sync L R) (c : CommitD) : Sync (addL L c) (raddL R c) := by
  unfold addL raddL
  rw [h.err c]
  by_cases he : addE L c = 0
  · rw [if_pos he, if_pos he]
    obtain ⟨h1, h2, h3⟩ := addE_zero he
    have hk : c.id ∉ mkeys L := mget_none.1 h2
    have hr : rFind R c.id = none := by rw [h.same]; exact h2
    have hlen : (mput L c.id c).length = L.length + 1 := by rw [mput_new c hk]; simp
    have hold : ∀ i d, mget L i = some d → mget (mput L c.id c) i = some d := fun i d hd => by
      rw [mget_mput]
      by_cases hi : i = c.id
      · subst hi; rw [h2] at hd; cases hd
      · rw [if_neg hi]; exact hd
    have hg := parGenF_le (f := mget L) (N := L.length) (fun i d hd => by have := h.gens i d hd; omega) (Int.le_refl 0) (by omega) h3
    refine ⟨fun i => ?_, ?_, fun i d hd => ?_, fun i d hd => ?_, fun i d hd p hp => ?_, fun i d hd => ?_, fun i d hd => ?_, rIns_sorted h.sorted hr, nodup_mput c h.nodup⟩
    · rw [rIns_find hr, mget_mput, h.same]
    · rw [rIns_len, h.len, hlen]
    · rw [mget_mput] at hd
      by_cases hi : i = c.id
      · rw [if_pos hi] at hd; cases hd; exact hi.symm
      · rw [if_neg hi] at hd; exact h.ids i d hd
    · rw [hlen]
      rw [mget_mput] at hd
      by_cases hi : i = c.id
      · rw [if_pos hi] at hd; cases hd; omega
      · rw [if_neg hi] at hd; have := h.gens i d hd; omega
    · rw [mget_mput] at hd
      by_cases hi : i = c.id
      · rw [if_pos hi] at hd; cases hd
        obtain ⟨x, hx, hx2⟩ := parGenF_all h3 p hp
        have := (rightE_pars h1).1 p hp
        exact ⟨this.1, by omega, x, hold p x hx, by omega⟩
      · rw [if_neg hi] at hd
        obtain ⟨q1, q2, x, q3, q4⟩ := h.pars i d hd p hp
        exact ⟨q1, q2, x, hold p x q3, q4⟩
    · rw [mget_mput] at hd
      by_cases hi : i = c.id
      · rw [if_pos hi] at hd; cases hd; exact ⟨rightE_par h1, (rightE_pars h1).2⟩
      · rw [if_neg hi] at hd; exact h.two i d hd
    · rw [mget_mput] at hd
      by_cases hi : i = c.id
      · rw [if_pos hi] at hd; cases hd; exact parGenF_mono hold h3
      · rw [if_neg hi] at hd; exact parGenF_mono hold (h.top i d hd)
  · rw [if_neg he, if_neg he]; exact h
theorem Sync.small {L : List (Int × CommitD)} {R : List CommitD} (h : Sync L R) (hl : L.length ≤ 100000) : SmallG L ∧ RSmall R ∧ R.length ≤ 100000 := by
  refine ⟨fun i c hc => ?_, fun i c hc => ?_, by rw [h.len]; exact hl⟩
  · have := h.gens i c hc; omega
  · rw [h.same] at hc; have := h.gens i c hc; omega
end Go.Proofs.Ytehneliphhgegaa
