/- How far: the table's and the document's answer are one. In plain Lean. -/
import Derived.Test.YtehneliphhgegaaFarPath
import Derived.Test.YtehneliphhgegaaRefPath
set_option linter.unusedVariables false
set_option linter.unusedSimpArgs false
namespace Go.Proofs.Ytehneliphhgegaa
open Go.RowKit Go.Apo

def rowAt (R : List CommitD) (late : Int) : Nat → List Int
  | 0 => [late]
  | n + 1 => rowNext R (rowAt R late n)
theorem mem_rowStep {x : Int} : ∀ (ps next : List Int), x ∈ ps.foldl rowStep next ↔ x ∈ next ∨ x ∈ ps
  | [], next => by simp
  | p :: ps, next => by
    rw [List.foldl_cons, mem_rowStep ps]
    unfold rowStep
    split
    · rename_i h
      constructor
      · rintro (h' | h')
        · exact Or.inl h'
        · exact Or.inr (List.mem_cons_of_mem _ h')
      · rintro (h' | h')
        · exact Or.inl h'
        · rcases List.mem_cons.1 h' with rfl | h'
          · exact Or.inl h
          · exact Or.inr h'
    · simp [or_assoc]
theorem mem_rowNext {R : List CommitD} {x : Int} {row : List Int} : x ∈ rowNext R row ↔ ∃ y ∈ row, x ∈ rPar R y := by
  have : ∀ (row next : List Int), x ∈ row.foldl (fun next i => (rPar R i).foldl rowStep next) next ↔ x ∈ next ∨ ∃ y ∈ row, x ∈ rPar R y := by
    intro row
    induction row with
    | nil => intro next; simp
    | cons r row ih =>
      intro next
      rw [List.foldl_cons, ih, mem_rowStep]
      simp only [List.mem_cons, exists_eq_or_imp, or_assoc]
  unfold rowNext
  rw [this]
  simp
theorem farRows_spec (R : List CommitD) (old late : Int) : ∀ (k n : Nat), (∃ m : Nat, n ≤ m ∧ m < n + k ∧ old ∈ rowAt R late m ∧ (∀ j, n ≤ j → j < m → old ∉ rowAt R late j) ∧ farRows R old k n (rowAt R late n) = m) ∨ (farRows R old k n (rowAt R late n) = -1 ∧ ∀ j, n ≤ j → j < n + k → old ∉ rowAt R late j)
  | 0, n => Or.inr ⟨rfl, fun j h1 h2 => by omega⟩
  | k + 1, n => by
    simp only [farRows]
    by_cases h : old ∈ rowAt R late n
    · rw [if_pos h]
      exact Or.inl ⟨n, Nat.le_refl _, by omega, h, fun j h1 h2 => by omega, rfl⟩
    · rw [if_neg h]
      have e : ((n : Int) + 1) = ((n + 1 : Nat) : Int) := by omega
      have e2 : rowNext R (rowAt R late n) = rowAt R late (n + 1) := rfl
      rw [e, e2]
      rcases farRows_spec R old late k (n + 1) with ⟨m, h1, h2, h3, h4, h5⟩ | ⟨h1, h2⟩
      · refine Or.inl ⟨m, by omega, by omega, h3, fun j q1 q2 => ?_, h5⟩
        rcases Nat.lt_or_ge n j with h' | h'
        · exact h4 j h' q2
        · obtain rfl : j = n := by omega
          exact h
      · refine Or.inr ⟨h1, fun j q1 q2 => ?_⟩
        rcases Nat.lt_or_ge n j with h' | h'
        · exact h2 j h' (by omega)
        · obtain rfl : j = n := by omega
          exact h

/-- what holds of the table of ways while it grows -/
structure FarInv (R : List CommitD) (late : Int) (M : List (Int × Int)) (l : List Int) : Prop where
  start : mget M late = some 0
  way : ∀ x d, mget M x = some d → 0 ≤ d ∧ x ∈ rowAt R late d.toNat
  row : ∀ y ∈ l, ∃ d, mget M y = some d
  near : ∀ x dx y dy, mget M x = some dx → y ∈ l → mget M y = some dy → dx ≤ dy + 1
  rise : l.Pairwise (fun y z => ∀ dy dz, mget M y = some dy → mget M z = some dz → dy ≤ dz)
/-- a commit's parents have their ways -/
def Done (R : List CommitD) (M : List (Int × Int)) (x : Int) : Prop := ∀ d, mget M x = some d → ∀ p ∈ rPar R x, ∃ e, mget M p = some e ∧ e ≤ d + 1
theorem FarInv.step {R : List CommitD} {late hd p : Int} {M : List (Int × Int)} {t : List Int} (h : FarInv R late M (hd :: t)) (hp : p ∈ rPar R hd) :
    ∃ t', (farStep hd (M, hd :: t) p).2 = hd :: t' ∧ FarInv R late (farStep hd (M, hd :: t) p).1 (hd :: t') ∧ (∀ x d, mget M x = some d → mget (farStep hd (M, hd :: t) p).1 x = some d) ∧ (∀ x d, mget (farStep hd (M, hd :: t) p).1 x = some d → mget M x = some d ∨ x ∈ t') ∧ (∀ x ∈ t, x ∈ t') ∧ (∀ d, mget M hd = some d → ∃ e, mget (farStep hd (M, hd :: t) p).1 p = some e ∧ e ≤ d + 1) := by
  obtain ⟨d, hd0⟩ := h.row hd List.mem_cons_self
  unfold farStep
  cases hm : mget M p with
  | some e =>
    simp only [Option.isSome_some, if_true]
    refine ⟨t, rfl, h, fun _ _ h => h, fun _ _ h => Or.inl h, fun _ h => h, fun d' hd' => ⟨e, hm, ?_⟩⟩
    exact h.near p e hd d' hm List.mem_cons_self hd'
  | none =>
    simp only [Option.isSome_none, Bool.false_eq_true, if_false]
    rw [hd0, Option.getD_some]
    have hk : ∀ x, mget (mput M p (d + 1)) x = if x = p then some (d + 1) else mget M x := fun x => mget_mput _ _ _ _
    have hold : ∀ x dx, mget M x = some dx → x ≠ p := fun x dx hx e => by subst e; rw [hm] at hx; cases hx
    have hcase : ∀ x dx, mget (mput M p (d + 1)) x = some dx → (x = p ∧ dx = d + 1) ∨ mget M x = some dx := fun x dx hx => by
      rw [hk] at hx
      by_cases e : x = p
      · rw [if_pos e] at hx; cases hx; exact Or.inl ⟨e, rfl⟩
      · rw [if_neg e] at hx; exact Or.inr hx
    have hkeep : ∀ x dx, mget M x = some dx → mget (mput M p (d + 1)) x = some dx := fun x dx hx => by rw [hk, if_neg (hold x dx hx)]; exact hx
    have hle : ∀ y ∈ hd :: t, ∀ dy, mget M y = some dy → d ≤ dy := fun y hy dy hdy => by
      rcases List.mem_cons.1 hy with rfl | hy
      · rw [hd0] at hdy; cases hdy; exact Int.le_refl _
      · exact (List.pairwise_cons.1 h.rise).1 y hy d dy hd0 hdy
    have hwd := h.way hd d hd0
    refine ⟨t ++ [p], rfl, ⟨hkeep _ _ h.start, fun x dx hx => ?_, fun y hy => ?_, fun x dx y dy hx hy hdy => ?_, ?_⟩, hkeep, fun x dx hx => ?_, fun x hx => List.mem_append_left _ hx, fun d' hd' => ⟨d + 1, by rw [hk, if_pos rfl], ?_⟩⟩
    · rcases hcase x dx hx with ⟨rfl, rfl⟩ | hx
      · refine ⟨by omega, ?_⟩
        have : (d + 1).toNat = d.toNat + 1 := by omega
        rw [this]
        exact mem_rowNext.2 ⟨hd, hwd.2, hp⟩
      · exact h.way x dx hx
    · rw [← List.cons_append] at hy
      rcases List.mem_append.1 hy with hy | hy
      · obtain ⟨dy, hdy⟩ := h.row y hy
        exact ⟨dy, hkeep y dy hdy⟩
      · rw [List.mem_singleton] at hy; subst hy; exact ⟨d + 1, by rw [hk, if_pos rfl]⟩
    · rw [← List.cons_append] at hy
      have hx1 : dx ≤ d + 1 := by
        rcases hcase x dx hx with ⟨_, rfl⟩ | hx
        · exact Int.le_refl _
        · exact h.near x dx hd d hx List.mem_cons_self hd0
      rcases hcase y dy hdy with ⟨_, rfl⟩ | hdy2
      · omega
      · rcases List.mem_append.1 hy with hy | hy
        · have := hle y hy dy hdy2; omega
        · rw [List.mem_singleton] at hy; subst hy; exact absurd rfl (hold _ _ hdy2)
    · rw [← List.cons_append, List.pairwise_append]
      refine ⟨?_, List.pairwise_singleton _ _, fun y hy z hz dy dz hdy hdz => ?_⟩
      · refine h.rise.imp_of_mem (fun {y z} hy hz hr dy dz hdy hdz => ?_)
        obtain ⟨dy', hy'⟩ := h.row y hy
        obtain ⟨dz', hz'⟩ := h.row z hz
        rw [hkeep y dy' hy'] at hdy; cases hdy
        rw [hkeep z dz' hz'] at hdz; cases hdz
        exact hr _ _ hy' hz'
      · rw [List.mem_singleton] at hz; subst hz
        rw [hk, if_pos rfl] at hdz; cases hdz
        obtain ⟨dy', hy'⟩ := h.row y hy
        rw [hkeep y dy' hy'] at hdy; cases hdy
        exact h.near y _ hd d hy' List.mem_cons_self hd0
    · rcases hcase x dx hx with ⟨rfl, _⟩ | hx
      · exact Or.inr (List.mem_append_right _ (List.mem_singleton.2 rfl))
      · exact Or.inl hx
    · first | (rw [hd0] at hd'; cases hd'; exact Int.le_refl _) | (cases hd'; exact Int.le_refl _)
theorem FarInv.steps {R : List CommitD} {late hd : Int} : ∀ (ps : List Int) {M : List (Int × Int)} {t : List Int}, FarInv R late M (hd :: t) → (∀ p ∈ ps, p ∈ rPar R hd) →
    ∃ t', (ps.foldl (farStep hd) (M, hd :: t)).2 = hd :: t' ∧ FarInv R late (ps.foldl (farStep hd) (M, hd :: t)).1 (hd :: t') ∧ (∀ x d, mget M x = some d → mget (ps.foldl (farStep hd) (M, hd :: t)).1 x = some d) ∧ (∀ x d, mget (ps.foldl (farStep hd) (M, hd :: t)).1 x = some d → mget M x = some d ∨ x ∈ t') ∧ (∀ x ∈ t, x ∈ t') ∧ (∀ d, mget M hd = some d → ∀ p ∈ ps, ∃ e, mget (ps.foldl (farStep hd) (M, hd :: t)).1 p = some e ∧ e ≤ d + 1)
  | [], M, t, h, _ => ⟨t, rfl, h, fun _ _ h => h, fun _ _ h => Or.inl h, fun _ h => h, fun d _ p hp => by cases hp⟩
  | p :: ps, M, t, h, hs => by
    obtain ⟨t1, e1, h1, k1, b1, s1, d1⟩ := h.step (hs p List.mem_cons_self)
    have hpair : farStep hd (M, hd :: t) p = ((farStep hd (M, hd :: t) p).1, hd :: t1) := by rw [← e1]
    rw [List.foldl_cons, hpair]
    obtain ⟨t2, e2, h2, k2, b2, s2, d2⟩ := FarInv.steps ps h1 (fun q hq => hs q (List.mem_cons_of_mem _ hq))
    refine ⟨t2, e2, h2, fun x d hx => k2 x d (k1 x d hx), fun x d hx => ?_, fun x hx => s2 x (s1 x hx), fun d hd0 q hq => ?_⟩
    · rcases b2 x d hx with hx | hx
      · rcases b1 x d hx with hx | hx
        · exact Or.inl hx
        · exact Or.inr (s2 x hx)
      · exact Or.inr hx
    · rcases List.mem_cons.1 hq with rfl | hq
      · obtain ⟨e, he, hle⟩ := d1 d hd0
        exact ⟨e, k2 _ _ he, hle⟩
      · exact d2 d (k1 _ _ hd0) q hq
theorem FarInv.run {L : List (Int × CommitD)} {R : List CommitD} (hpar : ∀ i, (gGet L i).par = rPar R i) {late : Int} : ∀ (f : Nat) {M : List (Int × Int)} {l : List Int}, FarInv R late M l → (∀ x d, mget M x = some d → x ∈ l ∨ Done R M x) → FarOk L M l → Closed L → farLeft L M l ≤ f →
    FarInv R late (farRun L f M l) [] ∧ ∀ x d, mget (farRun L f M l) x = some d → Done R (farRun L f M l) x
  | 0, M, l, h, hd, hok, hC, hf => by
    have : l = [] := List.eq_nil_of_length_eq_zero (by unfold farLeft at hf; omega)
    subst this
    exact ⟨h, fun x d hx => by rcases hd x d hx with h | h; · cases h
                               · exact h⟩
  | f + 1, M, [], h, hd, hok, hC, hf => ⟨h, fun x d hx => by rcases hd x d hx with h | h; · cases h
                                                             · exact h⟩
  | f + 1, M, hd :: t, h, hdn, hok, hC, hf => by
    simp only [farRun]
    rw [hpar hd]
    obtain ⟨t', e, h2, k2, b2, s2, d2⟩ := FarInv.steps (rPar R hd) h (fun p hp => hp)
    have hok2 := (farStep_ok (rPar R hd) M (hd :: t) hok List.mem_cons_self (by rw [← hpar]; exact hC.get hd)).1
    have hleft : ∀ (ps : List Int) (M : List (Int × Int)) (l : List Int), FarOk L M l → hd ∈ l → (∀ q ∈ ps, (mget L q).isSome) → farLeft L (ps.foldl (farStep hd) (M, l)).1 (ps.foldl (farStep hd) (M, l)).2 ≤ farLeft L M l := by
      intro ps
      induction ps with
      | nil => intro M l _ _ _; exact Nat.le_refl _
      | cons p ps ih =>
        intro M l h1 h2 h3
        have q1 := farStep_left h1 (h3 p List.mem_cons_self) h2
        have q2 := h1.step (h3 p List.mem_cons_self) h2
        have q3 : hd ∈ (farStep hd (M, l) p).2 := by
          unfold farStep
          split
          · exact h2
          · exact List.mem_append_left _ h2
        rw [List.foldl_cons]
        exact Nat.le_trans (ih _ _ q2 q3 (fun q hq => h3 q (List.mem_cons_of_mem _ hq))) q1
    have hl := hleft (rPar R hd) M (hd :: t) hok List.mem_cons_self (by rw [← hpar]; exact hC.get hd)
    rw [e] at hok2 hl ⊢
    rw [List.tail_cons]
    obtain ⟨d0, hd0⟩ := h.row hd List.mem_cons_self
    refine FarInv.run hpar f ⟨h2.start, h2.way, fun y hy => h2.row y (List.mem_cons_of_mem _ hy), fun x dx y dy hx hy hdy => h2.near x dx y dy hx (List.mem_cons_of_mem _ hy) hdy, (List.pairwise_cons.1 h2.rise).2⟩ (fun x d hx => ?_) hok2.tail hC (by unfold farLeft at hl hf ⊢; simp at hl hf; omega)
    rcases b2 x d hx with hx0 | hx0
    · rcases hdn x d hx0 with hm | hm
      · rcases List.mem_cons.1 hm with rfl | hm
        · refine Or.inr fun d' hd' p hp => ?_
          have e1 := k2 x d hx0
          rw [e1] at hd'; cases hd'
          exact d2 d hx0 p hp
        · exact Or.inl (s2 x hm)
      · refine Or.inr fun d' hd' p hp => ?_
        have e1 := k2 x d hx0
        rw [e1] at hd'; cases hd'
        obtain ⟨e, he, hle⟩ := hm d hx0 p hp
        exact ⟨e, k2 p e he, hle⟩
    · exact Or.inl hx0

theorem Sync.par {L : List (Int × CommitD)} {R : List CommitD} (h : Sync L R) (i : Int) : (gGet L i).par = rPar R i := by
  unfold gGet rPar; rw [h.same]
theorem Sync.rclosed {L : List (Int × CommitD)} {R : List CommitD} (h : Sync L R) : RClosed R := fun i => by
  rw [← h.par i]
  have hC := h.closed
  refine ⟨?_, fun q hq => ?_⟩
  · unfold gGet
    cases hm : mget L i with
    | none => simp [CommitD.zero]
    | some c => exact (hC i c hm).1
  · have := hC.get i q hq
    rw [← h.same] at this
    exact rFind_mem this
theorem far_same {L : List (Int × CommitD)} {R : List CommitD} (h : Sync L R) (old late : Int) : (codeFar L old late = none ∧ refFar R old late = -1) ∨ ∃ d : Nat, codeFar L old late = some (d : Int) ∧ refFar R old late = d := by
  unfold codeFar farM refFar
  rw [h.same]
  by_cases hs : (mget L late).isSome = true
  · rw [if_pos hs, if_pos hs]
    have hok := farStart_ok hs
    have hinv : FarInv R late [(late, 0)] [late] := by
      have hg : ∀ x d, mget [(late, (0 : Int))] x = some d → x = late ∧ d = 0 := fun x d hx => by
        rw [mget_cons] at hx
        by_cases e : late = x
        · rw [if_pos e] at hx; cases hx; exact ⟨e.symm, rfl⟩
        · rw [if_neg e] at hx; cases hx
      refine ⟨by rw [mget_cons, if_pos rfl], fun x d hx => ?_, fun y hy => ?_, fun x dx y dy hx hy hdy => ?_, List.pairwise_singleton _ _⟩
      · obtain ⟨rfl, rfl⟩ := hg x d hx
        exact ⟨Int.le_refl _, by simp [rowAt]⟩
      · rw [List.mem_singleton] at hy; subst hy; exact ⟨0, by rw [mget_cons, if_pos rfl]⟩
      · obtain ⟨_, rfl⟩ := hg x dx hx
        obtain ⟨_, rfl⟩ := hg y dy hdy
        omega
    obtain ⟨hi, hdone⟩ := FarInv.run (L := L) h.par (2 * L.length + 1) hinv (fun x d hx => by
      rw [mget_cons] at hx
      by_cases e : late = x
      · exact Or.inl (by rw [e]; exact List.mem_singleton.2 rfl)
      · rw [if_neg e] at hx; cases hx) hok h.closed (by unfold farLeft; simp; omega)
    have hbd := farRun_ok h.closed (2 * L.length + 1) _ _ hok
    generalize farRun L (2 * L.length + 1) [(late, 0)] [late] = M at hi hdone hbd ⊢
    have hreach : ∀ (n : Nat) (x : Int), x ∈ rowAt R late n → ∃ e, mget M x = some e ∧ e ≤ n := by
      intro n
      induction n with
      | zero => intro x hx; simp only [rowAt, List.mem_singleton] at hx; subst hx; exact ⟨0, hi.start, Int.le_refl _⟩
      | succ n ih =>
        intro x hx
        obtain ⟨y, hy, hxy⟩ := mem_rowNext.1 hx
        obtain ⟨e, he, hle⟩ := ih y hy
        obtain ⟨e2, he2, hle2⟩ := hdone y e he e he x hxy
        exact ⟨e2, he2, by omega⟩
    cases hm : mget M old with
    | none =>
      refine Or.inl ⟨rfl, ?_⟩
      rcases farRows_spec R old late (R.length + 1) 0 with ⟨m, _, _, h3, _, _⟩ | ⟨h1, _⟩
      · obtain ⟨e, he, _⟩ := hreach m old h3
        rw [hm] at he; cases he
      · exact h1
    | some d =>
      have hw := hi.way old d hm
      have hb := hbd.vals old d hm
      have hb2 := hbd.le
      refine Or.inr ⟨d.toNat, by congr 1; omega, ?_⟩
      rcases farRows_spec R old late (R.length + 1) 0 with ⟨m, _, _, h3, h4, h5⟩ | ⟨_, h2⟩
      · have hmd : m = d.toNat := by
          rcases Nat.lt_trichotomy m d.toNat with h' | h' | h'
          · obtain ⟨e, he, hle⟩ := hreach m old h3
            rw [hm] at he; cases he
            omega
          · exact h'
          · exact absurd hw.2 (h4 _ (Nat.zero_le _) h')
        rw [← hmd]; exact h5
      · exact absurd hw.2 (h2 _ (Nat.zero_le _) (by rw [h.len]; omega))
  · rw [if_neg hs, if_neg hs]
    exact Or.inl ⟨rfl, rfl⟩
theorem rowAt_first' (R : List CommitD) : ∀ (x : Int) (n : Nat) (lt : Int), x ∈ rowAt R lt (n + 1) ↔ ∃ p ∈ rPar R lt, x ∈ rowAt R p n := by
  intro x n
  induction n generalizing x with
  | zero => intro lt; simp [rowAt, mem_rowNext]
  | succ n ih =>
    intro lt
    have e : rowAt R lt (n + 1 + 1) = rowNext R (rowAt R lt (n + 1)) := rfl
    have e2 : ∀ p, rowAt R p (n + 1) = rowNext R (rowAt R p n) := fun p => rfl
    rw [e, mem_rowNext]
    constructor
    · rintro ⟨y, hy, hx⟩
      obtain ⟨p, hp, hy2⟩ := (ih y lt).1 hy
      exact ⟨p, hp, by rw [e2]; exact mem_rowNext.2 ⟨y, hy2, hx⟩⟩
    · rintro ⟨p, hp, hx⟩
      rw [e2] at hx
      obtain ⟨y, hy, hx2⟩ := mem_rowNext.1 hx
      exact ⟨y, (ih y lt).2 ⟨p, hp, hy⟩, hx2⟩
theorem far_back {L : List (Int × CommitD)} {R : List CommitD} (h : Sync L R) {old lt : Int} {k : Nat} (hk : refFar R old lt = ((k + 1 : Nat) : Int)) : ∃ p ∈ rPar R lt, refFar R old p = k := by
  unfold refFar at hk
  by_cases hs : (rFind R lt).isSome = true
  · rw [if_pos hs] at hk
    rcases farRows_spec R old lt (R.length + 1) 0 with ⟨m, _, hm, h3, h4, h5⟩ | ⟨h1, _⟩
    · have hm1 : m = k + 1 := by
        have h5' : farRows R old (R.length + 1) 0 [lt] = m := h5
        rw [h5'] at hk; omega
      subst hm1
      obtain ⟨p, hp, hx⟩ := (rowAt_first' R old k lt).1 h3
      refine ⟨p, hp, ?_⟩
      have hps : (rFind R p).isSome = true := by
        rw [h.same]
        exact h.closed.get lt p (by rw [h.par]; exact hp)
      unfold refFar
      rw [if_pos hps]
      rcases farRows_spec R old p (R.length + 1) 0 with ⟨m', _, hm', g3, g4, g5⟩ | ⟨_, g2⟩
      · have g5' : farRows R old (R.length + 1) 0 [p] = m' := g5
        rw [g5']
        rcases Nat.lt_trichotomy m' k with h' | h' | h'
        · exact absurd ((rowAt_first' R old m' lt).2 ⟨p, hp, g3⟩) (h4 (m' + 1) (Nat.zero_le _) (by omega))
        · rw [h']
        · exact absurd hx (g4 k (Nat.zero_le _) h')
      · exact absurd hx (g2 k (Nat.zero_le _) (by omega))
    · have h1' : farRows R old (R.length + 1) 0 [lt] = -1 := h1
      rw [h1'] at hk; omega
  · rw [if_neg hs] at hk; omega
theorem path_same {L : List (Int × CommitD)} {R : List CommitD} (h : Sync L R) (old late : Int) : codePath L old late = refPath R old late := by
  have hff : ∀ k : Nat, (fun p => codeFar L old p == some (k : Int)) = (fun p => refFar R old p == (k : Int)) := fun k => by
    funext p
    rcases far_same h old p with ⟨h1, h2⟩ | ⟨d, h1, h2⟩
    · rw [h1, h2]
      have : ((-1 : Int) == (k : Int)) = false := by simp
      rw [this]; rfl
    · rw [h1, h2]
      by_cases e : d = k
      · subst e; simp
      · have : ((d : Int) == (k : Int)) = false := by simpa using (fun q => e (by omega))
        rw [this]; simpa using (fun q => e (by omega))
  have hlast : ∀ (out : List Int) (x : Int), (out ++ [x]).getLastD 0 = x := fun out x => by simp [List.getLastD_eq_getLast?]
  unfold codePath refPath
  rcases far_same h old late with ⟨h1, h2⟩ | ⟨d, h1, h2⟩
  · rw [h1, h2]; rfl
  · rw [h1, h2]
    simp only [Int.toNat_natCast]
    rw [if_neg (by omega)]
    have key : ∀ (k : Nat) (lt : Int) (out : List Int), refFar R old lt = k → pathRun L old k (out ++ [lt]) = rPathRun R old k lt (out ++ [lt]) := by
      intro k
      induction k with
      | zero => intro lt out _; rfl
      | succ k ih =>
        intro lt out hk
        obtain ⟨p, hp, hpk⟩ := far_back h hk
        simp only [pathRun, rPathRun]
        rw [hlast, h.par, hff k]
        cases hfi : (rPar R lt).find? (fun p => refFar R old p == (k : Int)) with
        | none =>
          rw [List.find?_eq_none] at hfi
          have := hfi p hp
          rw [hpk] at this
          simp at this
        | some q =>
          simp only [Option.getD_some]
          have hq := List.find?_some hfi
          exact ih q (out ++ [lt]) (by simpa using hq)
    exact key d late [] h2
end Go.Proofs.Ytehneliphhgegaa
