/- The graph as a table and the document's as a row say the same: in plain Lean. · Few commits, and the two graphs made of them: walked once. -/
import Derived.Test.YtehneliphhgegaaGreatDoorZGRefGraphAll
import Derived.Test.YtehneliphhgegaaGreatDoorBase
import Derived.Test.YtehneliphhgegaaGreatDoorDFmt
import Derived.Test.YtehneliphhgegaaGreatDoorDRead
import Derived.Test.YtehneliphhgegaaGreatDoorRows2
import Derived.Test.YtehneliphhgegaaGreatDoorZGGraphAll
section
set_option linter.unusedVariables false
set_option linter.unusedSimpArgs false
namespace Go.Proofs.YtehneliphhgegaaGreatDoor
open Go.RowKit Go.Apo

theorem parGenF_congr {f h : Int → Option CommitD} (e : ∀ i, f i = h i) : ∀ (l : List Int) (g : Int), parGenF f l g = parGenF h l g
  | [], g => rfl
  | p :: l, g => by
    simp only [parGenF, e p]
    cases h p with
    | none => rfl
    | some x => exact parGenF_congr e l _
theorem parGenF_all {f : Int → Option CommitD} : ∀ {l : List Int} {g x : Int}, parGenF f l g = some x → ∀ p ∈ l, ∃ c, f p = some c ∧ c.gen ≤ x
  | p :: l, g, x, h, q, hq => by
    simp only [parGenF] at h
    cases hp : f p with
    | none => rw [hp] at h; cases h
    | some c =>
      rw [hp] at h
      simp only at h
      have mono : ∀ (l : List Int) (g x : Int), parGenF f l g = some x → g ≤ x := by
        intro l
        induction l with
        | nil => intro g x h; cases h; exact Int.le_refl _
        | cons a l ih =>
          intro g x h
          simp only [parGenF] at h
          cases ha : f a with
          | none => rw [ha] at h; cases h
          | some b => rw [ha] at h; have := ih _ _ h; omega
      rcases List.mem_cons.1 hq with rfl | hq
      · exact ⟨c, hp, by have := mono _ _ _ h; omega⟩
      · exact parGenF_all h q hq
theorem parGenF_le {f : Int → Option CommitD} {N : Int} (hf : ∀ i c, f i = some c → 0 ≤ c.gen ∧ c.gen ≤ N) : ∀ {l : List Int} {g x : Int}, 0 ≤ g → g ≤ N → parGenF f l g = some x → 0 ≤ x ∧ x ≤ N
  | [], g, x, h0, h1, h => by cases h; exact ⟨h0, h1⟩
  | p :: l, g, x, h0, h1, h => by
    simp only [parGenF] at h
    cases hp : f p with
    | none => rw [hp] at h; cases h
    | some c =>
      rw [hp] at h
      have := hf p c hp
      exact parGenF_le hf (g := max g c.gen) (by omega) (by omega) h

/-- what two graphs, and how they were made, have in common -/
structure Sync (L : List (Int × CommitD)) (R : List CommitD) : Prop where
  same : ∀ i, rFind R i = mget L i
  len : R.length = L.length
  ids : ∀ i c, mget L i = some c → c.id = i
  gens : ∀ i c, mget L i = some c → 1 ≤ c.gen ∧ c.gen ≤ L.length
  pars : ∀ i c, mget L i = some c → ∀ p ∈ c.par, p ≠ 0 ∧ p < i ∧ ∃ d, mget L p = some d ∧ d.gen < c.gen
  two : ∀ i c, mget L i = some c → c.par.length ≤ 2 ∧ c.par.Nodup
  top : ∀ i c, mget L i = some c → parGenF (mget L) c.par 0 = some (c.gen - 1)
  sorted : R.Pairwise (fun a b => a.id < b.id)
  nodup : (mkeys L).Nodup

theorem Sync.nil : Sync [] [] :=
  ⟨fun _ => rfl, rfl, fun _ _ h => (by cases h), fun _ _ h => (by cases h), fun _ _ h => (by cases h), fun _ _ h => (by cases h), fun _ _ h => (by cases h), List.Pairwise.nil, List.nodup_nil⟩
theorem Sync.err {L : List (Int × CommitD)} {R : List CommitD} (h : Sync L R) (c : CommitD) : raddE R c = addE L c := by
  unfold raddE addE
  rw [h.same c.id, parGen_F, parGenF_congr h.same]
  cases parGenF (mget L) c.par 0 <;> rfl
theorem rFind_app (A B : List CommitD) (i : Int) : rFind (A ++ B) i = (rFind A i).or (rFind B i) := by
  unfold rFind; rw [List.find?_append]
theorem rIns_find {R : List CommitD} {c : CommitD} (h : rFind R c.id = none) (i : Int) : rFind (rIns R c) i = if i = c.id then some c else rFind R i := by
  have e : rFind R i = (rFind (R.take (rPos R c.id)) i).or (rFind (R.drop (rPos R c.id)) i) := by rw [← rFind_app, List.take_append_drop]
  have e0 : rFind R c.id = (rFind (R.take (rPos R c.id)) c.id).or (rFind (R.drop (rPos R c.id)) c.id) := by rw [← rFind_app, List.take_append_drop]
  unfold rIns
  rw [rFind_app, rFind_app]
  have e1 : rFind [c] i = if i = c.id then some c else none := by
    unfold rFind
    rw [List.find?_cons]
    by_cases hi : i = c.id
    · subst hi; simp
    · rw [if_neg hi]
      have : (c.id == i) = false := by simpa using fun e => hi e.symm
      rw [this]; rfl
  rw [e1]
  by_cases hi : i = c.id
  · subst hi
    rw [if_pos rfl, if_pos rfl]
    rw [h] at e0
    cases ht : rFind (R.take (rPos R c.id)) c.id with
    | none => simp
    | some x => rw [ht] at e0; cases e0
  · rw [if_neg hi, if_neg hi, e]
    simp
theorem rIns_sorted {R : List CommitD} {c : CommitD} (hs : R.Pairwise (fun a b => a.id < b.id)) (h : rFind R c.id = none) : (rIns R c).Pairwise (fun a b => a.id < b.id) := by
  unfold rIns
  have hne : ∀ a ∈ R, a.id ≠ c.id := fun a ha e => by
    have := List.find?_eq_none.1 h a ha
    simp [e] at this
  have htake : ∀ a ∈ R.take (rPos R c.id), a.id < c.id := by
    intro a ha
    unfold rPos at ha
    have e : R.take (R.takeWhile fun c' => decide (c'.id < c.id)).length = R.takeWhile fun c' => decide (c'.id < c.id) := by
      conv => lhs; arg 2; rw [← List.takeWhile_append_dropWhile (p := fun c' => decide (c'.id < c.id)) (l := R)]
      rw [List.take_left']
      rfl
    rw [e] at ha
    have h2 := List.all_takeWhile (l := R) (p := fun c' => decide (c'.id < c.id))
    exact of_decide_eq_true (List.all_eq_true.1 h2 a ha)
  have hdrop : ∀ a ∈ R.drop (rPos R c.id), c.id < a.id := by
    intro a ha
    have hd : R.drop (rPos R c.id) = R.dropWhile fun c' => decide (c'.id < c.id) := by
      unfold rPos
      conv => lhs; arg 2; rw [← List.takeWhile_append_dropWhile (p := fun c' => decide (c'.id < c.id)) (l := R)]
      rw [List.drop_left']
      rfl
    have hsd := hs.sublist (List.drop_sublist (rPos R c.id) R)
    rw [hd] at ha hsd
    cases hq : R.dropWhile fun c' => decide (c'.id < c.id) with
    | nil => rw [hq] at ha; cases ha
    | cons b l =>
      rw [hq] at ha hsd
      have hb : ¬ b.id < c.id := by
        have := List.head_dropWhile_not (fun c' : CommitD => decide (c'.id < c.id)) (l := R) (w := by rw [hq]; simp)
        simp only [hq, List.head_cons] at this
        simpa using this
      have hbm : b ∈ R := by
        have : b ∈ R.dropWhile fun c' => decide (c'.id < c.id) := by rw [hq]; exact List.mem_cons_self
        exact (List.dropWhile_sublist _).subset this
      have hb2 := hne b hbm
      rcases List.mem_cons.1 ha with rfl | ha
      · omega
      · have := (List.pairwise_cons.1 hsd).1 a ha
        omega
  rw [List.pairwise_append, List.pairwise_append]
  refine ⟨⟨hs.sublist (List.take_sublist _ _), List.pairwise_singleton _ _, fun a ha b hb => ?_⟩, hs.sublist (List.drop_sublist _ _), fun a ha b hb => ?_⟩
  · rw [List.mem_singleton] at hb; subst hb; exact htake a ha
  · rcases List.mem_append.1 ha with ha | ha
    · exact Int.lt_trans (htake a ha) (hdrop b hb)
    · rw [List.mem_singleton] at ha; subst ha; exact hdrop b hb
theorem rIns_len (R : List CommitD) (c : CommitD) : (rIns R c).length = R.length + 1 := by
  unfold rIns
  have := rPos_le R c.id
  simp
  omega

theorem rightE_pars {c : CommitD} (h : rightE c = 0) : (∀ p ∈ c.par, p ≠ 0 ∧ p < c.id) ∧ c.par.Nodup := by
  have h2 := rightE_par h
  unfold rightE at h
  by_cases ha : (List.range c.par.length).all (parOk c.id c.par) = true
  · rw [List.all_eq_true] at ha
    obtain ⟨i, ps, g, r, t⟩ := c
    simp only at ha h2 ⊢
    match ps, h2 with
    | [], _ => exact ⟨(fun p hp => by cases hp), List.nodup_nil⟩
    | [a], _ =>
      have h0 := ha 0 (by simp)
      simp [parOk] at h0
      exact ⟨fun p hp => by rw [List.mem_singleton] at hp; subst hp; exact h0, by simp⟩
    | [a, b], _ =>
      have h0 := ha 0 (by simp)
      have h1 := ha 1 (by simp)
      simp [parOk] at h0 h1
      refine ⟨fun p hp => ?_, by simp; exact fun e => h1.2 e.symm⟩
      simp only [List.mem_cons, List.not_mem_nil, or_false] at hp
      rcases hp with rfl | rfl
      · exact h0
      · exact h1.1
  · rw [if_neg ha] at h
    repeat' split at h
    all_goals (first | omega | (simp at h; done))
theorem addE_zero {L : List (Int × CommitD)} {c : CommitD} (h : addE L c = 0) : rightE c = 0 ∧ mget L c.id = none ∧ parGenF (mget L) c.par 0 = some (c.gen - 1) := by
  unfold addE at h
  by_cases h1 : rightE c = 0
  · rw [if_pos h1] at h
    cases h2 : mget L c.id with
    | some x => rw [h2] at h; simp at h
    | none =>
      rw [h2] at h
      rw [parGen_F] at h
      cases h3 : parGenF (mget L) c.par 0 with
      | none => rw [h3] at h; simp at h
      | some g =>
        rw [h3] at h
        by_cases h4 : c.gen = g + 1
        · exact ⟨h1, rfl, by rw [h4]; congr 1; omega⟩
        · simp [h4] at h
  · rw [if_neg h1] at h; exact absurd h h1
theorem parGenF_mono {f h : Int → Option CommitD} (e : ∀ i c, f i = some c → h i = some c) : ∀ {l : List Int} {g x : Int}, parGenF f l g = some x → parGenF h l g = some x
  | [], g, x, q => q
  | p :: l, g, x, q => by
    simp only [parGenF] at q ⊢
    cases hp : f p with
    | none => rw [hp] at q; cases q
    | some c => rw [hp] at q; rw [e p c hp]; exact parGenF_mono e q
theorem Sync.put {L : List (Int × CommitD)} {R : List CommitD} (h : Sync L R) (c : CommitD) : Sync (addL L c) (raddL R c) := by
  unfold addL raddL
  rw [h.err c]
  by_cases he : addE L c = 0
  · rw [if_pos he, if_pos he]
    obtain ⟨h1, h2, h3⟩ := addE_zero he
    have hk : c.id ∉ mkeys L := mget_none.1 h2
    have hr : rFind R c.id = none := by rw [h.same]; exact h2
    have hlen : (mput L c.id c).length = L.length + 1 := by rw [mput_new c hk]; simp
    have hold : ∀ i d, mget L i = some d → mget (mput L c.id c) i = some d := fun i d hd => by
      rw [mget_mput]
      by_cases hi : i = c.id
      · subst hi; rw [h2] at hd; cases hd
      · rw [if_neg hi]; exact hd
    have hg := parGenF_le (f := mget L) (N := L.length) (fun i d hd => by have := h.gens i d hd; omega) (Int.le_refl 0) (by omega) h3
    refine ⟨fun i => ?_, ?_, fun i d hd => ?_, fun i d hd => ?_, fun i d hd p hp => ?_, fun i d hd => ?_, fun i d hd => ?_, rIns_sorted h.sorted hr, nodup_mput c h.nodup⟩
    · rw [rIns_find hr, mget_mput, h.same]
    · rw [rIns_len, h.len, hlen]
    · rw [mget_mput] at hd
      by_cases hi : i = c.id
      · rw [if_pos hi] at hd; cases hd; exact hi.symm
      · rw [if_neg hi] at hd; exact h.ids i d hd
    · rw [hlen]
      rw [mget_mput] at hd
      by_cases hi : i = c.id
      · rw [if_pos hi] at hd; cases hd; omega
      · rw [if_neg hi] at hd; have := h.gens i d hd; omega
    · rw [mget_mput] at hd
      by_cases hi : i = c.id
      · rw [if_pos hi] at hd; cases hd
        obtain ⟨x, hx, hx2⟩ := parGenF_all h3 p hp
        have := (rightE_pars h1).1 p hp
        exact ⟨this.1, by omega, x, hold p x hx, by omega⟩
      · rw [if_neg hi] at hd
        obtain ⟨q1, q2, x, q3, q4⟩ := h.pars i d hd p hp
        exact ⟨q1, q2, x, hold p x q3, q4⟩
    · rw [mget_mput] at hd
      by_cases hi : i = c.id
      · rw [if_pos hi] at hd; cases hd; exact ⟨rightE_par h1, (rightE_pars h1).2⟩
      · rw [if_neg hi] at hd; exact h.two i d hd
    · rw [mget_mput] at hd
      by_cases hi : i = c.id
      · rw [if_pos hi] at hd; cases hd; exact parGenF_mono hold h3
      · rw [if_neg hi] at hd; exact parGenF_mono hold (h.top i d hd)
  · rw [if_neg he, if_neg he]; exact h
theorem Sync.small {L : List (Int × CommitD)} {R : List CommitD} (h : Sync L R) (hl : L.length ≤ 100000) : SmallG L ∧ RSmall R ∧ R.length ≤ 100000 := by
  refine ⟨fun i c hc => ?_, fun i c hc => ?_, by rw [h.len]; exact hl⟩
  · have := h.gens i c hc; omega
  · rw [h.same] at hc; have := h.gens i c hc; omega
end Go.Proofs.YtehneliphhgegaaGreatDoor
end
section
set_option linter.unusedVariables false
set_option linter.unusedSimpArgs false
set_option maxRecDepth 100000
namespace Go.Proofs.YtehneliphhgegaaGreatDoor
open Go.RowKit Go.Apo

def u64ok (x : Int) : Prop := 0 ≤ x ∧ x < 18446744073709551616
/-- commits that came in -/
structure CIn (w : World) (A : Option Addr) (n : Nat) (l : List CommitD) : Prop where
  len : l.length = n
  row : CRow w A l
  room : n * 64 ≤ 140737488351232
  wf : ∀ c ∈ l, u64ok c.id ∧ u64ok c.gen ∧ u64ok c.root ∧ ∀ p ∈ c.par, u64ok p
theorem CIn.below {w w' : World} {A : Option Addr} {n : Nat} {l : List CommitD} (h : CIn w A n l) (hb : Below w.heap.size w w') : CIn w' A n l :=
  ⟨h.len, h.row.below hb, h.room, h.wf⟩
theorem CIn.gens {w : World} {A : Option Addr} {n : Nat} {l : List CommitD} (h : CIn w A n l) : ∀ c ∈ l, 0 ≤ c.gen := fun c hc => (h.wf c hc).2.1.1
def light (c : CommitD) : Bool := decide (c.par.length ≤ 5) && decide (c.text.size ≤ 100)
def few (l : List CommitD) : Bool := l.all light && decide (l.length ≤ 25)

theorem light_calls (w : World) (i g r : Int) (t : ByteArray) (A : Option Addr) (n k : Nat) :
    Calls Tryz.prog 14 #[.agg #[.int .u64 i, .slice A n k, .int .u64 g, .int .u64 r, .string t]] w fun e w' => e = .returned (.bool (decide (n ≤ 5) && decide (t.size ≤ 100))) ∧ Below w.heap.size w w' := by
  by_cases h1 : n ≤ 5
  · have g1 : decide ((n : Int) ≤ 5) = true := by simp; omega
    have e : (decide (n ≤ 5) && decide (t.size ≤ 100)) = decide ((t.size : Int) ≤ 100) := by
      rw [decide_eq_true h1, Bool.true_and]; exact decide_eq_decide.2 (by omega)
    rw [e]
    clear e
    go_enter Tryz.func14, Tryz.ntmps14
    go_wp2
    go_ret
    exact ⟨rfl, by (repeat (first | (with_reducible exact Below.refl _ _) | (with_reducible assumption) | (with_reducible refine bel_al0 ?_ _) | (with_reducible refine bel_set ?_ (by first | (simp; done) | (simp; omega)) _) | (with_reducible refine bel_dr ?_) | (with_reducible refine bel_drn ?_ _) | (with_reducible refine bel_tr ?_ (by assumption))))⟩
  · have g1 : decide ((n : Int) ≤ 5) = false := by simp; omega
    have e : (decide (n ≤ 5) && decide (t.size ≤ 100)) = false := by simp; omega
    rw [e]
    clear e
    go_enter Tryz.func14, Tryz.ntmps14
    go_wp2
    go_ret
    exact ⟨rfl, by (repeat (first | (with_reducible exact Below.refl _ _) | (with_reducible assumption) | (with_reducible refine bel_al0 ?_ _) | (with_reducible refine bel_set ?_ (by first | (simp; done) | (simp; omega)) _) | (with_reducible refine bel_dr ?_) | (with_reducible refine bel_drn ?_ _) | (with_reducible refine bel_tr ?_ (by assumption))))⟩

theorem few15_calls (w : World) (A : Option Addr) (n k : Nat) (l : List CommitD) (h : CIn w A n l) :
    Calls Tryz.prog 6 #[.slice A n k] w fun e w' => e = .returned (.bool (few l)) ∧ Below w.heap.size w w' := by
  obtain ⟨z, hz⟩ : ∃ z, z = few l := ⟨_, rfl⟩
  rw [← hz]
  unfold few at hz
  have hn := h.room
  have hl := h.len
  rw [hl] at hz
  have HZ := Lib.hid hz; clear hz
  have HL := Lib.hid hl; clear hl
  have H := Lib.hid h; clear h
  go_enter Tryz.func6, Tryz.ntmps6
  go_wp2
  go_loopw [7, 4] (fun v _ wr => ∃ j : Nat, j ≤ n ∧ v = .int .i64 j ∧ Hid (∀ q c, q < j → l[q]? = some c → light c = true) ∧ Below w.heap.size w wr) (fun v _ _ => n - (intOf v).toNat)
  case atStart => exact ⟨0, Nat.zero_le _, rfl, fun q _ hq => absurd hq (Nat.not_lt_zero _), by (repeat (first | (with_reducible exact Below.refl _ _) | (with_reducible assumption) | (with_reducible refine bel_al0 ?_ _) | (with_reducible refine bel_set ?_ (by first | (simp; done) | (simp; omega)) _) | (with_reducible refine bel_dr ?_) | (with_reducible refine bel_drn ?_ _) | (with_reducible refine bel_tr ?_ (by assumption))))⟩
  case round =>
    obtain ⟨j, hj, rfl, hok, hB⟩ := hrel
    by_cases hlt : j < n
    · obtain ⟨c, hcj⟩ : ∃ c, l[j]? = some c := ⟨_, List.getElem?_eq_getElem (by rw [HL.out]; exact hlt)⟩
      obtain ⟨b, off, A', k', rfl, c0, c1, c2, c3, c4, _⟩ := H.out.row.at_ hcj
      replace c0 := cell_bel c0 hB
      replace c1 := cell_bel c1 hB
      replace c2 := cell_bel c2 hB
      replace c3 := cell_bel c3 hB
      replace c4 := cell_bel c4 hB
      have hmem := List.mem_of_getElem? hcj
      have HC := Lib.hid hcj; clear hcj
      have HLT := Lib.hid (fun W => light_calls W c.id c.gen c.root c.text A' c.par.length k')
      have HMEM := Lib.hid hmem; clear hmem
      have he : (decide (c.par.length ≤ 5) && decide (c.text.size ≤ 100)) = light c := rfl
      rw [he] at HLT
      clear he
      cases hq : light c with
      | true =>
        rw [hq] at HLT
        go_wp2_with (go_at_call 14; refine (HLT.out _).mono ?_; rintro e w1 ⟨rfl, hb1⟩)
        go_roundw
        case rel =>
          refine ⟨j + 1, by omega, by go_num, fun q c' hq' hq2 => ?_, by (repeat (first | (with_reducible exact Below.refl _ _) | (with_reducible assumption) | (with_reducible refine bel_al0 ?_ _) | (with_reducible refine bel_set ?_ (by first | (simp; done) | (simp; omega)) _) | (with_reducible refine bel_dr ?_) | (with_reducible refine bel_drn ?_ _) | (with_reducible refine bel_tr ?_ (by assumption))))⟩
          rcases Nat.lt_or_ge q j with h' | h'
          · exact hok.out q c' h' hq2
          · obtain rfl : q = j := by omega
            rw [HC.out] at hq2; cases hq2; exact hq
        case measure => simp [intOf]; omega
      | false =>
        rw [hq] at HLT
        have hz : z = false := by
          have := HZ.out
          rw [this]
          have h2 : l.all light = false := by
            cases h3 : l.all light with
            | false => rfl
            | true => rw [List.all_eq_true] at h3; have := h3 c HMEM.out; rw [hq] at this; cases this
          rw [h2]; rfl
        subst hz
        clear hq
        go_wp2_with (go_at_call 14; refine (HLT.out _).mono ?_; rintro e w1 ⟨rfl, hb1⟩)
        go_ret
        exact ⟨rfl, by (repeat (first | (with_reducible exact Below.refl _ _) | (with_reducible assumption) | (with_reducible refine bel_al0 ?_ _) | (with_reducible refine bel_set ?_ (by first | (simp; done) | (simp; omega)) _) | (with_reducible refine bel_dr ?_) | (with_reducible refine bel_drn ?_ _) | (with_reducible refine bel_tr ?_ (by assumption))))⟩
    · have hz : z = decide ((n : Int) ≤ 25) := by
        have := HZ.out
        rw [this]
        have h2 : l.all light = true := by
          rw [List.all_eq_true]
          intro c hc
          obtain ⟨q, hq⟩ := List.mem_iff_getElem?.1 hc
          exact hok.out q c (by have := (List.getElem?_eq_some_iff.1 hq).1; have := HL.out; omega) hq
        rw [h2, Bool.true_and]; exact decide_eq_decide.2 (by omega)
      subst hz
      go_wp2
      go_ret
      exact ⟨rfl, hB⟩

theorem MapIs.but {w w' : World} {x m : Nat} {A0 : Option Addr} {n0 k0 : Nat} {t : TypeId} {L : List (Int × CommitD)} (hB : Blk w x #[.slice A0 n0 k0] t) (hb : But x w w') (h : MapIs (Value.int .u64) gcIs w m L) : MapIs (Value.int .u64) gcIs w' m L := by
  have hm : m ≠ x := by
    intro e; subst e
    obtain ⟨o, ho, hc⟩ := h.notCells
    rw [hB] at ho; cases ho; cases hc
  obtain ⟨es, c, h1, hs, he⟩ := h.ex
  have hlt := h.lt
  exact ⟨es, c, (hb.block m hlt hm).trans h1, hs, he.mono (fun v y hy => ⟨commitIs_but hB hb hy.1, hy.2⟩)⟩
/-- the table stays where the row has turned -/
theorem GraphAt.but {w w' : World} {p m x : Nat} {L : List (Int × CommitD)} {R : List CommitD} (h : GraphAt w p m L) (hx : RGraphAt w x R) (hb : But x w w') : GraphAt w' p m L := by
  obtain ⟨A, k, hB, _⟩ := hx
  refine ⟨?_, MapIs.but hB hb h.2⟩
  have hp : p ≠ x := by
    intro e; subst e
    have := hB.one.1
    rw [h.1] at this; cases this
  exact (hb.cell (p := ⟨p, 0, none⟩) (cell_lt h.1) hp).trans h.1
/-- the row stays where the table has turned -/
theorem RGraphAt.but {w w' : World} {p m x : Nat} {L : List (Int × CommitD)} {R : List CommitD} (h : RGraphAt w x R) (hx : GraphAt w p m L) (hb : But m w w') : RGraphAt w' x R := by
  obtain ⟨o, ho, hc⟩ := hx.2.notCells
  obtain ⟨A, k, hB, hrow, h3⟩ := h
  exact ⟨A, k, hb.cells ho hc x _ hB rfl, hrow.cells (hb.cells ho hc), h3⟩

/-- how two graphs are made -/
def madeL (l : List CommitD) : List (Int × CommitD) := l.foldl addL []
def madeR (l : List CommitD) : List CommitD := l.foldl raddL []
theorem made_snoc (l : List CommitD) (c : CommitD) : madeL (l ++ [c]) = addL (madeL l) c ∧ madeR (l ++ [c]) = raddL (madeR l) c := by
  unfold madeL madeR; simp
theorem made_sync_aux : ∀ (l : List CommitD) (L : List (Int × CommitD)) (R : List CommitD), Sync L R → Sync (l.foldl addL L) (l.foldl raddL R)
  | [], _, _, h => h
  | c :: l, L, R, h => made_sync_aux l _ _ (h.put c)
theorem made_sync (l : List CommitD) : Sync (madeL l) (madeR l) := made_sync_aux l [] [] Sync.nil
theorem addL_len (L : List (Int × CommitD)) (c : CommitD) : (addL L c).length ≤ L.length + 1 := by
  unfold addL
  split
  · by_cases h : c.id ∈ mkeys L
    · rw [length_mput_old c h]; omega
    · rw [mput_new c h]; simp
  · omega
theorem made_len (l : List CommitD) : (madeL l).length ≤ l.length := by
  have : ∀ (l : List CommitD) (L : List (Int × CommitD)), (l.foldl addL L).length ≤ L.length + l.length := by
    intro l
    induction l with
    | nil => intro L; simp
    | cons c l ih => intro L; have := ih (addL L c); have := addL_len L c; simp only [List.foldl_cons, List.length_cons]; omega
  have := this l []
  simpa [madeL] using this
/-- what Made leaves -/
def MadePost (w : World) (l : List CommitD) (e : Ending) (w' : World) : Prop :=
  ∃ p m x, e = .returned (.tuple #[.pointer (some ⟨p, 0, none⟩), .pointer (some ⟨x, 0, none⟩), .bool true]) ∧ GraphAt w' p m (madeL l) ∧ RGraphAt w' x (madeR l) ∧ Below w.heap.size w w' ∧ w.heap.size ≤ p ∧ w.heap.size ≤ m ∧ w.heap.size ≤ x

set_option maxHeartbeats 4000000 in
theorem made_calls (w : World) (A : Option Addr) (n k : Nat) (l : List CommitD) (h : CIn w A n l) (hf : few l = true) :
    Calls Tryz.prog 8 #[.slice A n k] w (MadePost w l) := by
  have hn := h.room
  have hl := h.len
  have hf2 : n ≤ 25 ∧ ∀ c ∈ l, c.text.size ≤ 100 := by
    unfold few at hf
    rw [Bool.and_eq_true, List.all_eq_true, decide_eq_true_iff, hl] at hf
    refine ⟨hf.2, fun c hc => ?_⟩
    have := hf.1 c hc
    unfold light at this
    simp at this
    exact this.2
  have hn25 := hf2.1
  have HT := Lib.hid hf2.2; clear hf2 hf
  have HL := Lib.hid hl; clear hl
  have H := Lib.hid h; clear h
  go_enter Tryz.func8, Tryz.ntmps8
  go_wp2_with (go_at_call 15; refine (gnew_calls _).mono ?_; rintro e w1 ⟨rfl, hg1, hb1⟩)
  obtain ⟨m, hm⟩ : ∃ m, m = w.heap.size := ⟨_, rfl⟩
  obtain ⟨p, hp⟩ : ∃ p, p = w.heap.size + 1 := ⟨_, rfl⟩
  obtain ⟨x, hx⟩ : ∃ x, x = w1.heap.size := ⟨_, rfl⟩
  rw [← hp]
  rw [← hp, ← hm] at hg1
  have hr1 : RGraphAt (w1.alloc (.cells #[.slice none 0 0] 38)) x [] := by
    rw [hx]
    exact ⟨none, 0, blk_new w1 _ _, ⟨[], trivial, Flat.nil _ _⟩, fun _ => ⟨rfl, rfl⟩, Nat.le_refl _⟩
  have hg2 := hg1.below (bel_al0 (Below.refl _ w1) (.cells #[.slice none 0 0] 38))
  have hb2 : Below w.heap.size w (w1.alloc (.cells #[.slice none 0 0] 38)) := by (repeat (first | (with_reducible exact Below.refl _ _) | (with_reducible assumption) | (with_reducible refine bel_al0 ?_ _) | (with_reducible refine bel_set ?_ (by first | (simp; done) | (simp; omega)) _) | (with_reducible refine bel_dr ?_) | (with_reducible refine bel_drn ?_ _) | (with_reducible refine bel_tr ?_ (by assumption))))
  have hwx : w.heap.size ≤ x ∧ w.heap.size ≤ p ∧ w.heap.size ≤ m := by have := hb1.size; omega
  rw [← hx]
  have HWX := Lib.hid hwx; clear hwx
  have HM := Lib.hid hm; clear hm
  have HP := Lib.hid hp; clear hp
  have HXX := Lib.hid hx; clear hx
  have HR1 := Lib.hid hr1; clear hr1
  have HG1 := Lib.hid hg2; clear hg2 hg1
  obtain ⟨w2, hw2⟩ : ∃ w2, w2 = w1.alloc (.cells #[.slice none 0 0] 38) := ⟨_, rfl⟩
  rw [← hw2] at HR1 HG1 hb2 ⊢
  clear hw2 hb1

  go_loopw [14, 8] (fun v _ wr => ∃ j : Nat, j ≤ n ∧ v = .int .i64 j ∧ Hid (GraphAt wr p m (madeL (l.take j))) ∧ Hid (RGraphAt wr x (madeR (l.take j))) ∧ Below w.heap.size w wr) (fun v _ _ => n - (intOf v).toNat)
  case atStart => exact ⟨0, Nat.zero_le _, rfl, HG1, HR1, hb2⟩
  case round =>
    obtain ⟨j, hj, rfl, hG, hR, hB⟩ := hrel
    by_cases hlt : j < n
    · obtain ⟨c, hcj⟩ : ∃ c, l[j]? = some c := ⟨_, List.getElem?_eq_getElem (by rw [HL.out]; exact hlt)⟩
      obtain ⟨b, off, A', k', rfl, c0, c1, c2, c3, c4, hfl, hA'⟩ := H.out.row.at_ hcj
      replace c0 := cell_bel c0 hB
      replace c1 := cell_bel c1 hB
      replace c2 := cell_bel c2 hB
      replace c3 := cell_bel c3 hB
      replace c4 := cell_bel c4 hB
      have hmem := List.mem_of_getElem? hcj
      have htk : l.take (j + 1) = l.take j ++ [c] := by rw [List.take_add_one, hcj]; rfl
      have hsy := made_sync (l.take j)
      have hln := made_len (l.take j)
      have hsm := hsy.small (by rw [List.length_take] at hln; omega)
      have hms := made_snoc (l.take j) c
      rw [← htk] at hms
      have he := hsy.err c
      have HA := Lib.hid (fun W (h1 : GraphAt W p m (madeL (l.take j))) h2 => add_calls W p m _ h1 hsm.1 c.id c.gen c.root c.text A' c.par.length k' c.par rfl h2 hA')
      have HRA := Lib.hid (fun W (h1 : RGraphAt W x (madeR (l.take j))) h2 => radd_calls W x _ h1 hsm.2.1 hsm.2.2 c.id c.gen c.root c.text A' c.par.length k' c.par rfl h2 hA' (H.out.gens c hmem) (by have := HT.out c hmem; omega))
      have hcc : (⟨c.id, c.par, c.gen, c.root, c.text⟩ : CommitD) = c := rfl
      rw [hcc, ← hms.1] at HA
      rw [hcc, ← hms.2, he] at HRA
      obtain ⟨ee, hee⟩ : ∃ ee, ee = addE (madeL (l.take j)) c := ⟨_, rfl⟩
      rw [← hee] at HA HRA
      clear hcc hms he hsm hln hsy hmem hcj htk hee
      have HFL := Lib.hid (hfl.below hB); clear hfl
      clear hA'
      go_wp2
      obtain ⟨W, hW⟩ : ∃ W, W = wr.alloc (.cells #[.int .u64 c.id, .slice A' c.par.length k', .int .u64 c.gen, .int .u64 c.root, .string c.text] 41) := ⟨_, rfl⟩
      have B0 : Blk W wr.heap.size #[.int .u64 c.id, .slice A' c.par.length k', .int .u64 c.gen, .int .u64 c.root, .string c.text] 41 := by rw [hW]; exact blk_new wr _ _
      have hBW : Below wr.heap.size wr W := by rw [hW]; (repeat (first | (with_reducible exact Below.refl _ _) | (with_reducible assumption) | (with_reducible refine bel_al0 ?_ _) | (with_reducible refine bel_set ?_ (by first | (simp; done) | (simp; omega)) _) | (with_reducible refine bel_dr ?_) | (with_reducible refine bel_drn ?_ _) | (with_reducible refine bel_tr ?_ (by assumption))))
      rw [← hW]
      clear hW c0 c1 c2 c3 c4
      have HGW := Lib.hid (hG.out.below hBW)
      have HRW := Lib.hid (hR.out.below hBW)
      have HFW := Lib.hid (HFL.out.below hBW)
      have hbx : wr.heap.size ≠ x := by
        obtain ⟨_, _, hb, _⟩ := hR.out
        have := hb.lt; omega
      obtain ⟨y0, y1, y2, y3, y4, yf⟩ := B0.five
      clear B0 yf
      have HBW := Lib.hid hBW; clear hBW
      go_region_held3 (fun w' => w'.cell? ⟨wr.heap.size, 0, none⟩ = some (.int .u64 c.id) ∧ w'.cell? ⟨wr.heap.size, 1, none⟩ = some (.slice A' c.par.length k') ∧ w'.cell? ⟨wr.heap.size, 2, none⟩ = some (.int .u64 c.gen) ∧ w'.cell? ⟨wr.heap.size, 3, none⟩ = some (.int .u64 c.root) ∧ w'.cell? ⟨wr.heap.size, 4, none⟩ = some (.string c.text)) (first | go_keep)
        (first | (go_at_call 16; refine (HA.out _ (HGW.out.below (bel_dr (Below.refl _ _))) (HFW.out.below (bel_dr (Below.refl _ _)))).mono ?_; rintro e w3 ⟨rfl, ht3, hbt3⟩; obtain ⟨o9, ho9, hoc9⟩ := (HGW.out.below (bel_dr (Below.refl _ W))).2.notCells; have z0 := hbt3.cell_keeps ho9 hoc9 y0; have z1 := hbt3.cell_keeps ho9 hoc9 y1; have z2 := hbt3.cell_keeps ho9 hoc9 y2; have z3 := hbt3.cell_keeps ho9 hoc9 y3; have z4 := hbt3.cell_keeps ho9 hoc9 y4; have HG3 := Lib.hid ht3; clear ht3; have HR3 := Lib.hid ((HRW.out.below (bel_dr (Below.refl _ W))).but (HGW.out.below (bel_dr (Below.refl _ W))) hbt3); have HF3 := Lib.hid ((HFW.out.below (bel_dr (Below.refl _ W))).cells (hbt3.cells ho9 hoc9)); have HB3 := Lib.hid hbt3; clear hbt3 ho9 hoc9) | (go_at_call 17; refine (HRA.out _ HR3.out HF3.out).mono ?_; rintro e w4 ⟨rfl, ht4, hbt4⟩; have v0 := (hbt4.cell (cell_lt z0) hbx).trans z0; have v1 := (hbt4.cell (cell_lt z1) hbx).trans z1; have v2 := (hbt4.cell (cell_lt z2) hbx).trans z2; have v3 := (hbt4.cell (cell_lt z3) hbx).trans z3; have v4 := (hbt4.cell (cell_lt z4) hbx).trans z4; have HG4 := Lib.hid (HG3.out.but HR3.out hbt4); have HR4 := Lib.hid ht4; clear ht4; have HB4 := Lib.hid hbt4; clear hbt4))
      have hfin : Below w.heap.size w w4 := by
        have h0 : Below w.heap.size w W := bel_tr hB HBW.out
        have h1 : Below w.heap.size w w3 := But.below (bel_dr h0) (Nat.le_refl _) HWX.out.2.2 HB3.out
        exact But.below h1 (Nat.le_refl _) HWX.out.1 HB4.out
      go_wp2
      go_roundw
      case rel => exact ⟨j + 1, by omega, by go_num, HG4, HR4, hfin⟩
      case measure => simp [intOf]; omega
    · have hjn : j = n := by omega
      have htk : l.take j = l := by rw [List.take_of_length_le]; rw [HL.out]; omega
      rw [htk] at hG hR
      clear htk
      go_wp2
      go_ret3
      exact ⟨p, m, x, rfl, hG.out, hR.out, hB, HWX.out.2.1, HWX.out.2.2, HWX.out.1⟩
end Go.Proofs.YtehneliphhgegaaGreatDoor
end
