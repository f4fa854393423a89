/- The document's children of a commit; the law WalkKids: walked. · The law WalkKids in plain Lean: what the code and the document answer. -/
import Derived.Test.YtehneliphhgegaaKidsAll
import Derived.Test.YtehneliphhgegaaLaw15a
import Derived.Test.YtehneliphhgegaaWalkPaths
section
set_option linter.unusedVariables false
set_option linter.unusedSimpArgs false
set_option maxRecDepth 100000
namespace Go.Proofs.Ytehneliphhgegaa
open Go.RowKit Go.Apo

def rkids (R : List CommitD) (x : Int) : List Int := (R.filter fun c => decide (x ∈ c.par)).map CommitD.id
theorem rkids_snoc (R : List CommitD) (x : Int) (c : CommitD) : rkids (R ++ [c]) x = if decide (x ∈ c.par) then rkids R x ++ [c.id] else rkids R x := by
  unfold rkids
  rw [List.filter_append]
  cases h : decide (x ∈ c.par) <;> simp [h]
theorem rkids_len (R : List CommitD) (x : Int) : (rkids R x).length ≤ R.length := by
  unfold rkids
  rw [List.length_map]
  exact List.length_filter_le _ _

theorem rkids_calls (w : World) (g : Nat) (R : List CommitD) (h : RGraphAt w g R) (hR : R.length ≤ 100000) (h2 : ∀ c ∈ R, c.par.length ≤ 2) (x : Int) :
    Calls Try.prog 51 #[.pointer (some ⟨g, 0, none⟩), .int .u64 x] w (NumsOwn w (rkids R x)) := by
  obtain ⟨A, k, hblk, hrow, hA, _⟩ := h
  have hc := hblk.one.1; clear hblk
  unfold NumsOwn
  obtain ⟨n, hn⟩ : ∃ n, n = R.length := ⟨_, rfl⟩
  rw [← hn] at hc hR
  have HROW := Lib.hid hrow; clear hrow
  have HN := Lib.hid hn; clear hn hA
  have H2 := Lib.hid h2; clear h2
  have hxl := cell_lt hc
  go_enter Try.func51, Try.ntmps51
  go_wp2
  go_loopw [13, 5] (fun v v5 wr => ∃ j : Nat, j ≤ n ∧ v = .int .i64 j ∧ Hid (wr.ownsRow w.heap.size 24 1 v5 (rkids (R.take j) x).length (nums (rkids (R.take j) x))) ∧ Below w.heap.size w wr) (fun v _ _ => n - (intOf v).toNat)
  case atStart => exact ⟨0, Nat.zero_le _, rfl, World.ownsRow_nil _ _ _ _, by (repeat (first | (with_reducible exact Below.refl _ _) | (with_reducible assumption) | (with_reducible refine bel_al0 ?_ _) | (with_reducible refine bel_set ?_ (by first | (simp; done) | (simp; omega)) _) | (with_reducible refine bel_dr ?_) | (with_reducible refine bel_drn ?_ _) | (with_reducible refine bel_tr ?_ (by assumption))))⟩
  case round =>
    obtain ⟨j, hj, rfl, ho, hB⟩ := hrel
    by_cases hlt : j < n
    · obtain ⟨c, hcj⟩ : ∃ c, R[j]? = some c := ⟨_, List.getElem?_eq_getElem (by rw [← HN.out]; exact hlt)⟩
      obtain ⟨b, off, A', k', rfl, c0, c1, c2, c3, c4, hF, _⟩ := HROW.out.at_ hcj
      replace c0 := cell_bel c0 hB
      replace c1 := cell_bel c1 hB
      replace c2 := cell_bel c2 hB
      replace c3 := cell_bel c3 hB
      replace c4 := cell_bel c4 hB
      have HF := Lib.hid (hF.below hB); clear hF
      have htk : R.take (j + 1) = R.take j ++ [c] := by rw [List.take_add_one, hcj]; rfl
      have hin := rkids_snoc (R.take j) x c
      rw [← htk] at hin
      have HIN := Lib.hid hin; clear hin
      have hp2 := H2.out c (List.mem_of_getElem? hcj)
      have hle := rkids_len (R.take j) x
      rw [List.length_take] at hle
      obtain ⟨is, his⟩ : ∃ is, is = rkids (R.take j) x := ⟨_, rfl⟩
      rw [← his] at ho HIN hle
      clear his htk hcj
      have hil : is.length ≤ 100000 := by omega
      obtain ⟨ni, hni⟩ : ∃ ni, ni = is.length := ⟨_, rfl⟩
      rw [← hni] at ho hil
      have HNI := Lib.hid hni; clear hni hle
      have hsz := hB.size
      have HH := Lib.hid (fun W (hW : Below wr.heap.size wr W) => has_calls W A' c.par.length k' c.par rfl (HF.out.below hW) (by omega) x)
      obtain ⟨np, hnp⟩ : ∃ np, np = c.par.length := ⟨_, rfl⟩
      rw [← hnp] at HH c1
      clear hnp hp2
      obtain ⟨y, hy⟩ : ∃ y, y = decide (x ∈ c.par) := ⟨_, rfl⟩
      rw [← hy] at HH HIN
      clear hy
      cases y with
      | false =>
        go_wp2_with (go_at_call 79; refine (HH.out _ (by (repeat (first | (with_reducible exact Below.refl _ _) | (with_reducible assumption) | (with_reducible refine bel_al0 ?_ _) | (with_reducible refine bel_set ?_ (by first | (simp; done) | (simp; omega)) _) | (with_reducible refine bel_dr ?_) | (with_reducible refine bel_drn ?_ _) | (with_reducible refine bel_tr ?_ (by assumption)))))).mono ?_; rintro e w' ⟨rfl, rfl⟩)
        go_roundw
        case rel =>
          refine ⟨j + 1, by omega, by go_num, ?_, by (repeat (first | (with_reducible exact Below.refl _ _) | (with_reducible assumption) | (with_reducible refine bel_al0 ?_ _) | (with_reducible refine bel_set ?_ (by first | (simp; done) | (simp; omega)) _) | (with_reducible refine bel_dr ?_) | (with_reducible refine bel_drn ?_ _) | (with_reducible refine bel_tr ?_ (by assumption))))⟩
          show World.ownsRow _ _ _ _ _ _ _
          rw [HIN.out]
          simp only [Bool.false_eq_true, if_false]
          rw [← HNI.out]
          exact own_below ho.out (by (repeat (first | (with_reducible exact Below.refl _ _) | (with_reducible assumption) | (with_reducible refine bel_al0 ?_ _) | (with_reducible refine bel_set ?_ (by first | (simp; done) | (simp; omega)) _) | (with_reducible refine bel_dr ?_) | (with_reducible refine bel_drn ?_ _) | (with_reducible refine bel_tr ?_ (by assumption)))))
        case measure => simp [intOf]; omega
      | true =>
        go_wp2_with (first | (go_at_call 79; refine (HH.out _ (by (repeat (first | (with_reducible exact Below.refl _ _) | (with_reducible assumption) | (with_reducible refine bel_al0 ?_ _) | (with_reducible refine bel_set ?_ (by first | (simp; done) | (simp; omega)) _) | (with_reducible refine bel_dr ?_) | (with_reducible refine bel_drn ?_ _) | (with_reducible refine bel_tr ?_ (by assumption)))))).mono ?_; rintro e w' ⟨rfl, rfl⟩) | (at_builtin; refine wpl_append rfl _ _ 50 rfl w.heap.size 24 _ 1 8 Try.underlying50 infoU64 rfl (by decide) _ ni (nums is) rfl (own_below ho.out (bel_al0 (bel_al0 (Below.refl _ _) _) _)) (some ⟨wr.heap.size + 1, 0, none⟩) 1 1 (nums [c.id]) rfl rfl (by have := flat_one (wr.alloc (.cells #[.int .u64 c.id, .slice A' np k', .int .u64 c.gen, .int .u64 c.root, .string c.text] 69)) c.id; simpa using this) (nums_one _) (by unfold maxLen; omega) (by omega) (by simp; omega) ?_; intro v' w6 ho6 hg6 hat6))
        have hb6 : Below w.heap.size w w6 := grown_bel (bel_al0 (bel_al0 hB _) _) (Nat.le_refl _) hg6 (own_row_ge ho.out)
        go_roundw
        case rel =>
          refine ⟨j + 1, by omega, by go_num, ?_, hb6⟩
          show World.ownsRow _ _ _ _ _ _ _
          rw [HIN.out]
          simp only [if_true]
          rw [nums_app, List.length_append, ← HNI.out]
          exact ho6
        case measure => simp [intOf]; omega
    · have hjn : j = n := by omega
      have htk : R.take j = R := by rw [List.take_of_length_le]; have := HN.out; omega
      rw [htk] at ho
      go_wp2
      go_ret
      exact ⟨_, rfl, ho.out, hB⟩
end Go.Proofs.Ytehneliphhgegaa
end
section
set_option linter.unusedVariables false
set_option linter.unusedSimpArgs false
namespace Go.Proofs.Ytehneliphhgegaa
open Go.RowKit Go.Apo

def DJ (a b : Value) : Prop := ∀ k, a.ownBlock = some k → b.ownBlock ≠ some k
theorem DJ.left {a b : Value} (h : DJ a b) : b.ownBlock = none ∨ b.ownBlock ≠ a.ownBlock := by
  cases hb : b.ownBlock with
  | none => exact Or.inl rfl
  | some k => exact Or.inr (fun e => h k e.symm hb)
theorem DJ.right {a b : Value} (h : DJ a b) : a.ownBlock = none ∨ a.ownBlock ≠ b.ownBlock := by
  cases ha : a.ownBlock with
  | none => exact Or.inl rfl
  | some k => exact Or.inr (fun e => h k ha e.symm)
theorem DJ.grow_l {a a' b : Value} {N : Nat} (h : DJ a b) (ha : a'.ownBlock = a.ownBlock ∨ a'.ownBlock = some N) (hb : ∀ k, b.ownBlock = some k → k < N) : DJ a' b := fun k hk hb' => by
  rcases ha with e | e
  · exact h k (e ▸ hk) hb'
  · rw [e] at hk; cases hk; have := hb _ hb'; omega
theorem DJ.grow_r {a b b' : Value} {N : Nat} (h : DJ a b) (hb : b'.ownBlock = b.ownBlock ∨ b'.ownBlock = some N) (ha : ∀ k, a.ownBlock = some k → k < N) : DJ a b' := fun k hk hb' => by
  rcases hb with e | e
  · exact h k hk (e ▸ hb')
  · rw [e] at hb'; cases hb'; have := ha _ hk; omega

theorem rFind_self : ∀ {R : List CommitD}, R.Pairwise (fun a b => a.id < b.id) → ∀ c ∈ R, rFind R c.id = some c
  | d :: R, h, c, hc => by
    rw [List.pairwise_cons] at h
    unfold rFind
    rw [List.find?_cons]
    rcases List.mem_cons.1 hc with rfl | hc
    · simp
    · have := h.1 c hc
      have hne : (d.id == c.id) = false := by simp; omega
      rw [hne]
      exact rFind_self h.2 c hc
theorem Sync.at_ {L : List (Int × CommitD)} {R : List CommitD} (h : Sync L R) {c : CommitD} (hc : c ∈ R) : gGet L c.id = c := by
  unfold gGet
  rw [← h.same, rFind_self h.sorted c hc]; rfl
theorem filter_ids {L : List (Int × CommitD)} {R : List CommitD} (h : Sync L R) (f : CommitD → Bool) (g : Int → Bool) (e : ∀ c ∈ R, g c.id = f c) : (sortI (mkeys L)).filter g = (R.filter f).map CommitD.id := by
  rw [sync_ids h, List.filter_map]
  congr 1
  exact List.filter_congr e
theorem Sync.kids {L : List (Int × CommitD)} {R : List CommitD} (h : Sync L R) (x : Int) : kidsL L x = rkids R x := by
  unfold kidsL kidsIn rkids
  refine filter_ids h _ _ fun c hc => ?_
  rw [h.at_ hc]
  unfold hasB
  by_cases hx : x ∈ c.par
  · rw [decide_eq_true hx, List.any_eq_true]; exact ⟨x, hx, by simp⟩
  · rw [decide_eq_false hx, List.any_eq_false]
    intro y hy
    simp
    rintro rfl
    exact hx hy
def rroots (R : List CommitD) : List Int := (R.filter fun c => c.par.isEmpty).map CommitD.id
theorem Sync.roots {L : List (Int × CommitD)} {R : List CommitD} (h : Sync L R) : ((sortI (mkeys L)).filter fun k => (gGet L k).par.isEmpty) = rroots R :=
  filter_ids h _ _ fun c hc => by rw [h.at_ hc]
theorem mget_metIn {l : List Int} : ∀ {S : List (Int × Unit)} {x : Int}, (mget (metIn S l) x).isSome = true ↔ (mget S x).isSome = true ∨ x ∈ l := by
  induction l with
  | nil => intro S x; simp [metIn]
  | cons a l ih =>
    intro S x
    have e : metIn S (a :: l) = metIn (mput S a ()) l := rfl
    rw [e, ih, mem_keys, mem_keys_mput, mem_keys]
    constructor
    · rintro ((rfl | h) | h)
      · exact Or.inr List.mem_cons_self
      · exact Or.inl h
      · exact Or.inr (List.mem_cons_of_mem _ h)
    · rintro (h | h)
      · exact Or.inl (Or.inr h)
      · rcases List.mem_cons.1 h with rfl | h
        · exact Or.inl (Or.inl rfl)
        · exact Or.inr h
theorem mget_metOf (L : List (Int × CommitD)) (x : Int) (l : List Int) : (mget (metOf L l) x).isSome = true ↔ ∃ k ∈ l, x ∈ (gGet L k).par := by
  have : ∀ (l : List Int) (S : List (Int × Unit)), (mget (l.foldl (fun S k => metIn S (gGet L k).par) S) x).isSome = true ↔ (mget S x).isSome = true ∨ ∃ k ∈ l, x ∈ (gGet L k).par := by
    intro l
    induction l with
    | nil => intro S; simp
    | cons a l ih =>
      intro S
      rw [List.foldl_cons, ih, mget_metIn]
      simp only [List.mem_cons, exists_eq_or_imp]
      exact or_assoc
  unfold metOf
  rw [this]
  simp [mget]
def rheads (R : List CommitD) : List Int := (R.filter fun c => (rkids R c.id).isEmpty).map CommitD.id
theorem Sync.heads {L : List (Int × CommitD)} {R : List CommitD} (h : Sync L R) : ((sortI (mkeys L)).filter fun k => !(mget (metOf L (sortI (mkeys L))) k).isSome) = rheads R :=
  filter_ids h _ _ fun c hc => by
    have e : (mget (metOf L (sortI (mkeys L))) c.id).isSome = true ↔ ¬ (rkids R c.id).isEmpty = true := by
      rw [mget_metOf, sync_ids h]
      unfold rkids
      rw [List.isEmpty_iff, List.map_eq_nil_iff, List.filter_eq_nil_iff]
      constructor
      · rintro ⟨k, hk, hx⟩ hn
        obtain ⟨d, hd, rfl⟩ := List.mem_map.1 hk
        rw [h.at_ hd] at hx
        exact hn d hd (decide_eq_true hx)
      · intro hn
        rw [Classical.not_forall] at hn
        obtain ⟨d, hn⟩ := hn
        rw [Classical.not_imp] at hn
        refine ⟨d.id, List.mem_map.2 ⟨d, hn.1, rfl⟩, ?_⟩
        rw [h.at_ hn.1]
        exact of_decide_eq_true (Classical.not_not.1 hn.2)
    cases h1 : (mget (metOf L (sortI (mkeys L))) c.id).isSome <;> cases h2 : (rkids R c.id).isEmpty <;> simp [h1, h2] at e ⊢
end Go.Proofs.Ytehneliphhgegaa
end
