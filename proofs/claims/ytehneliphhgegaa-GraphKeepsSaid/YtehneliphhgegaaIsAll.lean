/- Whether a commit is an ancestor of another one, or of some: walked once. · The merge bases of two commits: walked once. · The merge base of two commits: walked once. -/
import Derived.Test.YtehneliphhgegaaPlainReach
section
set_option linter.unusedVariables false
set_option linter.unusedSimpArgs false
set_option maxRecDepth 100000
namespace Go.Proofs.Ytehneliphhgegaa
open Go.RowKit Go.Apo

theorem flat_one (w : World) (x : Int) : Flat (w.alloc (.cells #[.int .u64 x] 24)) (some ⟨w.heap.size, 0, none⟩) (nums [x]) := fun _ => ⟨w.heap.size, 0, rfl, fun j u hj => by
  cases j with
  | zero => simp [nums] at hj; subst hj; exact cell_at_new w _ _ 0 rfl
  | succ j => simp [nums] at hj⟩
theorem is_calls (w : World) (p mg : Nat) (L : List (Int × CommitD)) (h : GraphAt w p mg L) (hO : LOk L) (hL : L.length ≤ 100000) (old late : Int) :
    Calls Try.prog 50 #[.pointer (some ⟨p, 0, none⟩), .int .u64 old, .int .u64 late] w fun e w' => e = .returned (.bool (isB L old late)) ∧ Below w.heap.size w w' := by
  have HR := Lib.hid (reach_calls (w.alloc (.cells #[.int .u64 late] 24)) p mg L (h.below (by (repeat (first | (with_reducible exact Below.refl _ _) | (with_reducible assumption) | (with_reducible refine bel_al0 ?_ _) | (with_reducible refine bel_set ?_ (by first | (simp; done) | (simp; omega)) _) | (with_reducible refine bel_dr ?_) | (with_reducible refine bel_drn ?_ _) | (with_reducible refine bel_tr ?_ (by assumption)))))) hO hL (some ⟨w.heap.size, 0, none⟩) 1 1 [late] rfl (flat_one w late) (fun e => by cases e) (by omega))
  unfold isB
  clear h hO
  obtain ⟨S, hS⟩ : ∃ S, S = reachS L [late] := ⟨_, rfl⟩
  rw [← hS] at HR ⊢
  clear hS
  cases hq : mget S old with
  | none =>
    have HQ := Lib.hid hq; clear hq
    go_enter Try.func50, Try.ntmps50
    go_wp2_with (first | (go_at_call 85; refine HR.out.mono ?_; rintro e w1 ⟨m, rfl, hM, hb1, hm⟩; have HM := Lib.hid hM; clear hM) | (at_lookup; refine wpl_look_none rfl false _ _ 117 4 rfl keyU Try.underlying117 _ (fun W => zeroBool W) rfl old rfl HM.out HQ.out ?_))
    go_ret
    exact ⟨rfl, by (repeat (first | (with_reducible exact Below.refl _ _) | (with_reducible assumption) | (with_reducible refine bel_al0 ?_ _) | (with_reducible refine bel_set ?_ (by first | (simp; done) | (simp; omega)) _) | (with_reducible refine bel_dr ?_) | (with_reducible refine bel_drn ?_ _) | (with_reducible refine bel_tr ?_ (by assumption))))⟩
  | some u =>
    have HQ := Lib.hid hq; clear hq
    go_enter Try.func50, Try.ntmps50
    go_wp2_with (first | (go_at_call 85; refine HR.out.mono ?_; rintro e w1 ⟨m, rfl, hM, hb1, hm⟩; have HM := Lib.hid hM; clear hM) | (at_lookup; refine wpl_look_some rfl false _ _ 117 4 rfl keyU Try.underlying117 rfl old rfl HM.out HQ.out ?_; intro u hu; unfold boolIs at hu; subst hu))
    go_ret
    exact ⟨rfl, by (repeat (first | (with_reducible exact Below.refl _ _) | (with_reducible assumption) | (with_reducible refine bel_al0 ?_ _) | (with_reducible refine bel_set ?_ (by first | (simp; done) | (simp; omega)) _) | (with_reducible refine bel_dr ?_) | (with_reducible refine bel_drn ?_ _) | (with_reducible refine bel_tr ?_ (by assumption))))⟩

/-- all ancestors of some commits, sorted -/
def reachL (L : List (Int × CommitD)) (ids : List Int) : List Int := sortI (mkeys (reachS L ids))
theorem reachS_ok {L : List (Int × CommitD)} (hO : LOk L) (ids : List Int) : SOk L (reachS L ids) := (reachS_is hO ids).ok
theorem reachS_nums {L : List (Int × CommitD)} (hO : LOk L) (hw : numsIn (mkeys L)) (ids : List Int) : numsIn (mkeys (reachS L ids)) := fun k hk => hw k (mem_keys.1 ((reachS_ok hO ids).sub k hk))
theorem Reach_calls (w : World) (p mg : Nat) (L : List (Int × CommitD)) (h : GraphAt w p mg L) (hO : LOk L) (hL : L.length ≤ 100000) (hw : numsIn (mkeys L)) (A : Option Addr) (n k : Nat) (ids : List Int) (hn : ids.length = n) (hf : Flat w A (nums ids)) (hA : A = none → ids = []) (hn2 : n ≤ 100000) :
    Calls Try.prog 59 #[.pointer (some ⟨p, 0, none⟩), .slice A n k] w (NumsOwn w (reachL L ids)) := by
  have HR := Lib.hid (reach_calls w p mg L h hO hL A n k ids hn hf hA hn2)
  have hle := (reachS_ok hO ids).le
  have HW := Lib.hid (reachS_nums hO hw ids)
  unfold reachL
  obtain ⟨S, hS⟩ : ∃ S, S = reachS L ids := ⟨_, rfl⟩
  rw [← hS] at HR HW hle ⊢
  clear hS h hO hf hA hw hn
  have hlk : (mkeys S).length = S.length := by simp [mkeys]
  have hls : (sortI (mkeys S)).length = S.length := by rw [sortI_len, hlk]
  have HLK := Lib.hid hlk; clear hlk
  unfold NumsOwn
  rw [hls]
  clear hls
  go_enter Try.func59, Try.ntmps59
  go_wp2_with (first | (go_at_call 85; refine HR.out.mono ?_; rintro e w1 ⟨m, rfl, hM, hb1, hm⟩; have HM := Lib.hid hM; clear hM) | (go_at_call 94; refine (keysB_calls _ _).mono ?_; rintro e w' ⟨rfl, rfl⟩) | (go_at_call 93; refine (sortedB_calls _ w1.heap.size (cell_at_new w1 _ _ 0 rfl) (HM.out.below bools_onCells (bel_al0 (Below.refl _ _) _)) (by omega) HW.out).mono ?_; rintro e w2 ⟨v, rfl, ho, hnil, hb2⟩))
  rw [HLK.out] at ho
  have hsz := hb1.size
  go_ret
  exact ⟨v, rfl, own_mono ho (by simp; omega), by (repeat (first | (with_reducible exact Below.refl _ _) | (with_reducible assumption) | (with_reducible refine bel_al0 ?_ _) | (with_reducible refine bel_set ?_ (by first | (simp; done) | (simp; omega)) _) | (with_reducible refine bel_dr ?_) | (with_reducible refine bel_drn ?_ _) | (with_reducible refine bel_tr ?_ (by assumption))))⟩

/-- the closure of below -/
theorem below1_calls (w : World) (p mg Bi Bg : Nat) (L : List (Int × CommitD)) (h : GraphAt w p mg L) (hO : LOk L) (hL : L.length ≤ 100000) (id k : Int) (h1 : w.cell? ⟨Bi, 0, none⟩ = some (.int .u64 id)) (h2 : w.cell? ⟨Bg, 0, none⟩ = some (.pointer (some ⟨p, 0, none⟩))) :
    Calls Try.prog 118 #[.int .u64 k, .pointer (some ⟨Bi, 0, none⟩), .pointer (some ⟨Bg, 0, none⟩)] w fun e w' => e = .returned (.bool (!(k == id) && isB L id k)) ∧ Below w.heap.size w w' := by
  have HI := Lib.hid (is_calls w p mg L h hO hL id k)
  clear h hO
  obtain ⟨b, hb⟩ : ∃ b, b = isB L id k := ⟨_, rfl⟩
  rw [← hb] at HI ⊢
  clear hb
  have l1 := cell_lt h1
  have l2 := cell_lt h2
  by_cases he : k = id
  · subst he
    have g2 : (!(k == k)) = false := by simp
    rw [g2, Bool.false_and]
    clear g2
    go_enter Try.func118, Try.ntmps118
    go_wp2
    go_ret
    exact ⟨rfl, by (repeat (first | (with_reducible exact Below.refl _ _) | (with_reducible assumption) | (with_reducible refine bel_al0 ?_ _) | (with_reducible refine bel_set ?_ (by first | (simp; done) | (simp; omega)) _) | (with_reducible refine bel_dr ?_) | (with_reducible refine bel_drn ?_ _) | (with_reducible refine bel_tr ?_ (by assumption))))⟩
  · have g2 : (!(k == id)) = true := by simp [he]
    rw [g2, Bool.true_and]
    have g3 : (k != id) = true := by simpa using he
    go_enter Try.func118, Try.ntmps118
    go_wp2_with (go_at_call 50; refine HI.out.mono ?_; rintro e w1 ⟨rfl, hb1⟩)
    go_ret
    exact ⟨rfl, by (repeat (first | (with_reducible exact Below.refl _ _) | (with_reducible assumption) | (with_reducible refine bel_al0 ?_ _) | (with_reducible refine bel_set ?_ (by first | (simp; done) | (simp; omega)) _) | (with_reducible refine bel_dr ?_) | (with_reducible refine bel_drn ?_ _) | (with_reducible refine bel_tr ?_ (by assumption))))⟩
/-- the first place at which the closure says yes -/
def firstB (f : Int → Bool) (l : List Int) : Int := match l.findIdx? f with
  | some k => k
  | none => -1
theorem indexB_calls (w : World) (p mg Bi Bg : Nat) (L : List (Int × CommitD)) (h : GraphAt w p mg L) (hO : LOk L) (hL : L.length ≤ 100000) (id : Int) (h1 : w.cell? ⟨Bi, 0, none⟩ = some (.int .u64 id)) (h2 : w.cell? ⟨Bg, 0, none⟩ = some (.pointer (some ⟨p, 0, none⟩)))
    (A : Option Addr) (n k : Nat) (l : List Int) (hn : l.length = n) (hf : Flat w A (nums l)) (hn2 : n ≤ 100000) :
    Calls Try.prog 113 #[.slice A n k, .func (.func 118) #[] #[.pointer (some ⟨Bi, 0, none⟩), .pointer (some ⟨Bg, 0, none⟩)]] w fun e w' => e = .returned (.int .i64 (firstB (fun k => !(k == id) && isB L id k) l)) ∧ Below w.heap.size w w' := by
  obtain ⟨r, hr⟩ : ∃ r, r = firstB (fun k => !(k == id) && isB L id k) l := ⟨_, rfl⟩
  rw [← hr]
  have HR := Lib.hid hr; clear hr
  have HN := Lib.hid hn; clear hn
  have HF := Lib.hid hf; clear hf
  have HC := Lib.hid (fun W (hW : Below w.heap.size w W) k => below1_calls W p mg Bi Bg L (h.below hW) hO hL id k (cell_bel h1 hW) (cell_bel h2 hW))
  clear h hO h1 h2
  go_enter Try.func113, Try.ntmps113
  go_wp2
  go_loopw [8, 5] (fun v _ wr => ∃ j : Nat, j ≤ n ∧ v = .int .i64 j ∧ Hid (∀ q x, q < j → l[q]? = some x → (!(x == id) && isB L id x) = false) ∧ Below w.heap.size w wr) (fun v _ _ => n - (intOf v).toNat)
  case atStart => exact ⟨0, Nat.zero_le _, rfl, fun q _ hq => absurd hq (Nat.not_lt_zero _), by (repeat (first | (with_reducible exact Below.refl _ _) | (with_reducible assumption) | (with_reducible refine bel_al0 ?_ _) | (with_reducible refine bel_set ?_ (by first | (simp; done) | (simp; omega)) _) | (with_reducible refine bel_dr ?_) | (with_reducible refine bel_drn ?_ _) | (with_reducible refine bel_tr ?_ (by assumption))))⟩
  case round =>
    obtain ⟨j, hj, rfl, hok, hB⟩ := hrel
    by_cases hlt : j < n
    · obtain ⟨x, hx⟩ : ∃ x, l[j]? = some x := ⟨_, List.getElem?_eq_getElem (by rw [HN.out]; exact hlt)⟩
      obtain ⟨b, off, rfl, cj⟩ := HF.out.at_ (nums_at hx)
      replace cj := cell_bel cj hB
      have HC2 := Lib.hid (HC.out _ hB x)
      obtain ⟨y, hy⟩ : ∃ y, y = (!(x == id) && isB L id x) := ⟨_, rfl⟩
      rw [← hy] at HC2
      have HX := Lib.hid hx; clear hx
      have HY := Lib.hid hy; clear hy
      cases y with
      | true =>
        have hr : r = j := by
          rw [HR.out]
          unfold firstB
          have : l.findIdx? (fun k => !(k == id) && isB L id k) = some j := by
            rw [List.findIdx?_eq_some_iff_getElem]
            obtain ⟨hk, hc⟩ := List.getElem?_eq_some_iff.1 HX.out
            refine ⟨hk, by rw [hc]; exact HY.out.symm, fun q hq => ?_⟩
            have := hok.out q l[q] hq (List.getElem?_eq_getElem _)
            rw [this]; decide
          rw [this]
        subst hr
        go_wp2_with (go_at_call 118; refine HC2.out.mono ?_; rintro e w1 ⟨rfl, hb1⟩)
        go_ret
        exact ⟨rfl, by (repeat (first | (with_reducible exact Below.refl _ _) | (with_reducible assumption) | (with_reducible refine bel_al0 ?_ _) | (with_reducible refine bel_set ?_ (by first | (simp; done) | (simp; omega)) _) | (with_reducible refine bel_dr ?_) | (with_reducible refine bel_drn ?_ _) | (with_reducible refine bel_tr ?_ (by assumption))))⟩
      | false =>
        go_wp2_with (go_at_call 118; refine HC2.out.mono ?_; rintro e w1 ⟨rfl, hb1⟩)
        go_roundw
        case rel =>
          refine ⟨j + 1, by omega, by go_num, fun q x' hq hq' => ?_, by (repeat (first | (with_reducible exact Below.refl _ _) | (with_reducible assumption) | (with_reducible refine bel_al0 ?_ _) | (with_reducible refine bel_set ?_ (by first | (simp; done) | (simp; omega)) _) | (with_reducible refine bel_dr ?_) | (with_reducible refine bel_drn ?_ _) | (with_reducible refine bel_tr ?_ (by assumption))))⟩
          rcases Nat.lt_or_ge q j with h' | h'
          · exact hok.out q x' h' hq'
          · obtain rfl : q = j := by omega
            rw [HX.out] at hq'; cases hq'; exact HY.out.symm
        case measure => simp [intOf]; omega
    · have hr : r = -1 := by
        rw [HR.out]
        unfold firstB
        have : l.findIdx? (fun k => !(k == id) && isB L id k) = none := by
          rw [List.findIdx?_eq_none_iff]
          intro x hx
          obtain ⟨q, hq⟩ := List.mem_iff_getElem?.1 hx
          exact hok.out q x (by have := (List.getElem?_eq_some_iff.1 hq).1; have := HN.out; omega) hq
        rw [this]
      subst hr
      go_wp2
      go_ret
      exact ⟨rfl, hB⟩
/-- whether a commit is an ancestor of another one of some -/
def belowB (L : List (Int × CommitD)) (id : Int) (l : List Int) : Bool := l.any fun k => !(k == id) && isB L id k
theorem firstB_any (f : Int → Bool) (l : List Int) : decide (0 ≤ firstB f l) = l.any f := by
  unfold firstB
  cases h : l.findIdx? f with
  | none =>
    rw [List.findIdx?_eq_none_iff] at h
    have : l.any f = false := by rw [List.any_eq_false]; intro x hx; simp [h x hx]
    rw [this]; rfl
  | some k =>
    rw [List.findIdx?_eq_some_iff_getElem] at h
    obtain ⟨hk, h1, _⟩ := h
    have : l.any f = true := by rw [List.any_eq_true]; exact ⟨l[k], List.getElem_mem _, h1⟩
    rw [this]; simp
theorem containsB_calls (w : World) (p mg Bi Bg : Nat) (L : List (Int × CommitD)) (h : GraphAt w p mg L) (hO : LOk L) (hL : L.length ≤ 100000) (id : Int) (h1 : w.cell? ⟨Bi, 0, none⟩ = some (.int .u64 id)) (h2 : w.cell? ⟨Bg, 0, none⟩ = some (.pointer (some ⟨p, 0, none⟩)))
    (A : Option Addr) (n k : Nat) (l : List Int) (hn : l.length = n) (hf : Flat w A (nums l)) (hn2 : n ≤ 100000) :
    Calls Try.prog 117 #[.slice A n k, .func (.func 118) #[] #[.pointer (some ⟨Bi, 0, none⟩), .pointer (some ⟨Bg, 0, none⟩)]] w fun e w' => e = .returned (.bool (belowB L id l)) ∧ Below w.heap.size w w' := by
  have HI := Lib.hid (indexB_calls w p mg Bi Bg L h hO hL id h1 h2 A n k l hn hf hn2)
  unfold belowB
  rw [← firstB_any]
  clear h hO h1 h2 hf hn
  obtain ⟨r, hr⟩ : ∃ r, r = firstB (fun k => !(k == id) && isB L id k) l := ⟨_, rfl⟩
  rw [← hr] at HI ⊢
  clear hr
  go_enter Try.func117, Try.ntmps117
  go_wp2_with (go_at_call 113; refine HI.out.mono ?_; rintro e w1 ⟨rfl, hb1⟩)
  go_ret
  exact ⟨rfl, hb1⟩
theorem below_calls (w : World) (p mg : Nat) (L : List (Int × CommitD)) (h : GraphAt w p mg L) (hO : LOk L) (hL : L.length ≤ 100000) (id : Int)
    (A : Option Addr) (n k : Nat) (l : List Int) (hn : l.length = n) (hf : Flat w A (nums l)) (hn2 : n ≤ 100000) :
    Calls Try.prog 92 #[.pointer (some ⟨p, 0, none⟩), .int .u64 id, .slice A n k] w fun e w' => e = .returned (.bool (belowB L id l)) ∧ Below w.heap.size w w' := by
  obtain ⟨W, hW⟩ : ∃ W, W = (w.alloc (.cells #[.pointer (some ⟨p, 0, none⟩)] 42)).alloc (.cells #[.int .u64 id] 24) := ⟨_, rfl⟩
  have hb : Below w.heap.size w ((w.alloc (.cells #[.pointer (some ⟨p, 0, none⟩)] 42)).alloc (.cells #[.int .u64 id] 24)) := by (repeat (first | (with_reducible exact Below.refl _ _) | (with_reducible assumption) | (with_reducible refine bel_al0 ?_ _) | (with_reducible refine bel_set ?_ (by first | (simp; done) | (simp; omega)) _) | (with_reducible refine bel_dr ?_) | (with_reducible refine bel_drn ?_ _) | (with_reducible refine bel_tr ?_ (by assumption))))
  have c1 : ((w.alloc (.cells #[.pointer (some ⟨p, 0, none⟩)] 42)).alloc (.cells #[.int .u64 id] 24)).cell? ⟨w.heap.size + 1, 0, none⟩ = some (.int .u64 id) := by
    have := cell_at_new (w.alloc (.cells #[.pointer (some ⟨p, 0, none⟩)] 42)) #[.int .u64 id] 24 0 (v := .int .u64 id) rfl
    have hz : (w.alloc (.cells #[.pointer (some ⟨p, 0, none⟩)] 42)).heap.size = w.heap.size + 1 := by simp
    rw [hz] at this
    exact this
  have c2 : ((w.alloc (.cells #[.pointer (some ⟨p, 0, none⟩)] 42)).alloc (.cells #[.int .u64 id] 24)).cell? ⟨w.heap.size, 0, none⟩ = some (.pointer (some ⟨p, 0, none⟩)) :=
    cell_al (cell_at_new w #[.pointer (some ⟨p, 0, none⟩)] 42 0 rfl) _
  have HI := Lib.hid (containsB_calls _ p mg (w.heap.size + 1) w.heap.size L (h.below hb) hO hL id c1 c2 A n k l hn (hf.below hb) hn2)
  clear h hO hf hn c1 c2 hW
  obtain ⟨r, hr⟩ : ∃ r, r = belowB L id l := ⟨_, rfl⟩
  rw [← hr] at HI ⊢
  clear hr
  go_enter Try.func92, Try.ntmps92
  go_wp2_with (go_at_call 117; refine HI.out.mono ?_; rintro e w1 ⟨rfl, hb1⟩)
  go_ret
  exact ⟨rfl, bel_tr hb hb1⟩
end Go.Proofs.Ytehneliphhgegaa
end
section
set_option linter.unusedVariables false
set_option linter.unusedSimpArgs false
set_option maxRecDepth 100000
namespace Go.Proofs.Ytehneliphhgegaa
open Go.RowKit Go.Apo

/-- slices.Sort of a row of one's own -/
theorem sort_own (w : World) (base : Nat) (v : Value) (n : Nat) (l : List Int) (h : w.ownsRow base 24 1 v n (nums l)) (hn : n ≤ 1000000) :
    Calls Try.prog 91 #[v] w fun e w' => e = .returned (.tuple #[]) ∧ w'.ownsRow base 24 1 v n (nums (sortI l)) ∧ w.grownBy w' v.ownBlock := by
  have hl : l.length = n := by have := h.1; simpa [nums] using this
  rcases h.2 with ⟨rfl, rfl⟩ | ⟨g, cap, cur, rfl, hb, hg, h1, h2, h3, h4⟩
  · obtain rfl : l = [] := List.eq_nil_of_length_eq_zero hl
    refine (U.Sort_u64_nil none 0 w).mono ?_
    rintro e w' ⟨rfl, rfl⟩
    exact ⟨rfl, by simpa [sortI, nums] using h, World.grownBy.refl _ _⟩
  · subst hl
    have hH : Go.Sort.Holds encU w g 0 l.toArray := holds_of_block_u hg (by simpa [nums] using h4)
    refine (U.slices_Sort_u64 g 0 cap l w hH (Array.getElem?_eq_some_iff.1 hg).1 (by omega)).mono ?_
    rintro e w' ⟨rfl, nn, os, rfl⟩
    exact ⟨rfl, ownsRow_sorted_u (by simp) hb hg h1 h2 h3, grownBy_sorted_u _⟩

/-- the common ancestors, and the best of them -/
def commonL (L : List (Int × CommitD)) (a b : Int) : List Int := sortI ((mkeys (reachS L [a])).filter fun x => (mget (reachS L [b]) x).isSome)
def basesL (L : List (Int × CommitD)) (a b : Int) : List Int := (commonL L a b).filter fun x => !belowB L x (commonL L a b)

theorem grown_bel {B : Nat} {w W W' : World} {row : Option Nat} (h : Below B w W) (hB : B ≤ w.heap.size) (hg : W.grownBy W' row) (hr : ∀ k, row = some k → B ≤ k) : Below B w W' :=
  h.grown hg (Nat.le_trans hB h.size) hr
theorem own_ne_row {w : World} {base e size n r : Nat} {v : Value} {xs : List Value} (h : w.ownsRow base e size v n xs) (hr : r < base) : v.ownBlock = none ∨ v.ownBlock ≠ some r := by
  cases hq : v.ownBlock with
  | none => exact Or.inl rfl
  | some k => exact Or.inr (fun e => by have := (h.lt k hq).1; cases e; omega)
theorem own_ne_row' {w : World} {base e size n r : Nat} {v : Value} {xs : List Value} (h : w.ownsRow base e size v n xs) (hr : r < base) : some r ≠ v.ownBlock := by
  intro e
  rcases own_ne_row h hr with h1 | h1
  · rw [h1] at e; cases e
  · exact h1 e.symm
theorem own_row_ge {w : World} {base e size n : Nat} {v : Value} {xs : List Value} (h : w.ownsRow base e size v n xs) : ∀ k, v.ownBlock = some k → base ≤ k := fun k hk => (h.lt k hk).1

/-- what holds between two rounds over the one's ancestors -/
def BInv (w2 : World) (mx my r nn : Nat) (D0 : DataW Unit) (Y : List (Int × Unit)) (v9 : Value) (wr : World) : Prop :=
  ∃ (left : Lit → Bool) (cnt : Nat) (ss : List Int), Hid (wr.ranges Try.prog 24 anyR mx r nn D0 left cnt) ∧ Hid (CollectedU D0 left ss) ∧ Hid (ss.length + cnt ≤ Maps.size D0) ∧ Hid (wr.ownsRow (r + 1) 24 1 v9 (ss.filter fun x => (mget Y x).isSome).length (nums (ss.filter fun x => (mget Y x).isSome))) ∧ Hid (MapIs (Value.int .u64) boolIs wr my Y) ∧ Below w2.heap.size w2 wr ∧ r + 1 ≤ wr.heap.size
set_option maxHeartbeats 4000000 in
theorem bases_calls (w : World) (p mg : Nat) (L : List (Int × CommitD)) (h : GraphAt w p mg L) (hO : LOk L) (hL : L.length ≤ 100000) (hw : numsIn (mkeys L)) (a b : Int) :
    Calls Try.prog 57 #[.pointer (some ⟨p, 0, none⟩), .int .u64 a, .int .u64 b] w (NumsOwn w (basesL L a b)) := by
  have HR1 := Lib.hid (reach_calls (w.alloc (.cells #[.int .u64 a] 24)) p mg L (h.below (by (repeat (first | (with_reducible exact Below.refl _ _) | (with_reducible assumption) | (with_reducible refine bel_al0 ?_ _) | (with_reducible refine bel_set ?_ (by first | (simp; done) | (simp; omega)) _) | (with_reducible refine bel_dr ?_) | (with_reducible refine bel_drn ?_ _) | (with_reducible refine bel_tr ?_ (by assumption)))))) hO hL (some ⟨w.heap.size, 0, none⟩) 1 1 [a] rfl (flat_one w a) (fun e => by cases e) (by omega))
  have HR2 := Lib.hid (fun W (hW : Below w.heap.size w W) => reach_calls (W.alloc (.cells #[.int .u64 b] 24)) p mg L (h.below (bel_al0 hW _)) hO hL (some ⟨W.heap.size, 0, none⟩) 1 1 [b] rfl (flat_one W b) (fun e => by cases e) (by omega))
  have hle1 := (reachS_ok hO [a]).le
  have hle2 := (reachS_ok hO [b]).le
  have HW1 := Lib.hid (reachS_nums hO hw [a])
  obtain ⟨X, hX⟩ : ∃ X, X = reachS L [a] := ⟨_, rfl⟩
  obtain ⟨Y, hY⟩ : ∃ Y, Y = reachS L [b] := ⟨_, rfl⟩
  obtain ⟨C, hC⟩ : ∃ C, C = commonL L a b := ⟨_, rfl⟩
  obtain ⟨RES, hRES⟩ : ∃ RES, RES = basesL L a b := ⟨_, rfl⟩
  have hRES' : RES = C.filter fun x => !belowB L x C := by rw [hRES, hC]; rfl
  have hC' : C = sortI ((mkeys X).filter fun x => (mget Y x).isSome) := by rw [hC, hX, hY]; rfl
  rw [← hRES]
  rw [← hX] at HR1 hle1 HW1
  rw [← hY] at HR2 hle2
  clear hRES hC hX hY hw
  have hcl : C.length ≤ 100000 := by
    rw [hC', sortI_len]
    have := List.length_filter_le (fun x => (mget Y x).isSome) (mkeys X)
    simp [mkeys] at this ⊢
    omega
  have HRES := Lib.hid hRES'; clear hRES'
  have HCC := Lib.hid hC'; clear hC'
  have HBL := Lib.hid (fun W (hW : Below w.heap.size w W) id A n k l hn hf hn2 => below_calls W p mg L (h.below hW) hO hL id A n k l hn hf hn2)
  clear h hO
  go_enter Try.func57, Try.ntmps57
  have hba : Below w.heap.size w (w.alloc (.cells #[.int .u64 a] 24)) := by (repeat (first | (with_reducible exact Below.refl _ _) | (with_reducible assumption) | (with_reducible refine bel_al0 ?_ _) | (with_reducible refine bel_set ?_ (by first | (simp; done) | (simp; omega)) _) | (with_reducible refine bel_dr ?_) | (with_reducible refine bel_drn ?_ _) | (with_reducible refine bel_tr ?_ (by assumption))))
  go_wp2_with fail
  refine HR1.out.mono ?_
  rintro e w1 ⟨mx, rfl, hM1, hb1, hm1⟩
  have HM1 := Lib.hid hM1; clear hM1
  have hB1 : Below w.heap.size w w1 := bel_tr hba hb1
  clear hba hb1
  go_wp2_with fail
  refine (HR2.out w1 hB1).mono ?_
  rintro e w2 ⟨my, rfl, hM2, hb2, hm2⟩
  have hb12 : Below w1.heap.size w1 w2 := bel_tr (bel_al0 (Below.refl _ w1) _) hb2
  have HMX := Lib.hid (HM1.out.below bools_onCells hb12)
  have HMY := Lib.hid hM2; clear hM2
  have hB2 : Below w.heap.size w w2 := bel_tr hB1 hb12
  clear hb2 hb12 HM1 hB1
  obtain ⟨D0, q1, q2, q3⟩ := mapIs_owns (P := Try.prog) Try.underlying24 HMX.out (by unfold maxLen; omega) HW1.out
  have hmxl := HMX.out.lt
  have hmyl := HMY.out.lt
  obtain ⟨nn, hnn⟩ : ∃ nn, nn = X.length := ⟨_, rfl⟩
  rw [← hnn] at q1 q3
  have HNN := Lib.hid hnn; clear hnn
  have HQ2 := Lib.hid q2; clear q2
  have HQ3 := Lib.hid q3; clear q3
  have HOWN := Lib.hid q1; clear q1
  go_wp2_with (at_range; refine wpList_range_own _ rfl _ 117 rfl 24 4 (Maps.int_keyed Try.underlying24) Try.underlying117 _ mx nn _ rfl HOWN.out ?_; intro w3 hrg3 hg3 hs3)
  go_frame
  obtain ⟨r, hr⟩ : ∃ r, r = w2.heap.size := ⟨_, rfl⟩
  rw [← hr] at hrg3 hs3 ⊢
  have hb23 : Below w2.heap.size w2 w3 := (Below.refl _ w2).grown hg3 (Nat.le_refl _) (fun k e => by cases e)
  have HMY3 := Lib.hid (HMY.out.below bools_onCells hb23)
  have HRR := Lib.hid hr.symm
  have hmyr : my < r := by omega
  have hmxr : mx < r := by omega
  have HRG := Lib.hid hrg3; clear hrg3 hg3 hr
  have hs3' : r + 1 ≤ w3.heap.size := by omega
  have HS3 := Lib.hid hs3; clear hs3
  go_loopw [9, 10] (fun v9 _ wr => BInv w2 mx my r nn D0 Y v9 wr) (fun _ _ wr => wr.rangeLeft mx r)
  case atStart => exact ⟨_, _, [], HRG, CollectedU.start D0, (by show _ ≤ _; simp), World.ownsRow_nil _ _ _ _, HMY3, hb23, hs3'⟩
  case round =>
    obtain ⟨left, cnt, ss, hrg, hCo, hcs, ho, hMY, hB, hsz⟩ := hrel
    obtain ⟨cc, hcc⟩ : ∃ cc, cc = ss.filter fun x => (mget Y x).isSome := ⟨_, rfl⟩
    rw [← hcc] at ho
    have hccl : cc.length ≤ 100000 := by
      have h1 := List.length_filter_le (fun x => (mget Y x).isSome) ss
      rw [← hcc] at h1
      have h2 := hcs.out
      have h3 := HQ3.out
      have h4 := HNN.out
      omega
    obtain ⟨ncc, hncc⟩ : ∃ ncc, ncc = cc.length := ⟨_, rfl⟩
    rw [← hncc] at ho hccl
    have HNC := Lib.hid hncc; clear hncc
    have HCO := Lib.hid hcc; clear hcc
    go_wp2_with (at_next; refine wpList_next_ranges _ rfl _ rfl 24 (Maps.int_keyed Try.underlying24) anyR encU id (fun key kl hk => by obtain ⟨x, hx, _⟩ := keyOf_u64 Try.underlying24 hk; exact ⟨x, hx⟩) (fun v _ _ => ⟨v, rfl⟩) mx r nn _ _ _ rfl hrg.out ?_ ?_)
    · intro hc0 hl0
      have hperm := (hCo.out.perm HOWN.out (Maps.int_keyed Try.underlying24) Try.underlying24 hl0).trans HQ2.out
      have hcs2 : sortI cc = C := by
        rw [HCO.out, HCC.out]
        exact sortI_of_perm (hperm.filter _)
      have HCS := Lib.hid hcs2; clear hcs2 hperm hc0 hl0
      have hnc : C.length = ncc := by rw [HNC.out, ← HCS.out, sortI_len]
      have HNC2 := Lib.hid hnc; clear hnc
      obtain ⟨A9, c9, rfl, hcap9⟩ := own_form ho.out
      have HSO := Lib.hid (sort_own wr (r + 1) _ ncc cc ho.out (by omega))
      rw [HCS.out] at HSO
      have hrb := own_row_ge ho.out
      clear hCo hrg hcs
      go_wp2_with (go_at_call 91; refine HSO.out.mono ?_; rintro e w4 ⟨rfl, ho4, hg4⟩)
      have hb4 : Below w2.heap.size w2 w4 := grown_bel hB (Nat.le_refl _) hg4 (fun k hk => by have := hrb k hk; have := HRR.out; omega)
      have hbw4 : Below w.heap.size w w4 := bel_tr hB2 hb4
      have HF4 := Lib.hid (own_flat ho4)
      have hz4 : r + 1 ≤ w4.heap.size := Nat.le_trans hsz hg4.size
      clear ho4 hg4 hrb hcap9 hB ho hMY hb4
      go_loopw [39, 11, 13] (fun v v11 _ wq => ∃ j : Nat, j ≤ ncc ∧ v = .int .i64 j ∧ Hid (wq.ownsRow w4.heap.size 24 1 v11 ((C.take j).filter fun x => !belowB L x C).length (nums ((C.take j).filter fun x => !belowB L x C))) ∧ Below w4.heap.size w4 wq) (fun v _ _ _ => ncc - (intOf v).toNat)
      case atStart => exact ⟨0, Nat.zero_le _, rfl, World.ownsRow_nil _ _ _ _, by (repeat (first | (with_reducible exact Below.refl _ _) | (with_reducible assumption) | (with_reducible refine bel_al0 ?_ _) | (with_reducible refine bel_set ?_ (by first | (simp; done) | (simp; omega)) _) | (with_reducible refine bel_dr ?_) | (with_reducible refine bel_drn ?_ _) | (with_reducible refine bel_tr ?_ (by assumption))))⟩
      case round =>
        obtain ⟨j, hj, rfl, hoj, hBj⟩ := hrel
        by_cases hlt : j < ncc
        · obtain ⟨x, hx⟩ : ∃ x, C[j]? = some x := ⟨_, List.getElem?_eq_getElem (by rw [HNC2.out]; exact hlt)⟩
          have HFj := Lib.hid (HF4.out.below hBj)
          obtain ⟨bb, off, rfl, cj⟩ := HFj.out.at_ (nums_at hx)
          have htk : C.take (j + 1) = C.take j ++ [x] := by rw [List.take_add_one, hx]; rfl
          have HB2 := Lib.hid (HBL.out wr (bel_tr hbw4 hBj) x _ ncc c9 C HNC2.out HFj.out (by omega))
          obtain ⟨y, hy⟩ : ∃ y, y = belowB L x C := ⟨_, rfl⟩
          rw [← hy] at HB2
          obtain ⟨oo, hoo⟩ : ∃ oo, oo = (C.take j).filter fun x => !belowB L x C := ⟨_, rfl⟩
          rw [← hoo] at hoj
          have hol : oo.length ≤ 100000 := by
            rw [hoo]
            have h1 := List.length_filter_le (fun x => !belowB L x C) (C.take j)
            rw [List.length_take] at h1
            omega
          have hnew : (C.take (j + 1)).filter (fun x => !belowB L x C) = if y then oo else oo ++ [x] := by
            rw [htk, List.filter_append, ← hoo, hy]
            cases h : belowB L x C <;> simp [h]
          have HNEW := Lib.hid hnew; clear hnew
          obtain ⟨no, hno⟩ : ∃ no, no = oo.length := ⟨_, rfl⟩
          rw [← hno] at hoj hol
          have HNO := Lib.hid hno; clear hno
          have hbl := cell_lt cj
          clear hx hy htk hoo
          have hq4 := hBj.size
          cases y with
          | true =>
            go_wp2_with (go_at_call 92; refine HB2.out.mono ?_; rintro e w5 ⟨rfl, hb5⟩)
            go_roundw
            case rel =>
              refine ⟨j + 1, by omega, by go_num, ?_, by (repeat (first | (with_reducible exact Below.refl _ _) | (with_reducible assumption) | (with_reducible refine bel_al0 ?_ _) | (with_reducible refine bel_set ?_ (by first | (simp; done) | (simp; omega)) _) | (with_reducible refine bel_dr ?_) | (with_reducible refine bel_drn ?_ _) | (with_reducible refine bel_tr ?_ (by assumption))))⟩
              show World.ownsRow _ _ _ _ _ _ _
              rw [HNEW.out]
              simp only [if_true]
              rw [← HNO.out]
              exact own_below hoj.out hb5
            case measure => simp [intOf]; omega
          | false =>
            go_wp2_with (first | (go_at_call 92; refine HB2.out.mono ?_; rintro e w5 ⟨rfl, hb5⟩; have ho5 := own_below hoj.out hb5; have hz5 := hb5.size; obtain ⟨i0, hi, hz0, hz1, hz2⟩ := info_parts infoU64) | (at_builtin; refine wpl_append rfl _ _ 50 rfl w4.heap.size 24 _ 1 8 Try.underlying50 infoU64 rfl (by decide) _ no (nums oo) rfl (own_below ho5 (bel_al0 (Below.refl _ _) _)) (some ⟨w5.heap.size, 0, none⟩) 1 1 (nums [x]) rfl rfl (flat_one w5 x) (nums_one _) (by unfold maxLen; omega) (by omega) (by simp; omega) ?_; intro v' w6 ho6 hg6 hat6))
            have hb6 : Below w4.heap.size w4 w6 := grown_bel (bel_al0 (bel_tr hBj hb5) _) (Nat.le_refl _) hg6 (own_row_ge ho5)
            go_roundw
            case rel =>
              refine ⟨j + 1, by omega, by go_num, ?_, hb6⟩
              show World.ownsRow _ _ _ _ _ _ _
              rw [HNEW.out]
              simp only [Bool.false_eq_true, if_false]
              rw [nums_app, List.length_append, ← HNO.out]
              exact ho6
            case measure => simp [intOf]; omega
        · have hjn : j = ncc := by omega
          have htk : C.take j = C := by rw [List.take_of_length_le]; rw [HNC2.out]; omega
          rw [htk, ← HRES.out] at hoj
          go_wp2
          go_ret
          exact ⟨_, rfl, own_mono hoj.out (by have := hbw4.size; omega), bel_tr hbw4 hBj⟩
    · intro x c kl yd yp w5 cnt2 hkey hlk hv hat hrg5 hlt hg5 hs5 hen
      obtain ⟨x', ex, rfl, _⟩ := keyOf_u64 Try.underlying24 hkey
      obtain rfl : x = x' := encU_inj ex
      have hCo2 := Lib.hid (hCo.out.step hlk hat)
      have hcs2 : Hid ((ss ++ [x]).length + cnt2 ≤ Maps.size D0) := by
        show _ ≤ _
        have := hcs.out
        simp
        omega
      have hb5 : Below w2.heap.size w2 w5 := grown_bel hB (Nat.le_refl _) hg5 (fun k hk => by cases hk; have := HRR.out; omega)
      have ho5 := Lib.hid (ho.out.kept hg5 (own_ne_row ho.out (by omega)))
      have hMY5 : Hid (MapIs (Value.int .u64) boolIs w5 my Y) := MapIs.but_bools hMY.out (by omega) (But.of_grown hg5)
      have hsz5 : r + 1 ≤ w5.heap.size := by omega
      have HOL := Lib.hid hlt; clear hlt
      have HLE := Lib.hid hrg.out.left_eq
      clear hs5 hlk hat hv hkey hCo hcs hMY ho hB hg5 ex
      have HRG5 := Lib.hid hrg5; clear hrg5 hrg
      cases hyq : mget Y x with
      | none =>
        have hnew : (ss ++ [x]).filter (fun x => (mget Y x).isSome) = cc := by
          rw [List.filter_append, ← HCO.out]; simp [hyq]
        have HNEW := Lib.hid hnew; clear hnew
        have HYQ := Lib.hid hyq; clear hyq
        go_wp2_with (at_lookup; refine wpl_look_none rfl false _ _ 117 4 rfl keyU Try.underlying117 _ (fun W => zeroBool W) rfl x rfl hMY5.out HYQ.out ?_)
        go_roundw
        case rel =>
          refine ⟨_, cnt2, ss ++ [x], HRG5, hCo2, hcs2, ?_, hMY5, hb5, hsz5⟩
          show World.ownsRow _ _ _ _ _ _ _
          rw [HNEW.out, ← HNC.out]
          exact ho5.out
        case measure => rw [HRG5.out.left_eq, HLE.out]; exact HOL.out
      | some u =>
        have hnew : (ss ++ [x]).filter (fun x => (mget Y x).isSome) = cc ++ [x] := by
          rw [List.filter_append, ← HCO.out]; simp [hyq]
        have HNEW := Lib.hid hnew; clear hnew
        have HYQ := Lib.hid hyq; clear hyq
        go_wp2_with (first | (at_lookup; refine wpl_look_some rfl false _ _ 117 4 rfl keyU Try.underlying117 rfl x rfl hMY5.out HYQ.out ?_; intro u hu; unfold boolIs at hu; subst hu) | (at_builtin; refine wpl_append rfl _ _ 50 rfl (r + 1) 24 _ 1 8 Try.underlying50 infoU64 rfl (by decide) _ ncc (nums cc) rfl (own_below ho5.out (bel_al0 (Below.refl _ _) _)) (some ⟨w5.heap.size, 0, none⟩) 1 1 (nums [x]) rfl rfl (flat_one w5 x) (nums_one _) (by unfold maxLen; omega) (by omega) (by simp; omega) ?_; intro v' w6 ho6 hg6 hat6))
        have hal : Below w5.heap.size w5 (w5.alloc (.cells #[.int .u64 x] 24)) := by (repeat (first | (with_reducible exact Below.refl _ _) | (with_reducible assumption) | (with_reducible refine bel_al0 ?_ _) | (with_reducible refine bel_set ?_ (by first | (simp; done) | (simp; omega)) _) | (with_reducible refine bel_dr ?_) | (with_reducible refine bel_drn ?_ _) | (with_reducible refine bel_tr ?_ (by assumption))))
        have hb6 : Below w2.heap.size w2 w6 := grown_bel (bel_tr hb5 hal) (Nat.le_refl _) hg6 (fun k hk => by have := own_row_ge ho5.out k hk; have := HRR.out; omega)
        have hrg6 : Hid (w6.ranges Try.prog 24 anyR mx r nn D0 (fun z => left z && !z.sameKey (.int .u64 x)) cnt2) :=
          (HRG5.out.alloc _).kept hg6 (own_ne_row' ho5.out (by omega)) (own_ne_row' ho5.out (by omega))
        have hMY6 : Hid (MapIs (Value.int .u64) boolIs w6 my Y) := HMY.out.below bools_onCells hb6
        have hsz6 : r + 1 ≤ w6.heap.size := by have := hg6.size; simp at this; omega
        go_roundw
        case rel =>
          refine ⟨_, cnt2, ss ++ [x], hrg6, hCo2, hcs2, ?_, hMY6, hb6, hsz6⟩
          show World.ownsRow _ _ _ _ _ _ _
          rw [HNEW.out, nums_app, List.length_append, ← HNC.out]
          exact ho6
        case measure => rw [hrg6.out.left_eq, HLE.out]; exact HOL.out
end Go.Proofs.Ytehneliphhgegaa
end
section
set_option linter.unusedVariables false
set_option linter.unusedSimpArgs false
set_option maxRecDepth 100000
namespace Go.Proofs.Ytehneliphhgegaa
open Go.RowKit Go.Apo

def bestStep (L : List (Int × CommitD)) (best : CommitD) (id : Int) : CommitD := if best.gen < (gGet L id).gen then gGet L id else best
def bestOf (L : List (Int × CommitD)) (l : List Int) : CommitD := l.foldl (bestStep L) CommitD.zero
def baseC (L : List (Int × CommitD)) (a b : Int) : CommitD := bestOf L (basesL L a b)
theorem flat_but3 {w w' : World} {b ob g : Nat} {cs : List Value} (h : Flat w (some ⟨b, ob, none⟩) cs) (hg : b ≠ g) (hb : But g w w') : Flat w' (some ⟨b, ob, none⟩) cs := fun h0 => by
  obtain ⟨b', off, e, hc⟩ := h h0
  refine ⟨b', off, e, fun j u hj => ?_⟩
  simp only [Option.some.injEq, Addr.mk.injEq, and_true] at e
  have h1 := hc j u hj
  exact (hb.cell (p := ⟨b', off + j, none⟩) (cell_lt h1) (by rw [← e.1]; exact hg)).trans h1
theorem basesL_len {L : List (Int × CommitD)} (hO : LOk L) (a b : Int) : (basesL L a b).length ≤ L.length := by
  unfold basesL
  refine Nat.le_trans (List.length_filter_le _ _) ?_
  unfold commonL
  rw [sortI_len]
  refine Nat.le_trans (List.length_filter_le _ _) ?_
  have := (reachS_ok hO [a]).le
  simpa [mkeys] using this
/-- a block that holds a commit, its parents wherever they lie -/
def HoldsC (w : World) (b : Nat) (c : CommitD) : Prop := ∃ A n k, Blk w b #[.int .u64 c.id, .slice A n k, .int .u64 c.gen, .int .u64 c.root, .string c.text] 69

theorem blk_set5 {w : World} {b : Nat} {v0 v1 v2 v3 v4 : Value} (u0 u1 u2 u3 u4 : Value) {t : TypeId} (h : Blk w b #[v0, v1, v2, v3, v4] t) :
    Blk (((((w.setCell ⟨b, 0, none⟩ u0).setCell ⟨b, 1, none⟩ u1).setCell ⟨b, 2, none⟩ u2).setCell ⟨b, 3, none⟩ u3).setCell ⟨b, 4, none⟩ u4) b #[u0, u1, u2, u3, u4] t ∧
    But b w (((((w.setCell ⟨b, 0, none⟩ u0).setCell ⟨b, 1, none⟩ u1).setCell ⟨b, 2, none⟩ u2).setCell ⟨b, 3, none⟩ u3).setCell ⟨b, 4, none⟩ u4) :=
  ⟨((((h.set 0 u0).set 1 u1).set 2 u2).set 3 u3).set 4 u4, ((((But.set _ _ _ _).trans (But.set _ _ _ _)).trans (But.set _ _ _ _)).trans (But.set _ _ _ _)).trans (But.set _ _ _ _)⟩
set_option maxHeartbeats 4000000 in
theorem base_calls (w : World) (p mg : Nat) (L : List (Int × CommitD)) (h : GraphAt w p mg L) (hO : LOk L) (hL : L.length ≤ 100000) (hw : numsIn (mkeys L)) (a b : Int) :
    Calls Try.prog 49 #[.pointer (some ⟨p, 0, none⟩), .int .u64 a, .int .u64 b] w fun e w' => e = .returned (.tuple #[.int .u64 (baseC L a b).id, .bool (!((baseC L a b).id == 0))]) ∧ Below w.heap.size w w' := by
  have HW0 := Lib.hid h
  have hb0 : Below w.heap.size w (w.alloc (.cells #[.int .u64 0, .slice none 0 0, .int .u64 0, .int .u64 0, .string ⟨#[]⟩] 69)) := by (repeat (first | (with_reducible exact Below.refl _ _) | (with_reducible assumption) | (with_reducible refine bel_al0 ?_ _) | (with_reducible refine bel_set ?_ (by first | (simp; done) | (simp; omega)) _) | (with_reducible refine bel_dr ?_) | (with_reducible refine bel_drn ?_ _) | (with_reducible refine bel_tr ?_ (by assumption))))
  have HB := Lib.hid (bases_calls _ p mg L (h.below hb0) hO hL hw a b)
  have hbl := basesL_len hO a b
  unfold baseC
  obtain ⟨l, hl⟩ : ∃ l, l = basesL L a b := ⟨_, rfl⟩
  rw [← hl] at HB hbl ⊢
  clear hl hO hw
  obtain ⟨RES, hRES⟩ : ∃ RES, RES = bestOf L l := ⟨_, rfl⟩
  rw [← hRES]
  have HRES := Lib.hid hRES; clear hRES
  have HG := Lib.hid (fun W (hW : GraphAt W p mg L) i => gget_calls p mg W L hW i)
  have H := Lib.hid (h.below hb0); clear h
  obtain ⟨n, hn⟩ : ∃ n, n = l.length := ⟨_, rfl⟩
  unfold NumsOwn at HB
  rw [← hn] at HB hbl
  have HN := Lib.hid hn; clear hn
  go_enter Try.func49, Try.ntmps49
  go_wp2_with (go_at_call 57; refine HB.out.mono ?_; rintro e w1 ⟨v, rfl, ho, hb1⟩; obtain ⟨A1, c1, rfl, hcap⟩ := own_form ho)
  obtain ⟨B, hB⟩ : ∃ B, B = w.heap.size := ⟨_, rfl⟩
  have hblk : HoldsC w1 B CommitD.zero := ⟨none, 0, 0, by rw [hB]; exact (blk_new w _ _).below hb1⟩
  have hF : Hid (Flat w1 A1 (nums l)) := own_flat ho
  have hne : Hid (∀ bb off, A1 = some ⟨bb, off, none⟩ → bb ≠ B) := by
    show ∀ bb off, A1 = some ⟨bb, off, none⟩ → bb ≠ B
    rintro bb off rfl
    have := own_blk ho
    simp at this
    omega
  have hbw : Below w.heap.size w w1 := bel_tr hb0 hb1
  have hB1 : B < w1.heap.size := by have := hb1.size; simp at this; omega
  have hBB := Lib.hid hB; clear hB hb1 ho hcap hb0
  rw [hBB.out.symm]
  go_loopw [19, 10, 11, 12] (fun v _ _ _ wr => ∃ j : Nat, j ≤ n ∧ v = .int .i64 j ∧ Hid (HoldsC wr B (bestOf L (l.take j))) ∧ Hid (But B w1 wr) ∧ Below w.heap.size w wr ∧ B < wr.heap.size) (fun v _ _ _ _ => n - (intOf v).toNat)
  case atStart => exact ⟨0, Nat.zero_le _, rfl, hblk, But.refl _ _, hbw, hB1⟩
  case round =>
    obtain ⟨j, hj, rfl, hblk, hBut, hbw, hB1⟩ := hrel
    obtain ⟨best, hbest⟩ : ∃ best, best = bestOf L (l.take j) := ⟨_, rfl⟩
    rw [← hbest] at hblk
    obtain ⟨A2, n2, k2, hbk⟩ := hblk.out
    obtain ⟨x0, x1, x2, x3, x4, xf⟩ := hbk.five
    by_cases hlt : j < n
    · obtain ⟨id, hid⟩ : ∃ id, l[j]? = some id := ⟨_, List.getElem?_eq_getElem (by rw [← HN.out]; exact hlt)⟩
      obtain ⟨bb, off, rfl, cj⟩ := hF.out.at_ (nums_at hid)
      replace cj := (hBut.out.cell (p := ⟨bb, off + j, none⟩) (cell_lt cj) (hne.out bb off rfl)).trans cj
      have hbl' := cell_lt cj
      have htk : l.take (j + 1) = l.take j ++ [id] := by rw [List.take_add_one, hid]; rfl
      have hnew : bestOf L (l.take (j + 1)) = bestStep L best id := by rw [htk, hbest]; unfold bestOf; rw [List.foldl_append]; rfl
      have HNEW := Lib.hid hnew; clear hnew htk
      have HG2 := Lib.hid (HG.out _ (HW0.out.below hbw) id)
      unfold GetOwn at HG2
      obtain ⟨c, hc⟩ : ∃ c, c = gGet L id := ⟨_, rfl⟩
      unfold bestStep at HNEW
      rw [← hc] at HG2 HNEW
      clear hc hid hbest
      have HBK := Lib.hid hbk; clear hbk
      by_cases hgt : best.gen < c.gen
      · have hn2 := HNEW.out
        rw [if_pos hgt] at hn2
        have HN2 := Lib.hid hn2; clear hn2 HNEW
        go_wp2_with (go_at_call 44; refine HG2.out.mono ?_; rintro e w5 ⟨A5, k5, rfl, ho5, hb5⟩; clear ho5; replace x0 := cell_bel x0 hb5; replace x1 := cell_bel x1 hb5; replace x2 := cell_bel x2 hb5; replace x3 := cell_bel x3 hb5; replace x4 := cell_bel x4 hb5; have xf' := (HBK.out.below hb5).five.2.2.2.2.2; clear xf; have hz5 := hb5.size; have hBz5 : B < w5.heap.size := (by omega))
        obtain ⟨s1, s2⟩ := blk_set5 (.int .u64 c.id) (.slice A5 c.par.length k5) (.int .u64 c.gen) (.int .u64 c.root) (.string c.text) (HBK.out.below hb5)
        have S1 := Lib.hid s1; clear s1
        have S2 := Lib.hid s2; clear s2
        go_roundw
        case rel =>
          have hb9 : Below w.heap.size w w5 := bel_tr hbw hb5
          refine ⟨j + 1, by omega, by go_num, ?_, ?_, ?_, ?_⟩
          · show HoldsC _ _ _
            rw [HN2.out]
            exact ⟨A5, c.par.length, k5, S1.out.al _⟩
          · exact ((hBut.out.trans (But.of_below hb5)).trans S2.out).trans (But.of_below (bel_al0 (Below.refl _ _) _))
          · exact bel_al0 (But.below hb9 (Nat.le_refl _) (by have := hBB.out; omega) S2.out) _
          · simp; omega
        case measure => simp [intOf]; omega
      · have hn2 := HNEW.out
        rw [if_neg hgt] at hn2
        have HN2 := Lib.hid hn2; clear hn2 HNEW
        go_wp2_with (go_at_call 44; refine HG2.out.mono ?_; rintro e w5 ⟨A5, k5, rfl, ho5, hb5⟩; clear ho5; replace x0 := cell_bel x0 hb5; replace x1 := cell_bel x1 hb5; replace x2 := cell_bel x2 hb5; replace x3 := cell_bel x3 hb5; replace x4 := cell_bel x4 hb5; clear xf; have hz5 := hb5.size; have hBz5 : B < w5.heap.size := (by omega))
        have hal : Below wr.heap.size wr (w5.alloc (.cells #[.int .u64 c.id, .slice A5 c.par.length k5, .int .u64 c.gen, .int .u64 c.root, .string c.text] 69)) := by (repeat (first | (with_reducible exact Below.refl _ _) | (with_reducible assumption) | (with_reducible refine bel_al0 ?_ _) | (with_reducible refine bel_set ?_ (by first | (simp; done) | (simp; omega)) _) | (with_reducible refine bel_dr ?_) | (with_reducible refine bel_drn ?_ _) | (with_reducible refine bel_tr ?_ (by assumption))))
        go_roundw
        case rel =>
          refine ⟨j + 1, by omega, by go_num, ?_, hBut.out.trans (But.of_below hal), bel_tr hbw hal, by simp; omega⟩
          show HoldsC _ _ _
          rw [HN2.out]
          exact ⟨A2, n2, k2, HBK.out.below hal⟩
        case measure => simp [intOf]; omega
    · have htk : l.take j = l := by rw [List.take_of_length_le]; have := HN.out; omega
      rw [htk, ← HRES.out] at hbest
      subst hbest
      clear htk hblk
      have g1 : True := trivial
      go_wp2_with fail
      go_region
      all_goals go_wp2
      all_goals go_ret2
      all_goals exact ⟨rfl, by (repeat (first | (with_reducible exact Below.refl _ _) | (with_reducible assumption) | (with_reducible refine bel_al0 ?_ _) | (with_reducible refine bel_set ?_ (by first | (simp; done) | (simp; omega)) _) | (with_reducible refine bel_dr ?_) | (with_reducible refine bel_drn ?_ _) | (with_reducible refine bel_tr ?_ (by assumption))))⟩
end Go.Proofs.Ytehneliphhgegaa
end
