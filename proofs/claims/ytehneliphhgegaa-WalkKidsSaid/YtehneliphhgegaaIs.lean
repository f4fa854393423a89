/- Whether a commit is an ancestor of another one, or of some: walked once. -/
import Derived.Test.YtehneliphhgegaaPlainReach
set_option linter.unusedVariables false
set_option linter.unusedSimpArgs false
set_option maxRecDepth 100000
namespace Go.Proofs.Ytehneliphhgegaa
open Go.RowKit Go.Apo

theorem flat_one (w : World) (x : Int) : Flat (w.alloc (.cells #[.int .u64 x] 24)) (some ⟨w.heap.size, 0, none⟩) (nums [x]) := fun _ => ⟨w.heap.size, 0, rfl, fun j u hj => by
  cases j with
  | zero => simp [nums] at hj; subst hj; exact cell_at_new w _ _ 0 rfl
  | succ j => simp [nums] at hj⟩
theorem is_calls (w : World) (p mg : Nat) (L : List (Int × CommitD)) (h : GraphAt w p mg L) (hO : LOk L) (hL : L.length ≤ 100000) (old late : Int) :
    Calls Try.prog 50 #[.pointer (some ⟨p, 0, none⟩), .int .u64 old, .int .u64 late] w fun e w' => e = .returned (.bool (isB L old late)) ∧ Below w.heap.size w w' := by
  have HR := Lib.hid (reach_calls (w.alloc (.cells #[.int .u64 late] 24)) p mg L (h.below (by (repeat (first | (with_reducible exact Below.refl _ _) | (with_reducible assumption) | (with_reducible refine bel_al0 ?_ _) | (with_reducible refine bel_set ?_ (by first | (simp; done) | (simp; omega)) _) | (with_reducible refine bel_dr ?_) | (with_reducible refine bel_drn ?_ _) | (with_reducible refine bel_tr ?_ (by assumption)))))) hO hL (some ⟨w.heap.size, 0, none⟩) 1 1 [late] rfl (flat_one w late) (fun e => by cases e) (by omega))
  unfold isB
  clear h hO
  obtain ⟨S, hS⟩ : ∃ S, S = reachS L [late] := ⟨_, rfl⟩
  rw [← hS] at HR ⊢
  clear hS
  cases hq : mget S old with
  | none =>
    have HQ := Lib.hid hq; clear hq
    go_enter Try.func50, Try.ntmps50
    go_wp2_with (first | (go_at_call 85; refine HR.out.mono ?_; rintro e w1 ⟨m, rfl, hM, hb1, hm⟩; have HM := Lib.hid hM; clear hM) | (at_lookup; refine wpl_look_none rfl false _ _ 117 4 rfl keyU Try.underlying117 _ (fun W => zeroBool W) rfl old rfl HM.out HQ.out ?_))
    go_ret
    exact ⟨rfl, by (repeat (first | (with_reducible exact Below.refl _ _) | (with_reducible assumption) | (with_reducible refine bel_al0 ?_ _) | (with_reducible refine bel_set ?_ (by first | (simp; done) | (simp; omega)) _) | (with_reducible refine bel_dr ?_) | (with_reducible refine bel_drn ?_ _) | (with_reducible refine bel_tr ?_ (by assumption))))⟩
  | some u =>
    have HQ := Lib.hid hq; clear hq
    go_enter Try.func50, Try.ntmps50
    go_wp2_with (first | (go_at_call 85; refine HR.out.mono ?_; rintro e w1 ⟨m, rfl, hM, hb1, hm⟩; have HM := Lib.hid hM; clear hM) | (at_lookup; refine wpl_look_some rfl false _ _ 117 4 rfl keyU Try.underlying117 rfl old rfl HM.out HQ.out ?_; intro u hu; unfold boolIs at hu; subst hu))
    go_ret
    exact ⟨rfl, by (repeat (first | (with_reducible exact Below.refl _ _) | (with_reducible assumption) | (with_reducible refine bel_al0 ?_ _) | (with_reducible refine bel_set ?_ (by first | (simp; done) | (simp; omega)) _) | (with_reducible refine bel_dr ?_) | (with_reducible refine bel_drn ?_ _) | (with_reducible refine bel_tr ?_ (by assumption))))⟩

/-- all ancestors of some commits, sorted -/
def reachL (L : List (Int × CommitD)) (ids : List Int) : List Int := sortI (mkeys (reachS L ids))
theorem reachS_ok {L : List (Int × CommitD)} (hO : LOk L) (ids : List Int) : SOk L (reachS L ids) := (reachS_is hO ids).ok
theorem reachS_nums {L : List (Int × CommitD)} (hO : LOk L) (hw : numsIn (mkeys L)) (ids : List Int) : numsIn (mkeys (reachS L ids)) := fun k hk => hw k (mem_keys.1 ((reachS_ok hO ids).sub k hk))
theorem Reach_calls (w : World) (p mg : Nat) (L : List (Int × CommitD)) (h : GraphAt w p mg L) (hO : LOk L) (hL : L.length ≤ 100000) (hw : numsIn (mkeys L)) (A : Option Addr) (n k : Nat) (ids : List Int) (hn : ids.length = n) (hf : Flat w A (nums ids)) (hA : A = none → ids = []) (hn2 : n ≤ 100000) :
    Calls Try.prog 59 #[.pointer (some ⟨p, 0, none⟩), .slice A n k] w (NumsOwn w (reachL L ids)) := by
  have HR := Lib.hid (reach_calls w p mg L h hO hL A n k ids hn hf hA hn2)
  have hle := (reachS_ok hO ids).le
  have HW := Lib.hid (reachS_nums hO hw ids)
  unfold reachL
  obtain ⟨S, hS⟩ : ∃ S, S = reachS L ids := ⟨_, rfl⟩
  rw [← hS] at HR HW hle ⊢
  clear hS h hO hf hA hw hn
  have hlk : (mkeys S).length = S.length := by simp [mkeys]
  have hls : (sortI (mkeys S)).length = S.length := by rw [sortI_len, hlk]
  have HLK := Lib.hid hlk; clear hlk
  unfold NumsOwn
  rw [hls]
  clear hls
  go_enter Try.func59, Try.ntmps59
  go_wp2_with (first | (go_at_call 85; refine HR.out.mono ?_; rintro e w1 ⟨m, rfl, hM, hb1, hm⟩; have HM := Lib.hid hM; clear hM) | (go_at_call 94; refine (keysB_calls _ _).mono ?_; rintro e w' ⟨rfl, rfl⟩) | (go_at_call 93; refine (sortedB_calls _ w1.heap.size (cell_at_new w1 _ _ 0 rfl) (HM.out.below bools_onCells (bel_al0 (Below.refl _ _) _)) (by omega) HW.out).mono ?_; rintro e w2 ⟨v, rfl, ho, hnil, hb2⟩))
  rw [HLK.out] at ho
  have hsz := hb1.size
  go_ret
  exact ⟨v, rfl, own_mono ho (by simp; omega), by (repeat (first | (with_reducible exact Below.refl _ _) | (with_reducible assumption) | (with_reducible refine bel_al0 ?_ _) | (with_reducible refine bel_set ?_ (by first | (simp; done) | (simp; omega)) _) | (with_reducible refine bel_dr ?_) | (with_reducible refine bel_drn ?_ _) | (with_reducible refine bel_tr ?_ (by assumption))))⟩

/-- the closure of below -/
theorem below1_calls (w : World) (p mg Bi Bg : Nat) (L : List (Int × CommitD)) (h : GraphAt w p mg L) (hO : LOk L) (hL : L.length ≤ 100000) (id k : Int) (h1 : w.cell? ⟨Bi, 0, none⟩ = some (.int .u64 id)) (h2 : w.cell? ⟨Bg, 0, none⟩ = some (.pointer (some ⟨p, 0, none⟩))) :
    Calls Try.prog 118 #[.int .u64 k, .pointer (some ⟨Bi, 0, none⟩), .pointer (some ⟨Bg, 0, none⟩)] w fun e w' => e = .returned (.bool (!(k == id) && isB L id k)) ∧ Below w.heap.size w w' := by
  have HI := Lib.hid (is_calls w p mg L h hO hL id k)
  clear h hO
  obtain ⟨b, hb⟩ : ∃ b, b = isB L id k := ⟨_, rfl⟩
  rw [← hb] at HI ⊢
  clear hb
  have l1 := cell_lt h1
  have l2 := cell_lt h2
  by_cases he : k = id
  · subst he
    have g2 : (!(k == k)) = false := by simp
    rw [g2, Bool.false_and]
    clear g2
    go_enter Try.func118, Try.ntmps118
    go_wp2
    go_ret
    exact ⟨rfl, by (repeat (first | (with_reducible exact Below.refl _ _) | (with_reducible assumption) | (with_reducible refine bel_al0 ?_ _) | (with_reducible refine bel_set ?_ (by first | (simp; done) | (simp; omega)) _) | (with_reducible refine bel_dr ?_) | (with_reducible refine bel_drn ?_ _) | (with_reducible refine bel_tr ?_ (by assumption))))⟩
  · have g2 : (!(k == id)) = true := by simp [he]
    rw [g2, Bool.true_and]
    have g3 : (k != id) = true := by simpa using he
    go_enter Try.func118, Try.ntmps118
    go_wp2_with (go_at_call 50; refine HI.out.mono ?_; rintro e w1 ⟨rfl, hb1⟩)
    go_ret
    exact ⟨rfl, by (repeat (first | (with_reducible exact Below.refl _ _) | (with_reducible assumption) | (with_reducible refine bel_al0 ?_ _) | (with_reducible refine bel_set ?_ (by first | (simp; done) | (simp; omega)) _) | (with_reducible refine bel_dr ?_) | (with_reducible refine bel_drn ?_ _) | (with_reducible refine bel_tr ?_ (by assumption))))⟩
/-- the first place at which the closure says yes -/
def firstB (f : Int → Bool) (l : List Int) : Int := match l.findIdx? f with
  | some k => k
  | none => -1
theorem indexB_calls (w : World) (p mg Bi Bg : Nat) (L : List (Int × CommitD)) (h : GraphAt w p mg L) (hO : LOk L) (hL : L.length ≤ 100000) (id : Int) (h1 : w.cell? ⟨Bi, 0, none⟩ = some (.int .u64 id)) (h2 : w.cell? ⟨Bg, 0, none⟩ = some (.pointer (some ⟨p, 0, none⟩)))
    (A : Option Addr) (n k : Nat) (l : List Int) (hn : l.length = n) (hf : Flat w A (nums l)) (hn2 : n ≤ 100000) :
    Calls Try.prog 113 #[.slice A n k, .func (.func 118) #[] #[.pointer (some ⟨Bi, 0, none⟩), .pointer (some ⟨Bg, 0, none⟩)]] w fun e w' => e = .returned (.int .i64 (firstB (fun k => !(k == id) && isB L id k) l)) ∧ Below w.heap.size w w' := by
  obtain ⟨r, hr⟩ : ∃ r, r = firstB (fun k => !(k == id) && isB L id k) l := ⟨_, rfl⟩
  rw [← hr]
  have HR := Lib.hid hr; clear hr
  have HN := Lib.hid hn; clear hn
  have HF := Lib.hid hf; clear hf
  have HC := Lib.hid (fun W (hW : Below w.heap.size w W) k => below1_calls W p mg Bi Bg L (h.below hW) hO hL id k (cell_bel h1 hW) (cell_bel h2 hW))
  clear h hO h1 h2
  go_enter Try.func113, Try.ntmps113
  go_wp2
  go_loopw [8, 5] (fun v _ wr => ∃ j : Nat, j ≤ n ∧ v = .int .i64 j ∧ Hid (∀ q x, q < j → l[q]? = some x → (!(x == id) && isB L id x) = false) ∧ Below w.heap.size w wr) (fun v _ _ => n - (intOf v).toNat)
  case atStart => exact ⟨0, Nat.zero_le _, rfl, fun q _ hq => absurd hq (Nat.not_lt_zero _), by (repeat (first | (with_reducible exact Below.refl _ _) | (with_reducible assumption) | (with_reducible refine bel_al0 ?_ _) | (with_reducible refine bel_set ?_ (by first | (simp; done) | (simp; omega)) _) | (with_reducible refine bel_dr ?_) | (with_reducible refine bel_drn ?_ _) | (with_reducible refine bel_tr ?_ (by assumption))))⟩
  case round =>
    obtain ⟨j, hj, rfl, hok, hB⟩ := hrel
    by_cases hlt : j < n
    · obtain ⟨x, hx⟩ : ∃ x, l[j]? = some x := ⟨_, List.getElem?_eq_getElem (by rw [HN.out]; exact hlt)⟩
      obtain ⟨b, off, rfl, cj⟩ := HF.out.at_ (nums_at hx)
      replace cj := cell_bel cj hB
      have HC2 := Lib.hid (HC.out _ hB x)
      obtain ⟨y, hy⟩ : ∃ y, y = (!(x == id) && isB L id x) := ⟨_, rfl⟩
      rw [← hy] at HC2
      have HX := Lib.hid hx; clear hx
      have HY := Lib.hid hy; clear hy
      cases y with
      | true =>
        have hr : r = j := by
          rw [HR.out]
          unfold firstB
          have : l.findIdx? (fun k => !(k == id) && isB L id k) = some j := by
            rw [List.findIdx?_eq_some_iff_getElem]
            obtain ⟨hk, hc⟩ := List.getElem?_eq_some_iff.1 HX.out
            refine ⟨hk, by rw [hc]; exact HY.out.symm, fun q hq => ?_⟩
            have := hok.out q l[q] hq (List.getElem?_eq_getElem _)
            rw [this]; decide
          rw [this]
        subst hr
        go_wp2_with (go_at_call 118; refine HC2.out.mono ?_; rintro e w1 ⟨rfl, hb1⟩)
        go_ret
        exact ⟨rfl, by (repeat (first | (with_reducible exact Below.refl _ _) | (with_reducible assumption) | (with_reducible refine bel_al0 ?_ _) | (with_reducible refine bel_set ?_ (by first | (simp; done) | (simp; omega)) _) | (with_reducible refine bel_dr ?_) | (with_reducible refine bel_drn ?_ _) | (with_reducible refine bel_tr ?_ (by assumption))))⟩
      | false =>
        go_wp2_with (go_at_call 118; refine HC2.out.mono ?_; rintro e w1 ⟨rfl, hb1⟩)
        go_roundw
        case rel =>
          refine ⟨j + 1, by omega, by go_num, fun q x' hq hq' => ?_, by (repeat (first | (with_reducible exact Below.refl _ _) | (with_reducible assumption) | (with_reducible refine bel_al0 ?_ _) | (with_reducible refine bel_set ?_ (by first | (simp; done) | (simp; omega)) _) | (with_reducible refine bel_dr ?_) | (with_reducible refine bel_drn ?_ _) | (with_reducible refine bel_tr ?_ (by assumption))))⟩
          rcases Nat.lt_or_ge q j with h' | h'
          · exact hok.out q x' h' hq'
          · obtain rfl : q = j := by omega
            rw [HX.out] at hq'; cases hq'; exact HY.out.symm
        case measure => simp [intOf]; omega
    · have hr : r = -1 := by
        rw [HR.out]
        unfold firstB
        have : l.findIdx? (fun k => !(k == id) && isB L id k) = none := by
          rw [List.findIdx?_eq_none_iff]
          intro x hx
          obtain ⟨q, hq⟩ := List.mem_iff_getElem?.1 hx
          exact hok.out q x (by have := (List.getElem?_eq_some_iff.1 hq).1; have := HN.out; omega) hq
        rw [this]
      subst hr
      go_wp2
      go_ret
      exact ⟨rfl, hB⟩
/-- whether a commit is an ancestor of another one of some -/
def belowB (L : List (Int × CommitD)) (id : Int) (l : List Int) : Bool := l.any fun k => !(k == id) && isB L id k
theorem firstB_any (f : Int → Bool) (l : List Int) : decide (0 ≤ firstB f l) = l.any f := by
  unfold firstB
  cases h : l.findIdx? f with
  | none =>
    rw [List.findIdx?_eq_none_iff] at h
    have : l.any f = false := by rw [List.any_eq_false]; intro x hx; simp [h x hx]
    rw [this]; rfl
  | some k =>
    rw [List.findIdx?_eq_some_iff_getElem] at h
    obtain ⟨hk, h1, _⟩ := h
    have : l.any f = true := by rw [List.any_eq_true]; exact ⟨l[k], List.getElem_mem _, h1⟩
    rw [this]; simp
theorem containsB_calls (w : World) (p mg Bi Bg : Nat) (L : List (Int × CommitD)) (h : GraphAt w p mg L) (hO : LOk L) (hL : L.length ≤ 100000) (id : Int) (h1 : w.cell? ⟨Bi, 0, none⟩ = some (.int .u64 id)) (h2 : w.cell? ⟨Bg, 0, none⟩ = some (.pointer (some ⟨p, 0, none⟩)))
    (A : Option Addr) (n k : Nat) (l : List Int) (hn : l.length = n) (hf : Flat w A (nums l)) (hn2 : n ≤ 100000) :
    Calls Try.prog 117 #[.slice A n k, .func (.func 118) #[] #[.pointer (some ⟨Bi, 0, none⟩), .pointer (some ⟨Bg, 0, none⟩)]] w fun e w' => e = .returned (.bool (belowB L id l)) ∧ Below w.heap.size w w' := by
  have HI := Lib.hid (indexB_calls w p mg Bi Bg L h hO hL id h1 h2 A n k l hn hf hn2)
  unfold belowB
  rw [← firstB_any]
  clear h hO h1 h2 hf hn
  obtain ⟨r, hr⟩ : ∃ r, r = firstB (fun k => !(k == id) && isB L id k) l := ⟨_, rfl⟩
  rw [← hr] at HI ⊢
  clear hr
  go_enter Try.func117, Try.ntmps117
  go_wp2_with (go_at_call 113; refine HI.out.mono ?_; rintro e w1 ⟨rfl, hb1⟩)
  go_ret
  exact ⟨rfl, hb1⟩
theorem below_calls (w : World) (p mg : Nat) (L : List (Int × CommitD)) (h : GraphAt w p mg L) (hO : LOk L) (hL : L.length ≤ 100000) (id : Int)
    (A : Option Addr) (n k : Nat) (l : List Int) (hn : l.length = n) (hf : Flat w A (nums l)) (hn2 : n ≤ 100000) :
    Calls Try.prog 92 #[.pointer (some ⟨p, 0, none⟩), .int .u64 id, .slice A n k] w fun e w' => e = .returned (.bool (belowB L id l)) ∧ Below w.heap.size w w' := by
  obtain ⟨W, hW⟩ : ∃ W, W = (w.alloc (.cells #[.pointer (some ⟨p, 0, none⟩)] 42)).alloc (.cells #[.int .u64 id] 24) := ⟨_, rfl⟩
  have hb : Below w.heap.size w ((w.alloc (.cells #[.pointer (some ⟨p, 0, none⟩)] 42)).alloc (.cells #[.int .u64 id] 24)) := by (repeat (first | (with_reducible exact Below.refl _ _) | (with_reducible assumption) | (with_reducible refine bel_al0 ?_ _) | (with_reducible refine bel_set ?_ (by first | (simp; done) | (simp; omega)) _) | (with_reducible refine bel_dr ?_) | (with_reducible refine bel_drn ?_ _) | (with_reducible refine bel_tr ?_ (by assumption))))
  have c1 : ((w.alloc (.cells #[.pointer (some ⟨p, 0, none⟩)] 42)).alloc (.cells #[.int .u64 id] 24)).cell? ⟨w.heap.size + 1, 0, none⟩ = some (.int .u64 id) := by
    have := cell_at_new (w.alloc (.cells #[.pointer (some ⟨p, 0, none⟩)] 42)) #[.int .u64 id] 24 0 (v := .int .u64 id) rfl
    have hz : (w.alloc (.cells #[.pointer (some ⟨p, 0, none⟩)] 42)).heap.size = w.heap.size + 1 := by simp
    rw [hz] at this
    exact this
  have c2 : ((w.alloc (.cells #[.pointer (some ⟨p, 0, none⟩)] 42)).alloc (.cells #[.int .u64 id] 24)).cell? ⟨w.heap.size, 0, none⟩ = some (.pointer (some ⟨p, 0, none⟩)) :=
    cell_al (cell_at_new w #[.pointer (some ⟨p, 0, none⟩)] 42 0 rfl) _
  have HI := Lib.hid (containsB_calls _ p mg (w.heap.size + 1) w.heap.size L (h.below hb) hO hL id c1 c2 A n k l hn (hf.below hb) hn2)
  clear h hO hf hn c1 c2 hW
  obtain ⟨r, hr⟩ : ∃ r, r = belowB L id l := ⟨_, rfl⟩
  rw [← hr] at HI ⊢
  clear hr
  go_enter Try.func92, Try.ntmps92
  go_wp2_with (go_at_call 117; refine HI.out.mono ?_; rintro e w1 ⟨rfl, hb1⟩)
  go_ret
  exact ⟨rfl, bel_tr hb hb1⟩
end Go.Proofs.Ytehneliphhgegaa
