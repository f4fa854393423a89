/- slices.BinarySearch at []uint64; the commits between two: walked once. · The line of a commit; the order of all commits of no graph: walked once. · What a graph that nobody made tells: nothing. -/
import Derived.Test.YtehneliphhgegaaNilG
import Derived.Test.YtehneliphhgegaaKidsAll
import Derived.Deep.LoopGhost
import Derived.Deep.Draws
import Derived.Lib.SlicesSearch
import Derived.Test.YtehneliphhgegaaNilW
import Derived.Test.YtehneliphhgegaaIsAll
section
set_option linter.unusedVariables false
set_option linter.unusedSimpArgs false
set_option maxRecDepth 1000000
namespace Go.Proofs.Ytehneliphhgegaa
open Go.RowKit Go.Apo Go.Shelf

theorem U.slices_isNaN_u64 (x : Int) (w : World) : Calls Try.prog 124 #[.int .u64 x] w fun e w' => e = .returned (.bool false) ∧ w' = w := by
  go_enter Try.func124, Try.ntmps124
  go_wp2
  go_ret
  exact ⟨by simp, rfl⟩

set_option maxHeartbeats 4000000 in
theorem binsearch_calls (w : World) (A : Option Addr) (n c : Nat) (zs : List Int) (hn : zs.length = n) (hf : Flat w A (nums zs)) (hbig : n ≤ 1000000) (hs : zs.Pairwise (· ≤ ·)) (x : Int) :
    Calls Try.prog 104 #[.slice A n c, .int .u64 x] w fun e w' => ∃ k : Int, e = .returned (.tuple #[.int .i64 k, .bool (zs.contains x)]) ∧ Below w.heap.size w w' := by
  have htk : zs.take n = zs := by rw [List.take_of_length_le]; omega
  have S : Aside (∀ a b, a ≤ b → b < n → zs.getD a 0 ≤ zs.getD b 0) := Lib.sorted_at zs n (by omega) (by rw [htk]; exact hs)
  clear hs
  have HF := Lib.hid hf; clear hf
  have hL : ∀ (y : Int) (W : World), Calls Try.prog 123 #[.int .u64 y, .int .u64 x] W fun e w' => e = .returned (.bool (decide (y < x))) ∧ w' = W := fun y W => U.cmp_Less_u64 y x W
  have HL := Lib.hid hL; clear hL
  have hat : ∀ (W : World) (j : Nat), Below w.heap.size w W → j < n → ∃ b off, A = some ⟨b, off, none⟩ ∧ W.cell? ⟨b, off + j, none⟩ = some (.int .u64 (zs.getD j 0)) := fun W j hW hj => by
    have hx : zs[j]? = some (zs.getD j 0) := by rw [List.getD_eq_getElem?_getD, List.getElem?_eq_getElem (by omega)]; rfl
    obtain ⟨b, off, rfl, cj⟩ := HF.out.at_ (nums_at hx)
    exact ⟨b, off, rfl, cell_bel cj hW⟩
  have HAT := Lib.hid hat; clear hat
  have HE := Lib.hid (fun hi h1 h2 h3 => Lib.search_end zs n hi x (by omega) h1 h2 h3 S.out)
  obtain ⟨RR, hRR⟩ : ∃ RR, RR = zs.contains x := ⟨_, rfl⟩
  rw [← hRR]
  have HRR := Lib.hid hRR; clear hRR
  go_enter Try.func104, Try.ntmps104
  go_wp2
  go_loopg [7, 8] n (fun g s7 s8 wr => ∃ lo hi : Nat, s7 = .int .i64 lo ∧ s8 = .int .i64 hi ∧ lo ≤ hi ∧ hi ≤ n ∧ hi - lo ≤ g ∧ Below w.heap.size w wr ∧ Hid ((∀ t, t < lo → zs.getD t 0 < x) ∧ (∀ t, hi ≤ t → t < n → x ≤ zs.getD t 0)))
  case atStart => exact ⟨0, n, rfl, rfl, Nat.zero_le _, Nat.le_refl _, by omega, by (repeat (first | (with_reducible exact Below.refl _ _) | (with_reducible assumption) | (with_reducible refine bel_al0 ?_ _) | (with_reducible refine bel_set ?_ (by first | (simp; done) | (simp; omega)) _) | (with_reducible refine bel_dr ?_) | (with_reducible refine bel_drn ?_ _) | (with_reducible refine bel_tr ?_ (by assumption)))), ⟨fun t ht => absurd ht (Nat.not_lt_zero _), fun t h1 h2 => by omega⟩⟩
  case round =>
    obtain ⟨lo, hi, rfl, rfl, hlh, hin, hg, hB, I⟩ := hrel
    by_cases hlt : lo < hi
    · obtain ⟨b, off, rfl, cm⟩ := HAT.out _ ((lo + hi) / 2) hB (by omega)
      have hbl := cell_lt cm
      generalize hy : zs.getD ((lo + hi) / 2) 0 = y at cm
      have Y : Aside (zs.getD ((lo + hi) / 2) 0 = y) := hy
      clear hy
      have HLy := Lib.hid (HL.out y)
      by_cases hyx : y < x
      · rw [decide_eq_true hyx] at HLy
        go_wp2_with (go_at_call 123; refine (HLy.out _).mono ?_; rintro e w' ⟨rfl, rfl⟩)
        go_roundg (hi - ((lo + hi) / 2 + 1))
        case measure => omega
        case rel =>
          refine ⟨(lo + hi) / 2 + 1, hi, by rw [show ((lo : Int) + (hi : Int)) / 2 + 1 = (((lo + hi) / 2 + 1 : Nat) : Int) by omega], rfl, by omega, hin, Nat.le_refl _, by (repeat (first | (with_reducible exact Below.refl _ _) | (with_reducible assumption) | (with_reducible refine bel_al0 ?_ _) | (with_reducible refine bel_set ?_ (by first | (simp; done) | (simp; omega)) _) | (with_reducible refine bel_dr ?_) | (with_reducible refine bel_drn ?_ _) | (with_reducible refine bel_tr ?_ (by assumption)))), fun t ht => ?_, I.out.2⟩
          have := S.out t ((lo + hi) / 2) (by omega) (by omega)
          rw [Y.out] at this
          omega
      · rw [decide_eq_false hyx] at HLy
        go_wp2_with (go_at_call 123; refine (HLy.out _).mono ?_; rintro e w' ⟨rfl, rfl⟩)
        go_roundg ((lo + hi) / 2 - lo)
        case measure => omega
        case rel =>
          refine ⟨lo, (lo + hi) / 2, rfl, by rw [show ((lo : Int) + (hi : Int)) / 2 = (((lo + hi) / 2 : Nat) : Int) by omega], by omega, by omega, Nat.le_refl _, by (repeat (first | (with_reducible exact Below.refl _ _) | (with_reducible assumption) | (with_reducible refine bel_al0 ?_ _) | (with_reducible refine bel_set ?_ (by first | (simp; done) | (simp; omega)) _) | (with_reducible refine bel_dr ?_) | (with_reducible refine bel_drn ?_ _) | (with_reducible refine bel_tr ?_ (by assumption)))), I.out.1, fun t ht htn => ?_⟩
          have := S.out ((lo + hi) / 2) t ht htn
          rw [Y.out] at this
          omega
    · have : hi = lo := by omega
      subst this
      obtain ⟨e1, e2⟩ := HE.out hi hin I.out.1 I.out.2
      rw [htk, ← HRR.out] at e2
      have E : Aside (RR = decide (hi < n ∧ zs.getD hi 0 = x)) := e2
      clear e1 e2
      by_cases hn' : hi < n
      · obtain ⟨b, off, rfl, cl⟩ := HAT.out _ hi hB hn'
        have hbl := cell_lt cl
        generalize hy : zs.getD hi 0 = y at cl
        have Y : Aside (zs.getD hi 0 = y) := hy
        clear hy
        by_cases hyx : y = x
        · go_wp2_with (go_at_call 124; refine (U.slices_isNaN_u64 _ _).mono ?_; rintro e w' ⟨rfl, rfl⟩)
          go_ret2
          first | refine ⟨⟨hi, ?_⟩, by (repeat (first | (with_reducible exact Below.refl _ _) | (with_reducible assumption) | (with_reducible refine bel_al0 ?_ _) | (with_reducible refine bel_set ?_ (by first | (simp; done) | (simp; omega)) _) | (with_reducible refine bel_dr ?_) | (with_reducible refine bel_drn ?_ _) | (with_reducible refine bel_tr ?_ (by assumption))))⟩ | refine ⟨hi, ?_, by (repeat (first | (with_reducible exact Below.refl _ _) | (with_reducible assumption) | (with_reducible refine bel_al0 ?_ _) | (with_reducible refine bel_set ?_ (by first | (simp; done) | (simp; omega)) _) | (with_reducible refine bel_dr ?_) | (with_reducible refine bel_drn ?_ _) | (with_reducible refine bel_tr ?_ (by assumption))))⟩
          rw [E.out, Y.out, decide_eq_true (show hi < n ∧ y = x from ⟨hn', hyx⟩)]
          first | rfl | simp [*]
        · go_wp2_with (go_at_call 124; refine (U.slices_isNaN_u64 _ _).mono ?_; rintro e w' ⟨rfl, rfl⟩)
          go_ret2
          first | refine ⟨⟨hi, ?_⟩, by (repeat (first | (with_reducible exact Below.refl _ _) | (with_reducible assumption) | (with_reducible refine bel_al0 ?_ _) | (with_reducible refine bel_set ?_ (by first | (simp; done) | (simp; omega)) _) | (with_reducible refine bel_dr ?_) | (with_reducible refine bel_drn ?_ _) | (with_reducible refine bel_tr ?_ (by assumption))))⟩ | refine ⟨hi, ?_, by (repeat (first | (with_reducible exact Below.refl _ _) | (with_reducible assumption) | (with_reducible refine bel_al0 ?_ _) | (with_reducible refine bel_set ?_ (by first | (simp; done) | (simp; omega)) _) | (with_reducible refine bel_dr ?_) | (with_reducible refine bel_drn ?_ _) | (with_reducible refine bel_tr ?_ (by assumption))))⟩
          rw [E.out, Y.out, decide_eq_false (show ¬ (hi < n ∧ y = x) from fun h => hyx h.2)]
          first | rfl | simp [*]
      · go_wp2_with (go_at_call 124; refine (U.slices_isNaN_u64 _ _).mono ?_; rintro e w' ⟨rfl, rfl⟩)
        go_ret2
        first | refine ⟨⟨hi, ?_⟩, by (repeat (first | (with_reducible exact Below.refl _ _) | (with_reducible assumption) | (with_reducible refine bel_al0 ?_ _) | (with_reducible refine bel_set ?_ (by first | (simp; done) | (simp; omega)) _) | (with_reducible refine bel_dr ?_) | (with_reducible refine bel_drn ?_ _) | (with_reducible refine bel_tr ?_ (by assumption))))⟩ | refine ⟨hi, ?_, by (repeat (first | (with_reducible exact Below.refl _ _) | (with_reducible assumption) | (with_reducible refine bel_al0 ?_ _) | (with_reducible refine bel_set ?_ (by first | (simp; done) | (simp; omega)) _) | (with_reducible refine bel_dr ?_) | (with_reducible refine bel_drn ?_ _) | (with_reducible refine bel_tr ?_ (by assumption))))⟩
        rw [E.out, decide_eq_false (show ¬ (hi < n ∧ zs.getD hi 0 = x) from fun h => hn' h.1)]
        first | rfl | simp [*]

/-- the closure of Between -/
theorem between1_calls (w : World) (B : Nat) (A : Option Addr) (n k : Nat) (zs : List Int) (hc : w.cell? ⟨B, 0, none⟩ = some (.slice A n k)) (hn : zs.length = n) (hf : Flat w A (nums zs)) (hbig : n ≤ 1000000) (hs : zs.Pairwise (· ≤ ·)) (x : Int) :
    Calls Try.prog 103 #[.int .u64 x, .pointer (some ⟨B, 0, none⟩)] w fun e w' => e = .returned (.bool (zs.contains x)) ∧ Below w.heap.size w w' := by
  have HB := Lib.hid (binsearch_calls w A n k zs hn hf hbig hs x)
  obtain ⟨y, hy⟩ : ∃ y, y = zs.contains x := ⟨_, rfl⟩
  rw [← hy] at HB ⊢
  clear hy hf hs
  have hlt := cell_lt hc
  go_enter Try.func103, Try.ntmps103
  go_wp2_with (go_at_call 104; refine HB.out.mono ?_; rintro e w1 ⟨k1, rfl, hb1⟩)
  go_ret
  exact ⟨rfl, by (repeat (first | (with_reducible exact Below.refl _ _) | (with_reducible assumption) | (with_reducible refine bel_al0 ?_ _) | (with_reducible refine bel_set ?_ (by first | (simp; done) | (simp; omega)) _) | (with_reducible refine bel_dr ?_) | (with_reducible refine bel_drn ?_ _) | (with_reducible refine bel_tr ?_ (by assumption))))⟩
def betweenL (L : List (Int × CommitD)) (a b : Int) : List Int := (reachL L [b]).filter fun x => !(reachL L [a]).contains x
theorem reachL_pw (L : List (Int × CommitD)) (ids : List Int) : (reachL L ids).Pairwise (· ≤ ·) := sortI_pw _
theorem reachL_len {L : List (Int × CommitD)} (hO : LOk L) (ids : List Int) : (reachL L ids).length ≤ L.length := by
  unfold reachL
  rw [sortI_len]
  have := (reachS_ok hO ids).le
  simpa [mkeys] using this
set_option maxHeartbeats 4000000 in
theorem between_calls (w : World) (gq : Option Addr) (L : List (Int × CommitD)) (h : GP w gq L) (hO : LOk L) (hL : L.length ≤ 100000) (hw : numsIn (mkeys L)) (a b : Int) :
    Calls Try.prog 71 #[.pointer gq, .int .u64 a, .int .u64 b] w (NumsOwn w (betweenL L a b)) := by
  have HR := Lib.hid (fun W (hW : Below w.heap.size w W) y (z : Nat) (hz : z = W.heap.size) => N.Reach_calls (W.alloc (.cells #[.int .u64 y] 24)) gq L (h.below (bel_al0 hW _)) hO hL hw (some ⟨z, 0, none⟩) 1 1 [y] rfl (by rw [hz]; exact flat_one W y) (fun e => by cases e) (by omega))
  have HRA := Lib.hid (fun W (hW : Below w.heap.size w W) => HR.out W hW a W.heap.size rfl)
  have HRB := Lib.hid (fun W (hW : Below w.heap.size w W) => HR.out W hW b)
  clear HR
  have hla := reachL_len hO [a]
  have hlb := reachL_len hO [b]
  have hpa := reachL_pw L [a]
  unfold betweenL
  obtain ⟨ra, hra⟩ : ∃ ra, ra = reachL L [a] := ⟨_, rfl⟩
  obtain ⟨rb, hrb⟩ : ∃ rb, rb = reachL L [b] := ⟨_, rfl⟩
  rw [← hra] at HRA hla hpa ⊢
  rw [← hrb] at HRB hlb ⊢
  clear hra hrb h hO hw
  have HPA := Lib.hid hpa; clear hpa
  unfold NumsOwn at HRA HRB ⊢
  obtain ⟨na, hna⟩ : ∃ na, na = ra.length := ⟨_, rfl⟩
  obtain ⟨nb, hnb⟩ : ∃ nb, nb = rb.length := ⟨_, rfl⟩
  rw [← hna] at HRA hla
  rw [← hnb] at HRB hlb
  have HNA := Lib.hid hna.symm; clear hna
  have HNB := Lib.hid hnb.symm; clear hnb
  go_enter Try.func71, Try.ntmps71
  go_wp2_with (first | (go_at_call 59; refine (HRA.out w (Below.refl _ _)).mono ?_; clear HRA; rintro e w1 ⟨v1, rfl, ho1, hb1⟩; obtain ⟨A1, k1, rfl, _⟩ := own_form ho1; have hf1 := Lib.hid (own_flat ho1); clear ho1; have hbw1 : Below w.heap.size w w1 := bel_tr (bel_al0 (Below.refl _ _) _) hb1) | (go_at_call 59; refine (HRB.out (w1.alloc (.cells #[.slice A1 na k1] 50)) (bel_al0 hbw1 _) (w1.heap.size + 1) (by simp)).mono ?_; clear HRB; rintro e w2 ⟨v2, rfl, ho2, hb2⟩))
  obtain ⟨W2, hW2⟩ : ∃ W2, W2 = (w1.alloc (.cells #[.slice A1 na k1] 50)).alloc (.cells #[.int .u64 b] 24) := ⟨_, rfl⟩
  have hb12 : Below w1.heap.size w1 W2 := by rw [hW2]; (repeat (first | (with_reducible exact Below.refl _ _) | (with_reducible assumption) | (with_reducible refine bel_al0 ?_ _) | (with_reducible refine bel_set ?_ (by first | (simp; done) | (simp; omega)) _) | (with_reducible refine bel_dr ?_) | (with_reducible refine bel_drn ?_ _) | (with_reducible refine bel_tr ?_ (by assumption))))
  have c2 : W2.cell? ⟨w1.heap.size, 0, none⟩ = some (.slice A1 na k1) := by rw [hW2]; exact cell_al (cell_at_new w1 _ _ 0 rfl) _
  rw [← hW2] at ho2 hb2
  clear hW2
  have hPr : Pred W2 W2.heap.size 103 #[.pointer (some ⟨w1.heap.size, 0, none⟩)] (fun x => ra.contains x) := fun W hW x =>
    between1_calls W w1.heap.size A1 na k1 ra (cell_bel c2 hW) HNA.out ((hf1.out.below hb12).below hW) (by omega) HPA.out x
  have HD := Lib.hid (delete_own W2 w2 W2.heap.size (Nat.le_refl _) hb2 hb2.size 103 #[.pointer (some ⟨w1.heap.size, 0, none⟩)] (enters_of Try.func103 (by kernel_rfl) rfl) _ hPr v2 nb rb HNB.out ho2 (by omega))
  have hwW2 : Below w.heap.size w W2 := hbw1.trans (hb12.mono hbw1.size)
  have hs2 := hwW2.size
  clear hPr c2 ho2 hb2 hb12 hb1
  go_wp2_with (go_at_call 87; refine HD.out.mono ?_; rintro e w6 ⟨v6, rfl, ho6, hb6⟩)
  go_ret
  exact ⟨v6, rfl, own_mono ho6 hs2, hwW2.trans (hb6.mono hs2)⟩
end Go.Proofs.Ytehneliphhgegaa
end
section
set_option linter.unusedVariables false
set_option linter.unusedSimpArgs false
set_option maxRecDepth 100000
namespace Go.Proofs.Ytehneliphhgegaa
open Go.RowKit Go.Apo

/-- a commit, its first parent, and so on -/
def lineL (L : List (Int × CommitD)) (i : Int) : List Int :=
  match mget L i with
  | none => []
  | some c => i :: match c.par with
    | [] => []
    | p :: _ => if h : p.toNat < i.toNat then lineL L p else []
termination_by i.toNat
theorem lineL_none {L : List (Int × CommitD)} {i : Int} (h : mget L i = none) : lineL L i = [] := by rw [lineL, h]
theorem lineL_end {L : List (Int × CommitD)} {i : Int} {c : CommitD} (h : mget L i = some c) (hp : c.par = []) : lineL L i = [i] := by rw [lineL, h]; simp only; rw [hp]
theorem lineL_on {L : List (Int × CommitD)} {i p : Int} {c : CommitD} {ps : List Int} (h : mget L i = some c) (hp : c.par = p :: ps) (hlt : p.toNat < i.toNat) : lineL L i = i :: lineL L p := by
  conv => lhs; rw [lineL, h]
  simp only
  rw [hp]
  simp only
  rw [dif_pos hlt]
/-- the first parent's number is less -/
def Falls (L : List (Int × CommitD)) : Prop := ∀ i c, mget L i = some c → c.par.length ≤ 2 ∧ ∀ p ∈ c.par, p.toNat < i.toNat
theorem Falls.nil : Falls [] := fun i c h => by cases h

set_option maxHeartbeats 4000000 in
theorem line_calls (w : World) (gq : Option Addr) (L : List (Int × CommitD)) (h : GP w gq L) (hF : Falls L) (id : Int) (hbig : (lineL L id).length ≤ 100000) :
    Calls Try.prog 69 #[.pointer gq, .int .u64 id] w (NumsOwn w (lineL L id)) := by
  have HG := Lib.hid (fun W (hW : Below w.heap.size w W) i => gp_get gq W L (h.below hW) i)
  have HFA := Lib.hid hF; clear hF
  obtain ⟨RES, hRES⟩ : ∃ RES, RES = lineL L id := ⟨_, rfl⟩
  rw [← hRES] at hbig ⊢
  have HRES := Lib.hid hRES; clear hRES h
  unfold NumsOwn
  go_enter Try.func69, Try.ntmps69
  go_wp2
  go_loopw [1, 5] (fun v v5 wr => ∃ (i : Int) (pre : List Int) (np : Nat), v = .int .u64 i ∧ Hid (RES = pre ++ lineL L i) ∧ Hid (np = pre.length) ∧ Hid (wr.ownsRow w.heap.size 24 1 v5 np (nums pre)) ∧ Below w.heap.size w wr) (fun v _ _ => (intOf v).toNat)
  case atStart => exact ⟨id, [], 0, rfl, by show RES = [] ++ lineL L id; rw [HRES.out]; rfl, rfl, World.ownsRow_nil _ _ _ _, by (repeat (first | (with_reducible exact Below.refl _ _) | (with_reducible assumption) | (with_reducible refine bel_al0 ?_ _) | (with_reducible refine bel_set ?_ (by first | (simp; done) | (simp; omega)) _) | (with_reducible refine bel_dr ?_) | (with_reducible refine bel_drn ?_ _) | (with_reducible refine bel_tr ?_ (by assumption))))⟩
  case round =>
    obtain ⟨i, pre, np, rfl, hE, hnp, ho, hB⟩ := hrel
    have HGi := Lib.hid (HG.out wr hB i)
    unfold GetOwn at HGi
    cases hq : mget L i with
    | none =>
      rw [hq] at HGi
      have he := hE.out
      rw [lineL_none hq, List.append_nil] at he
      have HE2 := Lib.hid he
      clear hq he
      obtain ⟨c, hc⟩ : ∃ c, c = gGet L i := ⟨_, rfl⟩
      rw [← hc] at HGi
      clear hc
      have HGj : Hid _ := HGi
      simp only [Option.isSome_none] at HGi
      go_wp2_with (go_at_call 44; refine HGi.out.mono ?_; rintro e w5 ⟨A5, k5, rfl, ho5, hb5⟩; clear ho5)
      go_ret
      refine ⟨_, rfl, ?_, bel_tr hB (by (repeat (first | (with_reducible exact Below.refl _ _) | (with_reducible assumption) | (with_reducible refine bel_al0 ?_ _) | (with_reducible refine bel_set ?_ (by first | (simp; done) | (simp; omega)) _) | (with_reducible refine bel_dr ?_) | (with_reducible refine bel_drn ?_ _) | (with_reducible refine bel_tr ?_ (by assumption)))))⟩
      rw [HE2.out, ← hnp.out]
      exact own_below ho.out (by (repeat (first | (with_reducible exact Below.refl _ _) | (with_reducible assumption) | (with_reducible refine bel_al0 ?_ _) | (with_reducible refine bel_set ?_ (by first | (simp; done) | (simp; omega)) _) | (with_reducible refine bel_dr ?_) | (with_reducible refine bel_drn ?_ _) | (with_reducible refine bel_tr ?_ (by assumption)))))
    | some c =>
      have hgc : gGet L i = c := by unfold gGet; rw [hq]; rfl
      rw [hq, hgc] at HGi
      simp only [Option.isSome_some] at HGi
      obtain ⟨hp2, hpf⟩ := HFA.out i c hq
      have hlen : pre.length + (lineL L i).length ≤ 100000 := by have := hE.out; rw [this, List.length_append] at hbig; exact hbig
      rw [← hnp.out] at hlen
      have hsz := hB.size
      cases hps : c.par with
      | nil =>
        rw [hps] at HGi
        have he := hE.out
        rw [lineL_end hq hps] at he hlen
        have HE2 := Lib.hid he
        have hl2 : np + 1 ≤ 100000 := by simpa using hlen
        clear hq he hgc hpf hps hlen
        simp only [List.length_nil] at HGi
        go_wp2_with (first | (go_at_call 44; refine HGi.out.mono ?_; rintro e w5 ⟨A5, k5, rfl, ho5, hb5⟩; clear ho5; have hbB := blk_new w5 #[.int .u64 c.id, .slice A5 0 k5, .int .u64 c.gen, .int .u64 c.root, .string c.text] 69; have hz5 : w.heap.size ≤ w5.heap.size := (by have := hb5.size; omega)) | (at_builtin; refine wpl_append rfl _ _ 50 rfl w.heap.size 24 _ 1 8 Try.underlying50 infoU64 rfl (by decide) _ np (nums pre) rfl (own_below ho.out (bel_al0 (bel_al0 hb5 _) _)) (some ⟨w5.heap.size + 1, 0, none⟩) 1 1 (nums [i]) rfl rfl (by have := flat_one (w5.alloc (.cells #[.int .u64 c.id, .slice A5 0 k5, .int .u64 c.gen, .int .u64 c.root, .string c.text] 69)) i; simpa using this) (nums_one _) (by unfold maxLen; omega) (by omega) (by simp; omega) ?_; intro v' w6 ho6 hg6 hat6; have hb6 : Below w.heap.size w w6 := grown_bel (bel_al0 (bel_al0 (bel_tr hB hb5) _) _) (Nat.le_refl _) hg6 (own_row_ge ho.out); have hz6 : w5.heap.size < w6.heap.size := (by have := hg6.size; simp at this; omega); have hbk := (hg6.block w5.heap.size (by simp; omega) (fun e => by have := (ho.out.lt _ e.symm).2; have := hb5.size; omega)).trans (hbB.al _); obtain ⟨x0, x1, x2, x3, x4, xf⟩ := Blk.five hbk; clear hbB))
        go_ret
        refine ⟨_, rfl, ?_, by (repeat (first | (with_reducible exact Below.refl _ _) | (with_reducible assumption) | (with_reducible refine bel_al0 ?_ _) | (with_reducible refine bel_set ?_ (by first | (simp; done) | (simp; omega)) _) | (with_reducible refine bel_dr ?_) | (with_reducible refine bel_drn ?_ _) | (with_reducible refine bel_tr ?_ (by assumption))))⟩
        rw [HE2.out, nums_app, List.length_append, ← hnp.out]
        exact own_below ho6 (by (repeat (first | (with_reducible exact Below.refl _ _) | (with_reducible assumption) | (with_reducible refine bel_al0 ?_ _) | (with_reducible refine bel_set ?_ (by first | (simp; done) | (simp; omega)) _) | (with_reducible refine bel_dr ?_) | (with_reducible refine bel_drn ?_ _) | (with_reducible refine bel_tr ?_ (by assumption)))))
      | cons p ps =>
        have hpl := hpf p (by rw [hps]; exact List.mem_cons_self)
        have he := hE.out
        rw [lineL_on hq hps hpl] at he hlen
        have HE2 : Hid (RES = (pre ++ [i]) ++ lineL L p) := by show _ = _; rw [he]; simp
        have hl2 : np + 1 ≤ 100000 := by simp at hlen; omega
        rw [hps] at HGi hp2
        obtain ⟨nq, hnq⟩ : ∃ nq, nq = (p :: ps).length := ⟨_, rfl⟩
        have hnq1 : 0 < nq := by rw [hnq]; simp
        rw [← hnq] at HGi hp2
        have HP : Hid ((p :: ps)[0]? = some p) := rfl
        obtain ⟨pp, hpp⟩ : ∃ pp, pp = p :: ps := ⟨_, rfl⟩
        rw [← hpp] at HGi HP
        clear hq he hgc hpf hps hlen hnq hpp
        have hpz : p.toNat < i.toNat := hpl
        go_wp2_with (first | (go_at_call 44; refine HGi.out.mono ?_; rintro e w5 ⟨A5, k5, rfl, ho5, hb5⟩; have hrw5 := own_row_ge ho5; have hf5 := own_flat ho5; obtain ⟨b5, off5, rfl, cp⟩ := hf5.at_ (nums_at HP.out); clear hf5 ho5; have hbl5 := cell_lt cp; have hbB := blk_new w5 #[.int .u64 c.id, .slice (some ⟨b5, off5, none⟩) nq k5, .int .u64 c.gen, .int .u64 c.root, .string c.text] 69; have hz5 : w.heap.size ≤ w5.heap.size := (by have := hb5.size; omega); have hr5 := hrw5 b5 rfl; clear hrw5) | (at_builtin; refine wpl_append rfl _ _ 50 rfl w.heap.size 24 _ 1 8 Try.underlying50 infoU64 rfl (by decide) _ np (nums pre) rfl (own_below ho.out (bel_al0 (bel_al0 hb5 _) _)) (some ⟨w5.heap.size + 1, 0, none⟩) 1 1 (nums [i]) rfl rfl (by have := flat_one (w5.alloc (.cells #[.int .u64 c.id, .slice (some ⟨b5, off5, none⟩) nq k5, .int .u64 c.gen, .int .u64 c.root, .string c.text] 69)) i; simpa using this) (nums_one _) (by unfold maxLen; omega) (by omega) (by simp; omega) ?_; intro v' w6 ho6 hg6 hat6; have hb6 : Below w.heap.size w w6 := grown_bel (bel_al0 (bel_al0 (bel_tr hB hb5) _) _) (Nat.le_refl _) hg6 (own_row_ge ho.out); have hz6 : w5.heap.size < w6.heap.size := (by have := hg6.size; simp at this; omega); have hne5 : ∀ r, wr.heap.size ≤ r → some r ≠ _ := (fun r hr e => by have := (ho.out.lt r e.symm).2; omega); have hbk := (hg6.block w5.heap.size (by simp; omega) (hne5 _ hb5.size)).trans (hbB.al _); obtain ⟨x0, x1, x2, x3, x4, xf⟩ := Blk.five hbk; clear hbB; replace cp := (World.cell?_of_block (w := w5) (a := ⟨b5, off5, none⟩) ((hg6.block b5 (by simp; omega) (hne5 _ hr5)).trans (((bel_al0 (bel_al0 (Below.refl w5.heap.size w5) _) _)).block b5 hbl5))).trans cp; have hbl6 : b5 < w6.heap.size := (by omega)))
        go_roundw
        case rel =>
          refine ⟨p, pre ++ [i], np + 1, rfl, HE2, by show np + 1 = _; rw [List.length_append, hnp.out]; rfl, ?_, hb6⟩
          show World.ownsRow _ _ _ _ _ _ _
          rw [nums_app]
          exact ho6
        case measure => simp [intOf]; omega

theorem qlen_calls (w : World) (A : Option Addr) (n k : Nat) : Calls Try.prog 99 #[.slice A n k] w fun e w' => e = .returned (.int .i64 n) ∧ Below w.heap.size w w' := by
  go_enter Try.func99, Try.ntmps99
  go_wp2
  go_ret
  exact ⟨rfl, by (repeat (first | (with_reducible exact Below.refl _ _) | (with_reducible assumption) | (with_reducible refine bel_al0 ?_ _) | (with_reducible refine bel_set ?_ (by first | (simp; done) | (simp; omega)) _) | (with_reducible refine bel_dr ?_) | (with_reducible refine bel_drn ?_ _) | (with_reducible refine bel_tr ?_ (by assumption))))⟩
theorem LOk.nil : LOk [] := ⟨(fun i c h => by cases h), (fun i c h => by cases h)⟩
theorem numsIn_nil : numsIn (mkeys ([] : List (Int × CommitD))) := fun k hk => by simp [mkeys] at hk
theorem reachL_nil (x : Int) : reachL [] [x] = [] := by simp [reachL, reachS, reachRun, reachLeft, mget, mkeys, sortI]
set_option maxHeartbeats 4000000 in
/-- no graph's order -/
theorem topo_nil (w : World) (x : Int) (z : Nat) (hz : w.cell? ⟨z, 0, none⟩ = some (.int .u64 x)) : Calls Try.prog 64 #[.pointer none, .slice (some ⟨z, 0, none⟩) 1 1] w fun e w' => e = .returned (.slice none 0 0) ∧ Below w.heap.size w w' := by
  have HR := Lib.hid (fun W (hW : Below w.heap.size w W) => N.Reach_calls W none [] (GP.nil W) LOk.nil (by simp) numsIn_nil (some ⟨z, 0, none⟩) 1 1 [x] rfl (fun _ => ⟨z, 0, rfl, fun j u hj => by
    cases j with
    | zero => simp [nums] at hj; subst hj; exact cell_bel hz hW
    | succ j => simp [nums] at hj⟩) (fun e => by cases e) (by omega))
  rw [reachL_nil] at HR
  unfold NumsOwn at HR
  simp only [List.length_nil] at HR
  clear hz
  go_enter Try.func64, Try.ntmps64
  have hbq : Below w.heap.size w ((w.alloc (.cells #[] 69)).alloc (.cells #[.slice (some ⟨w.heap.size, 0, none⟩) 0 0] 131)) := by (repeat (first | (with_reducible exact Below.refl _ _) | (with_reducible assumption) | (with_reducible refine bel_al0 ?_ _) | (with_reducible refine bel_set ?_ (by first | (simp; done) | (simp; omega)) _) | (with_reducible refine bel_dr ?_) | (with_reducible refine bel_drn ?_ _) | (with_reducible refine bel_tr ?_ (by assumption))))
  have hcq : ((w.alloc (.cells #[] 69)).alloc (.cells #[.slice (some ⟨w.heap.size, 0, none⟩) 0 0] 131)).cell? ⟨w.heap.size + 1, 0, none⟩ = some (.slice (some ⟨w.heap.size, 0, none⟩) 0 0) := by
    have := cell_at_new (w.alloc (.cells #[] 69)) #[.slice (some ⟨w.heap.size, 0, none⟩) 0 0] 131 0 (v := .slice (some ⟨w.heap.size, 0, none⟩) 0 0) rfl
    rw [World.size_alloc] at this
    exact this
  go_wp2_with (go_at_call 59; refine (HR.out _ hbq).mono ?_; rintro e w1 ⟨v1, rfl, ho1, hb1⟩; obtain ⟨A1, k1, rfl, _⟩ := own_form ho1; clear ho1; replace hcq := cell_bel hcq hb1; have hz1 : w.heap.size + 1 < w1.heap.size := (by have := hb1.size; simp at this; omega))
  have hbw : Below w.heap.size w w1 := hbq.trans (hb1.mono hbq.size)
  clear hbq hb1
  go_loopw [19] (fun v wr => v = .int .i64 0 ∧ wr = w1) (fun v _ => 0)
  case atStart => exact ⟨rfl, rfl⟩
  case round =>
    obtain ⟨rfl, rfl⟩ := hrel
    go_wp2_with fail
    go_loopw [35, 10] (fun v v10 w' => v10 = .slice none 0 0 ∧ w' = wr) (fun v _ _ => 0)
    case atStart => exact ⟨rfl, rfl⟩
    case round =>
      obtain ⟨rfl, rfl⟩ := hrel
      go_wp2_with (go_at_call 99; refine (qlen_calls _ _ _ _).mono ?_; rintro e w2 ⟨rfl, hb2⟩)
      go_ret
      exact ⟨rfl, bel_tr hbw (by (repeat (first | (with_reducible exact Below.refl _ _) | (with_reducible assumption) | (with_reducible refine bel_al0 ?_ _) | (with_reducible refine bel_set ?_ (by first | (simp; done) | (simp; omega)) _) | (with_reducible refine bel_dr ?_) | (with_reducible refine bel_drn ?_ _) | (with_reducible refine bel_tr ?_ (by assumption)))))⟩
end Go.Proofs.Ytehneliphhgegaa
end
section
set_option linter.unusedVariables false
set_option linter.unusedSimpArgs false
set_option maxRecDepth 100000
namespace Go.Proofs.Ytehneliphhgegaa
open Go.RowKit Go.Apo

def Nil0 (w : World) (e : Ending) (w' : World) : Prop := ∃ A k, e = .returned (.slice A 0 k) ∧ Below w.heap.size w w'
theorem nil0_own {w : World} {l : List Int} (hl : l = []) {e : Ending} {w' : World} (h : NumsOwn w l e w') : Nil0 w e w' := by
  subst hl
  obtain ⟨v, rfl, ho, hb⟩ := h
  obtain ⟨A, k, rfl, _⟩ := own_form ho
  exact ⟨A, k, rfl, hb⟩
theorem Closed.nil : Closed [] := fun i c h => by cases h
theorem line_nil (w : World) (x : Int) : Calls Try.prog 69 #[.pointer none, .int .u64 x] w (Nil0 w) :=
  (line_calls w none [] (GP.nil w) Falls.nil x (by rw [lineL_none rfl]; simp)).mono fun e w' h => nil0_own (lineL_none rfl) h
theorem heads_nil (w : World) : Calls Try.prog 53 #[.pointer none] w (Nil0 w) :=
  (N.heads_calls w none [] (GP.nil w) LOk.nil (by simp) numsIn_nil).mono fun e w' h => nil0_own (by simp [mkeys, sortI]) h
theorem roots_nil (w : World) : Calls Try.prog 54 #[.pointer none] w (Nil0 w) :=
  (N.roots_calls w none [] (GP.nil w) LOk.nil (by simp) numsIn_nil).mono fun e w' h => nil0_own (by simp [mkeys, sortI]) h
theorem kids_nil (w : World) (x : Int) : Calls Try.prog 52 #[.pointer none, .int .u64 x] w (Nil0 w) :=
  (N.kids_calls w none [] (GP.nil w) LOk.nil (by simp) numsIn_nil x).mono fun e w' h => nil0_own (by simp [kidsL, kidsIn, mkeys, sortI]) h
theorem path_nil (w : World) (x y : Int) : Calls Try.prog 30 #[.pointer none, .int .u64 x, .int .u64 y] w (Nil0 w) :=
  (N.path_calls w none [] (GP.nil w) Closed.nil (by simp) x y).mono fun e w' h => by
    obtain ⟨A, k, rfl, _, hb⟩ := h
    exact ⟨A, k, rfl, hb⟩
theorem between_nil (w : World) (x y : Int) : Calls Try.prog 71 #[.pointer none, .int .u64 x, .int .u64 y] w (Nil0 w) :=
  (between_calls w none [] (GP.nil w) LOk.nil (by simp) numsIn_nil x y).mono fun e w' h => nil0_own (by unfold betweenL; rw [reachL_nil, reachL_nil]; rfl) h
end Go.Proofs.Ytehneliphhgegaa
end
