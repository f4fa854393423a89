/- The merge bases of two commits: walked once. -/
import Derived.Test.YtehneliphhgegaaIs
set_option linter.unusedVariables false
set_option linter.unusedSimpArgs false
set_option maxRecDepth 100000
namespace Go.Proofs.Ytehneliphhgegaa
open Go.RowKit Go.Apo

/-- slices.Sort of a row of one's own -/
theorem sort_own (w : World) (base : Nat) (v : Value) (n : Nat) (l : List Int) (h : w.ownsRow base 24 1 v n (nums l)) (hn : n ≤ 1000000) :
    Calls Try.prog 91 #[v] w fun e w' => e = .returned (.tuple #[]) ∧ w'.ownsRow base 24 1 v n (nums (sortI l)) ∧ w.grownBy w' v.ownBlock := by
  have hl : l.length = n := by have := h.1; simpa [nums] using this
  rcases h.2 with ⟨rfl, rfl⟩ | ⟨g, cap, cur, rfl, hb, hg, h1, h2, h3, h4⟩
  · obtain rfl : l = [] := List.eq_nil_of_length_eq_zero hl
    refine (U.Sort_u64_nil none 0 w).mono ?_
    rintro e w' ⟨rfl, rfl⟩
    exact ⟨rfl, by simpa [sortI, nums] using h, World.grownBy.refl _ _⟩
  · subst hl
    have hH : Go.Sort.Holds encU w g 0 l.toArray := holds_of_block_u hg (by simpa [nums] using h4)
    refine (U.slices_Sort_u64 g 0 cap l w hH (Array.getElem?_eq_some_iff.1 hg).1 (by omega)).mono ?_
    rintro e w' ⟨rfl, nn, os, rfl⟩
    exact ⟨rfl, ownsRow_sorted_u (by simp) hb hg h1 h2 h3, grownBy_sorted_u _⟩

/-- the common ancestors, and the best of them -/
def commonL (L : List (Int × CommitD)) (a b : Int) : List Int := sortI ((mkeys (reachS L [a])).filter fun x => (mget (reachS L [b]) x).isSome)
def basesL (L : List (Int × CommitD)) (a b : Int) : List Int := (commonL L a b).filter fun x => !belowB L x (commonL L a b)

theorem grown_bel {B : Nat} {w W W' : World} {row : Option Nat} (h : Below B w W) (hB : B ≤ w.heap.size) (hg : W.grownBy W' row) (hr : ∀ k, row = some k → B ≤ k) : Below B w W' :=
  h.grown hg (Nat.le_trans hB h.size) hr
theorem own_ne_row {w : World} {base e size n r : Nat} {v : Value} {xs : List Value} (h : w.ownsRow base e size v n xs) (hr : r < base) : v.ownBlock = none ∨ v.ownBlock ≠ some r := by
  cases hq : v.ownBlock with
  | none => exact Or.inl rfl
  | some k => exact Or.inr (fun e => by have := (h.lt k hq).1; cases e; omega)
theorem own_ne_row' {w : World} {base e size n r : Nat} {v : Value} {xs : List Value} (h : w.ownsRow base e size v n xs) (hr : r < base) : some r ≠ v.ownBlock := by
  intro e
  rcases own_ne_row h hr with h1 | h1
  · rw [h1] at e; cases e
  · exact h1 e.symm
theorem own_row_ge {w : World} {base e size n : Nat} {v : Value} {xs : List Value} (h : w.ownsRow base e size v n xs) : ∀ k, v.ownBlock = some k → base ≤ k := fun k hk => (h.lt k hk).1

/-- what holds between two rounds over the one's ancestors -/
def BInv (w2 : World) (mx my r nn : Nat) (D0 : DataW Unit) (Y : List (Int × Unit)) (v9 : Value) (wr : World) : Prop :=
  ∃ (left : Lit → Bool) (cnt : Nat) (ss : List Int), Hid (wr.ranges Try.prog 24 anyR mx r nn D0 left cnt) ∧ Hid (CollectedU D0 left ss) ∧ Hid (ss.length + cnt ≤ Maps.size D0) ∧ Hid (wr.ownsRow (r + 1) 24 1 v9 (ss.filter fun x => (mget Y x).isSome).length (nums (ss.filter fun x => (mget Y x).isSome))) ∧ Hid (MapIs (Value.int .u64) boolIs wr my Y) ∧ Below w2.heap.size w2 wr ∧ r + 1 ≤ wr.heap.size
set_option maxHeartbeats 4000000 in
theorem bases_calls (w : World) (p mg : Nat) (L : List (Int × CommitD)) (h : GraphAt w p mg L) (hO : LOk L) (hL : L.length ≤ 100000) (hw : numsIn (mkeys L)) (a b : Int) :
    Calls Try.prog 57 #[.pointer (some ⟨p, 0, none⟩), .int .u64 a, .int .u64 b] w (NumsOwn w (basesL L a b)) := by
  have HR1 := Lib.hid (reach_calls (w.alloc (.cells #[.int .u64 a] 24)) p mg L (h.below (by (repeat (first | (with_reducible exact Below.refl _ _) | (with_reducible assumption) | (with_reducible refine bel_al0 ?_ _) | (with_reducible refine bel_set ?_ (by first | (simp; done) | (simp; omega)) _) | (with_reducible refine bel_dr ?_) | (with_reducible refine bel_drn ?_ _) | (with_reducible refine bel_tr ?_ (by assumption)))))) hO hL (some ⟨w.heap.size, 0, none⟩) 1 1 [a] rfl (flat_one w a) (fun e => by cases e) (by omega))
  have HR2 := Lib.hid (fun W (hW : Below w.heap.size w W) => reach_calls (W.alloc (.cells #[.int .u64 b] 24)) p mg L (h.below (bel_al0 hW _)) hO hL (some ⟨W.heap.size, 0, none⟩) 1 1 [b] rfl (flat_one W b) (fun e => by cases e) (by omega))
  have hle1 := (reachS_ok hO [a]).le
  have hle2 := (reachS_ok hO [b]).le
  have HW1 := Lib.hid (reachS_nums hO hw [a])
  obtain ⟨X, hX⟩ : ∃ X, X = reachS L [a] := ⟨_, rfl⟩
  obtain ⟨Y, hY⟩ : ∃ Y, Y = reachS L [b] := ⟨_, rfl⟩
  obtain ⟨C, hC⟩ : ∃ C, C = commonL L a b := ⟨_, rfl⟩
  obtain ⟨RES, hRES⟩ : ∃ RES, RES = basesL L a b := ⟨_, rfl⟩
  have hRES' : RES = C.filter fun x => !belowB L x C := by rw [hRES, hC]; rfl
  have hC' : C = sortI ((mkeys X).filter fun x => (mget Y x).isSome) := by rw [hC, hX, hY]; rfl
  rw [← hRES]
  rw [← hX] at HR1 hle1 HW1
  rw [← hY] at HR2 hle2
  clear hRES hC hX hY hw
  have hcl : C.length ≤ 100000 := by
    rw [hC', sortI_len]
    have := List.length_filter_le (fun x => (mget Y x).isSome) (mkeys X)
    simp [mkeys] at this ⊢
    omega
  have HRES := Lib.hid hRES'; clear hRES'
  have HCC := Lib.hid hC'; clear hC'
  have HBL := Lib.hid (fun W (hW : Below w.heap.size w W) id A n k l hn hf hn2 => below_calls W p mg L (h.below hW) hO hL id A n k l hn hf hn2)
  clear h hO
  go_enter Try.func57, Try.ntmps57
  have hba : Below w.heap.size w (w.alloc (.cells #[.int .u64 a] 24)) := by (repeat (first | (with_reducible exact Below.refl _ _) | (with_reducible assumption) | (with_reducible refine bel_al0 ?_ _) | (with_reducible refine bel_set ?_ (by first | (simp; done) | (simp; omega)) _) | (with_reducible refine bel_dr ?_) | (with_reducible refine bel_drn ?_ _) | (with_reducible refine bel_tr ?_ (by assumption))))
  go_wp2_with fail
  refine HR1.out.mono ?_
  rintro e w1 ⟨mx, rfl, hM1, hb1, hm1⟩
  have HM1 := Lib.hid hM1; clear hM1
  have hB1 : Below w.heap.size w w1 := bel_tr hba hb1
  clear hba hb1
  go_wp2_with fail
  refine (HR2.out w1 hB1).mono ?_
  rintro e w2 ⟨my, rfl, hM2, hb2, hm2⟩
  have hb12 : Below w1.heap.size w1 w2 := bel_tr (bel_al0 (Below.refl _ w1) _) hb2
  have HMX := Lib.hid (HM1.out.below bools_onCells hb12)
  have HMY := Lib.hid hM2; clear hM2
  have hB2 : Below w.heap.size w w2 := bel_tr hB1 hb12
  clear hb2 hb12 HM1 hB1
  obtain ⟨D0, q1, q2, q3⟩ := mapIs_owns (P := Try.prog) Try.underlying24 HMX.out (by unfold maxLen; omega) HW1.out
  have hmxl := HMX.out.lt
  have hmyl := HMY.out.lt
  obtain ⟨nn, hnn⟩ : ∃ nn, nn = X.length := ⟨_, rfl⟩
  rw [← hnn] at q1 q3
  have HNN := Lib.hid hnn; clear hnn
  have HQ2 := Lib.hid q2; clear q2
  have HQ3 := Lib.hid q3; clear q3
  have HOWN := Lib.hid q1; clear q1
  go_wp2_with (at_range; refine wpList_range_own _ rfl _ 117 rfl 24 4 (Maps.int_keyed Try.underlying24) Try.underlying117 _ mx nn _ rfl HOWN.out ?_; intro w3 hrg3 hg3 hs3)
  go_frame
  obtain ⟨r, hr⟩ : ∃ r, r = w2.heap.size := ⟨_, rfl⟩
  rw [← hr] at hrg3 hs3 ⊢
  have hb23 : Below w2.heap.size w2 w3 := (Below.refl _ w2).grown hg3 (Nat.le_refl _) (fun k e => by cases e)
  have HMY3 := Lib.hid (HMY.out.below bools_onCells hb23)
  have HRR := Lib.hid hr.symm
  have hmyr : my < r := by omega
  have hmxr : mx < r := by omega
  have HRG := Lib.hid hrg3; clear hrg3 hg3 hr
  have hs3' : r + 1 ≤ w3.heap.size := by omega
  have HS3 := Lib.hid hs3; clear hs3
  go_loopw [9, 10] (fun v9 _ wr => BInv w2 mx my r nn D0 Y v9 wr) (fun _ _ wr => wr.rangeLeft mx r)
  case atStart => exact ⟨_, _, [], HRG, CollectedU.start D0, (by show _ ≤ _; simp), World.ownsRow_nil _ _ _ _, HMY3, hb23, hs3'⟩
  case round =>
    obtain ⟨left, cnt, ss, hrg, hCo, hcs, ho, hMY, hB, hsz⟩ := hrel
    obtain ⟨cc, hcc⟩ : ∃ cc, cc = ss.filter fun x => (mget Y x).isSome := ⟨_, rfl⟩
    rw [← hcc] at ho
    have hccl : cc.length ≤ 100000 := by
      have h1 := List.length_filter_le (fun x => (mget Y x).isSome) ss
      rw [← hcc] at h1
      have h2 := hcs.out
      have h3 := HQ3.out
      have h4 := HNN.out
      omega
    obtain ⟨ncc, hncc⟩ : ∃ ncc, ncc = cc.length := ⟨_, rfl⟩
    rw [← hncc] at ho hccl
    have HNC := Lib.hid hncc; clear hncc
    have HCO := Lib.hid hcc; clear hcc
    go_wp2_with (at_next; refine wpList_next_ranges _ rfl _ rfl 24 (Maps.int_keyed Try.underlying24) anyR encU id (fun key kl hk => by obtain ⟨x, hx, _⟩ := keyOf_u64 Try.underlying24 hk; exact ⟨x, hx⟩) (fun v _ _ => ⟨v, rfl⟩) mx r nn _ _ _ rfl hrg.out ?_ ?_)
    · intro hc0 hl0
      have hperm := (hCo.out.perm HOWN.out (Maps.int_keyed Try.underlying24) Try.underlying24 hl0).trans HQ2.out
      have hcs2 : sortI cc = C := by
        rw [HCO.out, HCC.out]
        exact sortI_of_perm (hperm.filter _)
      have HCS := Lib.hid hcs2; clear hcs2 hperm hc0 hl0
      have hnc : C.length = ncc := by rw [HNC.out, ← HCS.out, sortI_len]
      have HNC2 := Lib.hid hnc; clear hnc
      obtain ⟨A9, c9, rfl, hcap9⟩ := own_form ho.out
      have HSO := Lib.hid (sort_own wr (r + 1) _ ncc cc ho.out (by omega))
      rw [HCS.out] at HSO
      have hrb := own_row_ge ho.out
      clear hCo hrg hcs
      go_wp2_with (go_at_call 91; refine HSO.out.mono ?_; rintro e w4 ⟨rfl, ho4, hg4⟩)
      have hb4 : Below w2.heap.size w2 w4 := grown_bel hB (Nat.le_refl _) hg4 (fun k hk => by have := hrb k hk; have := HRR.out; omega)
      have hbw4 : Below w.heap.size w w4 := bel_tr hB2 hb4
      have HF4 := Lib.hid (own_flat ho4)
      have hz4 : r + 1 ≤ w4.heap.size := Nat.le_trans hsz hg4.size
      clear ho4 hg4 hrb hcap9 hB ho hMY hb4
      go_loopw [39, 11, 13] (fun v v11 _ wq => ∃ j : Nat, j ≤ ncc ∧ v = .int .i64 j ∧ Hid (wq.ownsRow w4.heap.size 24 1 v11 ((C.take j).filter fun x => !belowB L x C).length (nums ((C.take j).filter fun x => !belowB L x C))) ∧ Below w4.heap.size w4 wq) (fun v _ _ _ => ncc - (intOf v).toNat)
      case atStart => exact ⟨0, Nat.zero_le _, rfl, World.ownsRow_nil _ _ _ _, by (repeat (first | (with_reducible exact Below.refl _ _) | (with_reducible assumption) | (with_reducible refine bel_al0 ?_ _) | (with_reducible refine bel_set ?_ (by first | (simp; done) | (simp; omega)) _) | (with_reducible refine bel_dr ?_) | (with_reducible refine bel_drn ?_ _) | (with_reducible refine bel_tr ?_ (by assumption))))⟩
      case round =>
        obtain ⟨j, hj, rfl, hoj, hBj⟩ := hrel
        by_cases hlt : j < ncc
        · obtain ⟨x, hx⟩ : ∃ x, C[j]? = some x := ⟨_, List.getElem?_eq_getElem (by rw [HNC2.out]; exact hlt)⟩
          have HFj := Lib.hid (HF4.out.below hBj)
          obtain ⟨bb, off, rfl, cj⟩ := HFj.out.at_ (nums_at hx)
          have htk : C.take (j + 1) = C.take j ++ [x] := by rw [List.take_add_one, hx]; rfl
          have HB2 := Lib.hid (HBL.out wr (bel_tr hbw4 hBj) x _ ncc c9 C HNC2.out HFj.out (by omega))
          obtain ⟨y, hy⟩ : ∃ y, y = belowB L x C := ⟨_, rfl⟩
          rw [← hy] at HB2
          obtain ⟨oo, hoo⟩ : ∃ oo, oo = (C.take j).filter fun x => !belowB L x C := ⟨_, rfl⟩
          rw [← hoo] at hoj
          have hol : oo.length ≤ 100000 := by
            rw [hoo]
            have h1 := List.length_filter_le (fun x => !belowB L x C) (C.take j)
            rw [List.length_take] at h1
            omega
          have hnew : (C.take (j + 1)).filter (fun x => !belowB L x C) = if y then oo else oo ++ [x] := by
            rw [htk, List.filter_append, ← hoo, hy]
            cases h : belowB L x C <;> simp [h]
          have HNEW := Lib.hid hnew; clear hnew
          obtain ⟨no, hno⟩ : ∃ no, no = oo.length := ⟨_, rfl⟩
          rw [← hno] at hoj hol
          have HNO := Lib.hid hno; clear hno
          have hbl := cell_lt cj
          clear hx hy htk hoo
          have hq4 := hBj.size
          cases y with
          | true =>
            go_wp2_with (go_at_call 92; refine HB2.out.mono ?_; rintro e w5 ⟨rfl, hb5⟩)
            go_roundw
            case rel =>
              refine ⟨j + 1, by omega, by go_num, ?_, by (repeat (first | (with_reducible exact Below.refl _ _) | (with_reducible assumption) | (with_reducible refine bel_al0 ?_ _) | (with_reducible refine bel_set ?_ (by first | (simp; done) | (simp; omega)) _) | (with_reducible refine bel_dr ?_) | (with_reducible refine bel_drn ?_ _) | (with_reducible refine bel_tr ?_ (by assumption))))⟩
              show World.ownsRow _ _ _ _ _ _ _
              rw [HNEW.out]
              simp only [if_true]
              rw [← HNO.out]
              exact own_below hoj.out hb5
            case measure => simp [intOf]; omega
          | false =>
            go_wp2_with (first | (go_at_call 92; refine HB2.out.mono ?_; rintro e w5 ⟨rfl, hb5⟩; have ho5 := own_below hoj.out hb5; have hz5 := hb5.size; obtain ⟨i0, hi, hz0, hz1, hz2⟩ := info_parts infoU64) | (at_builtin; refine wpl_append rfl _ _ 50 rfl w4.heap.size 24 _ 1 8 Try.underlying50 infoU64 rfl (by decide) _ no (nums oo) rfl (own_below ho5 (bel_al0 (Below.refl _ _) _)) (some ⟨w5.heap.size, 0, none⟩) 1 1 (nums [x]) rfl rfl (flat_one w5 x) (nums_one _) (by unfold maxLen; omega) (by omega) (by simp; omega) ?_; intro v' w6 ho6 hg6 hat6))
            have hb6 : Below w4.heap.size w4 w6 := grown_bel (bel_al0 (bel_tr hBj hb5) _) (Nat.le_refl _) hg6 (own_row_ge ho5)
            go_roundw
            case rel =>
              refine ⟨j + 1, by omega, by go_num, ?_, hb6⟩
              show World.ownsRow _ _ _ _ _ _ _
              rw [HNEW.out]
              simp only [Bool.false_eq_true, if_false]
              rw [nums_app, List.length_append, ← HNO.out]
              exact ho6
            case measure => simp [intOf]; omega
        · have hjn : j = ncc := by omega
          have htk : C.take j = C := by rw [List.take_of_length_le]; rw [HNC2.out]; omega
          rw [htk, ← HRES.out] at hoj
          go_wp2
          go_ret
          exact ⟨_, rfl, own_mono hoj.out (by have := hbw4.size; omega), bel_tr hbw4 hBj⟩
    · intro x c kl yd yp w5 cnt2 hkey hlk hv hat hrg5 hlt hg5 hs5 hen
      obtain ⟨x', ex, rfl, _⟩ := keyOf_u64 Try.underlying24 hkey
      obtain rfl : x = x' := encU_inj ex
      have hCo2 := Lib.hid (hCo.out.step hlk hat)
      have hcs2 : Hid ((ss ++ [x]).length + cnt2 ≤ Maps.size D0) := by
        show _ ≤ _
        have := hcs.out
        simp
        omega
      have hb5 : Below w2.heap.size w2 w5 := grown_bel hB (Nat.le_refl _) hg5 (fun k hk => by cases hk; have := HRR.out; omega)
      have ho5 := Lib.hid (ho.out.kept hg5 (own_ne_row ho.out (by omega)))
      have hMY5 : Hid (MapIs (Value.int .u64) boolIs w5 my Y) := MapIs.but_bools hMY.out (by omega) (But.of_grown hg5)
      have hsz5 : r + 1 ≤ w5.heap.size := by omega
      have HOL := Lib.hid hlt; clear hlt
      have HLE := Lib.hid hrg.out.left_eq
      clear hs5 hlk hat hv hkey hCo hcs hMY ho hB hg5 ex
      have HRG5 := Lib.hid hrg5; clear hrg5 hrg
      cases hyq : mget Y x with
      | none =>
        have hnew : (ss ++ [x]).filter (fun x => (mget Y x).isSome) = cc := by
          rw [List.filter_append, ← HCO.out]; simp [hyq]
        have HNEW := Lib.hid hnew; clear hnew
        have HYQ := Lib.hid hyq; clear hyq
        go_wp2_with (at_lookup; refine wpl_look_none rfl false _ _ 117 4 rfl keyU Try.underlying117 _ (fun W => zeroBool W) rfl x rfl hMY5.out HYQ.out ?_)
        go_roundw
        case rel =>
          refine ⟨_, cnt2, ss ++ [x], HRG5, hCo2, hcs2, ?_, hMY5, hb5, hsz5⟩
          show World.ownsRow _ _ _ _ _ _ _
          rw [HNEW.out, ← HNC.out]
          exact ho5.out
        case measure => rw [HRG5.out.left_eq, HLE.out]; exact HOL.out
      | some u =>
        have hnew : (ss ++ [x]).filter (fun x => (mget Y x).isSome) = cc ++ [x] := by
          rw [List.filter_append, ← HCO.out]; simp [hyq]
        have HNEW := Lib.hid hnew; clear hnew
        have HYQ := Lib.hid hyq; clear hyq
        go_wp2_with (first | (at_lookup; refine wpl_look_some rfl false _ _ 117 4 rfl keyU Try.underlying117 rfl x rfl hMY5.out HYQ.out ?_; intro u hu; unfold boolIs at hu; subst hu) | (at_builtin; refine wpl_append rfl _ _ 50 rfl (r + 1) 24 _ 1 8 Try.underlying50 infoU64 rfl (by decide) _ ncc (nums cc) rfl (own_below ho5.out (bel_al0 (Below.refl _ _) _)) (some ⟨w5.heap.size, 0, none⟩) 1 1 (nums [x]) rfl rfl (flat_one w5 x) (nums_one _) (by unfold maxLen; omega) (by omega) (by simp; omega) ?_; intro v' w6 ho6 hg6 hat6))
        have hal : Below w5.heap.size w5 (w5.alloc (.cells #[.int .u64 x] 24)) := by (repeat (first | (with_reducible exact Below.refl _ _) | (with_reducible assumption) | (with_reducible refine bel_al0 ?_ _) | (with_reducible refine bel_set ?_ (by first | (simp; done) | (simp; omega)) _) | (with_reducible refine bel_dr ?_) | (with_reducible refine bel_drn ?_ _) | (with_reducible refine bel_tr ?_ (by assumption))))
        have hb6 : Below w2.heap.size w2 w6 := grown_bel (bel_tr hb5 hal) (Nat.le_refl _) hg6 (fun k hk => by have := own_row_ge ho5.out k hk; have := HRR.out; omega)
        have hrg6 : Hid (w6.ranges Try.prog 24 anyR mx r nn D0 (fun z => left z && !z.sameKey (.int .u64 x)) cnt2) :=
          (HRG5.out.alloc _).kept hg6 (own_ne_row' ho5.out (by omega)) (own_ne_row' ho5.out (by omega))
        have hMY6 : Hid (MapIs (Value.int .u64) boolIs w6 my Y) := HMY.out.below bools_onCells hb6
        have hsz6 : r + 1 ≤ w6.heap.size := by have := hg6.size; simp at this; omega
        go_roundw
        case rel =>
          refine ⟨_, cnt2, ss ++ [x], hrg6, hCo2, hcs2, ?_, hMY6, hb6, hsz6⟩
          show World.ownsRow _ _ _ _ _ _ _
          rw [HNEW.out, nums_app, List.length_append, ← HNC.out]
          exact ho6
        case measure => rw [hrg6.out.left_eq, HLE.out]; exact HOL.out
end Go.Proofs.Ytehneliphhgegaa
