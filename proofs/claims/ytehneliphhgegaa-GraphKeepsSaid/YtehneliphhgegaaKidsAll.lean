/- slices.IndexFunc, slices.DeleteFunc over a row of one's own, whatever the closure lays: walked once. slices.Index, slices.Contains. · slices.Collect of a graph's numbers; slices.Index, slices.Contains: walked once. · The children of a commit: walked once. · Commits without children, and those without parents: walked once. · Commits without parents: walked once. -/
import Derived.Test.YtehneliphhgegaaIsAll
import Derived.Lib.SlKept
import Derived.Lib.SliceRun
import Derived.Shelf.Abstract
section
set_option linter.unusedVariables false
set_option linter.unusedSimpArgs false
set_option maxRecDepth 100000
namespace Go.Proofs.Ytehneliphhgegaa
open Go.RowKit Go.Apo Go.Shelf

/-- a closure over the world W0: what it answers of a number, and that it leaves old blocks alone -/
def Pred (W0 : World) (B : Nat) (g : Nat) (lb : Array Value) (p : Int → Bool) : Prop :=
  ∀ W, Below B W0 W → ∀ x, Calls Try.prog g (#[.int .u64 x] ++ lb) W fun e W' => e = .returned (.bool (p x)) ∧ Below W.heap.size W W'

theorem firstB_none {f : Int → Bool} {l : List Int} (h : ∀ x ∈ l, f x = false) : firstB f l = -1 := by
  unfold firstB
  have : l.findIdx? f = none := by rw [List.findIdx?_eq_none_iff]; exact h
  rw [this]
theorem firstB_some {f : Int → Bool} {l : List Int} {j : Nat} {x : Int} (hx : l[j]? = some x) (hf : f x = true) (h : ∀ q x, q < j → l[q]? = some x → f x = false) : firstB f l = j := by
  unfold firstB
  have : l.findIdx? f = some j := by
    rw [List.findIdx?_eq_some_iff_getElem]
    obtain ⟨hk, hc⟩ := List.getElem?_eq_some_iff.1 hx
    refine ⟨hk, by rw [hc]; exact hf, fun q hq => ?_⟩
    have := h q l[q] hq (List.getElem?_eq_getElem _)
    rw [this]; decide
  rw [this]

theorem indexF_calls (W0 w : World) (B : Nat) (hB0 : Below B W0 w) (hBs : B ≤ w.heap.size) (g : Nat) (lb : Array Value) (eg : ∀ args w, (callFunc g args).run Try.prog w = .ok (.enter g args) w) (p : Int → Bool) (hp : Pred W0 B g lb p)
    (A : Option Addr) (n k : Nat) (l : List Int) (hn : l.length = n) (hf : Flat w A (nums l)) (hn2 : n ≤ 100000) :
    Calls Try.prog 113 #[.slice A n k, .func (.func g) #[] lb] w fun e w' => e = .returned (.int .i64 (firstB p l)) ∧ Below w.heap.size w w' := by
  obtain ⟨r, hr⟩ : ∃ r, r = firstB p l := ⟨_, rfl⟩
  rw [← hr]
  have HR := Lib.hid hr; clear hr
  have HN := Lib.hid hn; clear hn
  have HF := Lib.hid hf; clear hf
  have HC := Lib.hid hp; clear hp
  have HB0 := Lib.hid hB0; clear hB0
  go_enter Try.func113, Try.ntmps113
  go_wp2
  go_loopw [8, 5] (fun v _ wr => ∃ j : Nat, j ≤ n ∧ v = .int .i64 j ∧ Hid (∀ q x, q < j → l[q]? = some x → p x = false) ∧ Below w.heap.size w wr) (fun v _ _ => n - (intOf v).toNat)
  case atStart => exact ⟨0, Nat.zero_le _, rfl, fun q _ hq => absurd hq (Nat.not_lt_zero _), by (repeat (first | (with_reducible exact Below.refl _ _) | (with_reducible assumption) | (with_reducible refine bel_al0 ?_ _) | (with_reducible refine bel_set ?_ (by first | (simp; done) | (simp; omega)) _) | (with_reducible refine bel_dr ?_) | (with_reducible refine bel_drn ?_ _) | (with_reducible refine bel_tr ?_ (by assumption))))⟩
  case round =>
    obtain ⟨j, hj, rfl, hok, hB⟩ := hrel
    by_cases hlt : j < n
    · obtain ⟨x, hx⟩ : ∃ x, l[j]? = some x := ⟨_, List.getElem?_eq_getElem (by rw [HN.out]; exact hlt)⟩
      obtain ⟨b, off, rfl, cj⟩ := HF.out.at_ (nums_at hx)
      replace cj := cell_bel cj hB
      have HC2 := Lib.hid (HC.out wr (HB0.out.trans (hB.mono hBs)) x)
      obtain ⟨y, hy⟩ : ∃ y, y = p x := ⟨_, rfl⟩
      rw [← hy] at HC2
      have HX := Lib.hid hx; clear hx
      have HY := Lib.hid hy; clear hy
      cases y with
      | true =>
        obtain rfl : r = j := by rw [HR.out]; exact firstB_some HX.out HY.out.symm hok.out
        go_wp2_with (go_at_fn g; refine HC2.out.mono ?_; rintro e w1 ⟨rfl, hb1⟩)
        go_ret
        exact ⟨rfl, by (repeat (first | (with_reducible exact Below.refl _ _) | (with_reducible assumption) | (with_reducible refine bel_al0 ?_ _) | (with_reducible refine bel_set ?_ (by first | (simp; done) | (simp; omega)) _) | (with_reducible refine bel_dr ?_) | (with_reducible refine bel_drn ?_ _) | (with_reducible refine bel_tr ?_ (by assumption))))⟩
      | false =>
        go_wp2_with (go_at_fn g; refine HC2.out.mono ?_; rintro e w1 ⟨rfl, hb1⟩)
        go_roundw
        case rel =>
          refine ⟨j + 1, by omega, by go_num, fun q x' hq hq' => ?_, by (repeat (first | (with_reducible exact Below.refl _ _) | (with_reducible assumption) | (with_reducible refine bel_al0 ?_ _) | (with_reducible refine bel_set ?_ (by first | (simp; done) | (simp; omega)) _) | (with_reducible refine bel_dr ?_) | (with_reducible refine bel_drn ?_ _) | (with_reducible refine bel_tr ?_ (by assumption))))⟩
          rcases Nat.lt_or_ge q j with h' | h'
          · exact hok.out q x' h' hq'
          · obtain rfl : q = j := by omega
            rw [HX.out] at hq'; cases hq'; exact HY.out.symm
        case measure => simp [intOf]; omega
    · have hr : r = -1 := by
        rw [HR.out]
        refine firstB_none fun x hx => ?_
        obtain ⟨q, hq⟩ := List.mem_iff_getElem?.1 hx
        exact hok.out q x (by have := (List.getElem?_eq_some_iff.1 hq).1; have := HN.out; omega) hq
      subst hr
      go_wp2
      go_ret
      exact ⟨rfl, hB⟩

/-! DeleteFunc -/
def RowD (w : World) (b cap : Nat) (dk : Array Int) : Prop := ∃ cur, Blk w b cur 24 ∧ cur.size = cap ∧ ∀ j, j < dk.size → cur[j]? = some (.int .u64 dk[j]!)
theorem RowD.cell {w : World} {b cap : Nat} {dk : Array Int} (h : RowD w b cap dk) {j : Nat} (hj : j < dk.size) : w.cell? ⟨b, j, none⟩ = some (.int .u64 dk[j]!) := by
  obtain ⟨cur, h1, h2, h3⟩ := h
  exact h1.cell (h3 j hj)
theorem RowD.frozen {w : World} {b cap : Nat} {dk : Array Int} (h : RowD w b cap dk) (j : Nat) : w.frozen? ⟨b, j, none⟩ = false := by
  obtain ⟨cur, h1, h2, h3⟩ := h
  exact h1.frozen j
theorem RowD.below {w w' : World} {b cap : Nat} {dk : Array Int} (h : RowD w b cap dk) (hb : Below w.heap.size w w') : RowD w' b cap dk := by
  obtain ⟨cur, h1, h2, h3⟩ := h
  exact ⟨cur, h1.below hb, h2, h3⟩
theorem RowD.lt {w : World} {b cap : Nat} {dk : Array Int} (h : RowD w b cap dk) : b < w.heap.size := by
  obtain ⟨cur, h1, h2, h3⟩ := h
  exact h1.lt
theorem RowD.set {w : World} {b cap : Nat} {dk : Array Int} (h : RowD w b cap dk) (i : Nat) (x : Int) (hc : dk.size ≤ cap) : RowD (w.setCell ⟨b, i, none⟩ (.int .u64 x)) b cap (dk.setIfInBounds i x) := by
  obtain ⟨cur, h1, h2, h3⟩ := h
  refine ⟨_, h1.set i _, by simpa using h2, fun j hj => ?_⟩
  rw [Array.size_setIfInBounds] at hj
  by_cases e : i = j
  · subst e
    rw [Array.getElem?_setIfInBounds_self_of_lt (by omega), Go.Sort.getElem!_set_same dk i _ hj]
  · rw [Array.getElem?_setIfInBounds_ne e, Go.Sort.getElem!_set_other dk i j _ (fun e' => e e'.symm), h3 j hj]
/-- what is left at the end: the first i cells -/
theorem RowD.own {w : World} {b cap : Nat} {dk : Array Int} (h : RowD w b cap dk) (base i : Nat) (vs : List Value) (hb : base ≤ b) (hi : i ≤ dk.size) (hc : dk.size ≤ cap) (hm : cap ≤ maxLen) (l : List Int) (hl : l.length = i) (hlow : ∀ j, j < i → l[j]? = some dk[j]!) :
    (w.setCells b i vs).ownsRow base 24 1 (.slice (some ⟨b, 0, none⟩) i cap) i (nums l) ∧ But b w (w.setCells b i vs) := by
  obtain ⟨cur, h1, h2, h3⟩ := h
  obtain ⟨cur', q1, q2, q3, q4, q5⟩ := blk_setCells vs i w cur h1
  refine ⟨⟨by simp [nums, hl], Or.inr ⟨b, cap, cur', rfl, hb, q1, by omega, hm, by omega, ?_⟩⟩, q5⟩
  apply List.ext_getElem?
  intro j
  by_cases hj : j < i
  · rw [List.getElem?_take_of_lt (by omega), Array.getElem?_toList, q3 j (Or.inl hj), h3 j (by omega)]
    unfold nums
    rw [List.getElem?_map, hlow j hj]; rfl
  · rw [List.getElem?_eq_none (by simp; omega), List.getElem?_eq_none (by simp [nums]; omega)]
theorem zeroU (w : World) : (zeroValue 24).run Try.prog w = .ok (.int .u64 0) w := by kernel_rfl

set_option maxHeartbeats 4000000 in
theorem delete_own (W0 w : World) (B : Nat) (hB00 : B ≤ W0.heap.size) (hB0 : Below B W0 w) (hBs : B ≤ w.heap.size) (g : Nat) (lb : Array Value) (eg : ∀ args w, (callFunc g args).run Try.prog w = .ok (.enter g args) w) (p : Int → Bool) (hp : Pred W0 B g lb p)
    (v : Value) (n : Nat) (l : List Int) (hn : l.length = n) (ho : w.ownsRow B 24 1 v n (nums l)) (hn2 : n ≤ 100000) :
    Calls Try.prog 87 #[v, .func (.func g) #[] lb] w fun e w' => ∃ v', e = .returned v' ∧ w'.ownsRow B 24 1 v' (l.filter fun x => !p x).length (nums (l.filter fun x => !p x)) ∧ Below B W0 w' := by
  rcases ho.2 with ⟨rfl, rfl⟩ | ⟨b, cap, cur, rfl, hb, hg, h1, h2, h3, h4⟩
  · obtain rfl : l = [] := List.eq_nil_of_length_eq_zero hn
    have hIF := indexF_calls W0 w B hB0 hBs g lb eg p hp none 0 0 [] rfl (fun h => by simp [nums] at h) (by omega)
    have HIF := Lib.hid hIF; clear hIF hp ho
    rw [show firstB p [] = -1 from rfl] at HIF
    go_enter Try.func87, Try.ntmps87
    go_wp2_with (go_at_call 113; refine HIF.out.mono ?_; rintro e w1 ⟨rfl, hb1⟩)
    go_ret
    exact ⟨_, rfl, World.ownsRow_nil _ _ _ _, hB0.trans (hb1.mono hBs)⟩
  · have hRD : RowD w b cap l.toArray := ⟨cur, hg, by omega, fun j hj => by
      have hj' : j < l.length := by simpa using hj
      have h5 : (cur.toList.take (n * 1))[j]? = (nums l)[j]? := by rw [h4]
      rw [List.getElem?_take_of_lt (by omega), Array.getElem?_toList] at h5
      rw [h5]
      unfold nums
      rw [List.getElem?_map, List.getElem?_eq_getElem hj', getElem!_pos l.toArray j hj]
      simp⟩
    have HIF := Lib.hid (indexF_calls W0 w B hB0 hBs g lb eg p hp (some ⟨b, 0, none⟩) n cap l hn (own_flat ho) hn2)
    have HB0 := Lib.hid hB0
    have HP := Lib.hid hp
    have HO := Lib.hid ho
    cases hq : l.findIdx? p with
    | none =>
      rw [show firstB p l = -1 by unfold firstB; rw [hq]] at HIF
      have hfil : (l.filter fun x => !p x) = l := by
        rw [List.filter_eq_self]
        intro x hx
        rw [List.findIdx?_eq_none_iff] at hq
        simp [hq x hx]
      rw [hfil, hn]
      clear hp ho hB0 hq hfil h4 hg hRD
      go_enter Try.func87, Try.ntmps87
      go_wp2_with (go_at_call 113; refine HIF.out.mono ?_; rintro e w1 ⟨rfl, hb1⟩)
      go_ret
      exact ⟨_, rfl, own_below HO.out hb1, HB0.out.trans (hb1.mono hBs)⟩
    | some k0 =>
      rw [show firstB p l = (k0 : Int) by unfold firstB; rw [hq]] at HIF
      rw [List.findIdx?_eq_some_iff_getElem] at hq
      obtain ⟨hk0, hpk, hpq⟩ := hq
      obtain ⟨d, hd⟩ : ∃ d, d = l.toArray := ⟨_, rfl⟩
      have hds : d.size = n := by rw [hd]; simpa using hn
      obtain ⟨kp, hkp⟩ : ∃ kp : Nat → Bool, kp = fun j => !p d[j]! := ⟨_, rfl⟩
      have hfil : (l.filter fun x => !p x) = Lib.keptUpTo kp d d.size := by rw [hkp, Lib.keptUpTo_filter (fun x => !p x) d, hd]
      have hge : ∀ j (hj : j < l.length), d[j]! = l[j] := fun j hj => by rw [hd, getElem!_pos l.toArray j (by simpa using hj)]; simp
      have hst : Lib.KeptInv kp d (k0 + 1) k0 d := Lib.KeptInv.start (fun j hj => by
        rw [hkp]
        show (!p d[j]!) = true
        rw [hge j (by omega)]
        have := hpq j hj
        cases hh : p l[j] with
        | false => rfl
        | true => exact absurd hh this) (by rw [hkp]; show (!p d[k0]!) = false; rw [hge k0 hk0, hpk]; rfl)
      rw [hfil]
      rw [← hd] at hRD
      have HKP := Lib.hid hkp; clear hkp
      have HST := Lib.hid hst; clear hst
      have HRD := Lib.hid hRD; clear hRD
      have hk0n : k0 < n := by omega
      have hne1 : ((k0 : Int) == -1) = false := beq_eq_false_iff_ne.2 (by omega)
      have hblt : b < w.heap.size := (Array.getElem?_eq_some_iff.1 hg).1
      clear hp ho hB0 hpk hpq hfil hd hge h4 hg h3
      have HN := Lib.hid hn; clear hn hk0
      go_enter Try.func87, Try.ntmps87
      go_wp2_with (go_at_call 113; refine HIF.out.mono ?_; rintro e w1 ⟨rfl, hb1⟩)
      have hz1 := hb1.size
      have HB1 := Lib.hid (HB0.out.trans (hb1.mono hBs))
      have HR1 := Lib.hid (HRD.out.below hb1)
      have hB1s : B ≤ w1.heap.size := Nat.le_trans hBs hz1
      go_loopw [5, 6] (fun s5 s6 wr => ∃ (i j : Nat) (dk : Array Int), s5 = .int .i64 i ∧ s6 = .int .i64 j ∧ j ≤ n ∧ Hid (RowD wr b cap dk) ∧ Hid (Lib.KeptInv kp d j i dk) ∧ Hid (Below B W0 wr) ∧ w1.heap.size ≤ wr.heap.size) (fun _ s6 _ => n - (intOf s6).toNat)
      case atStart => exact ⟨k0, k0 + 1, d, rfl, by go_num, by omega, HR1, HST, HB1, Nat.le_refl _⟩
      case round =>
        obtain ⟨i, j, dk, rfl, rfl, hjn, hRD, hI, hB, hsz⟩ := hrel
        have hij := hI.out.lt
        have hdk := hI.out.size
        have hbz : b < wr.heap.size := by omega
        by_cases hlt : j < n
        · have cj := hRD.out.cell (j := j) (by omega)
          rw [hI.out.high j (by omega)] at cj
          have ci := hRD.out.cell (j := i) (by omega)
          have hHC := Lib.hid (HP.out wr hB.out d[j]!)
          obtain ⟨x, hx⟩ : ∃ x, x = d[j]! := ⟨_, rfl⟩
          rw [← hx] at cj hHC
          obtain ⟨u, hu⟩ : ∃ u, u = dk[i]! := ⟨_, rfl⟩
          rw [← hu] at ci
          have HX := Lib.hid hx; clear hx hu
          obtain ⟨y, hy⟩ : ∃ y, y = p x := ⟨_, rfl⟩
          rw [← hy] at hHC
          have HY := Lib.hid hy; clear hy
          have hBw : B ≤ wr.heap.size := by omega
          cases y with
          | false =>
            go_wp2_with (go_at_fn g; refine hHC.out.mono ?_; rintro e w3 ⟨rfl, hb3⟩; replace ci := cell_bel ci hb3; have fi := (hRD.out.below hb3).frozen i; have hz3 := hb3.size; have hbz3 : b < w3.heap.size := (by omega))
            go_roundw
            case rel =>
              refine ⟨i + 1, j + 1, dk.setIfInBounds i x, by go_num, by go_num, by omega, (hRD.out.below hb3).set i x (by omega), ?_, But.below (hB.out.trans (hb3.mono hBw)) hB00 hb (But.set _ _ _ _), by simp; omega⟩
              show Lib.KeptInv _ _ _ _ _
              rw [HX.out]
              exact hI.out.keep (by omega) (by rw [HKP.out]; show (!p d[j]!) = true; rw [← HX.out, ← HY.out]; rfl)
            case measure => simp [intOf]; omega
          | true =>
            go_wp2_with (go_at_fn g; refine hHC.out.mono ?_; rintro e w3 ⟨rfl, hb3⟩; have hz3 := hb3.size)
            go_roundw
            case rel =>
              exact ⟨i, j + 1, dk, rfl, by go_num, by omega, hRD.out.below hb3, hI.out.skip (by rw [HKP.out]; show (!p d[j]!) = false; rw [← HX.out, ← HY.out]; rfl), hB.out.trans (hb3.mono hBw), by omega⟩
            case measure => simp [intOf]; omega
        · obtain rfl : j = n := by omega
          have hcl : ∀ ty, (Builtin.clear_ #[50] ty #[.slice (some ⟨b, i, none⟩) (j - i) (cap - i)]).run Try.prog wr = .ok (.tuple #[]) (wr.setCells b i (List.replicate (j - i) (.int .u64 0))) :=
            fun ty => Lib.run_clear_slice wr _ _ ty _ Try.underlying50 zeroU rfl rfl b i _ _ (by omega) (fun t ht => by rw [hRD.out.cell (by omega)]; rfl) (fun t ht => hRD.out.frozen _)
          have hincap : i ≤ cap := by omega
          go_wp2
          go_ret
          have hlen := hI.out.len
          rw [hds]
          obtain ⟨o1, o2⟩ := hRD.out.own B i (List.replicate (j - i) (.int .u64 0)) hb (by omega) (by omega) (by omega) (Lib.keptUpTo kp d j) hlen hI.out.low
          refine ⟨_, rfl, ?_, ?_⟩
          · rw [hlen]; exact o1
          · exact But.below hB.out hB00 hb o2
end Go.Proofs.Ytehneliphhgegaa
end
section
set_option linter.unusedVariables false
set_option linter.unusedSimpArgs false
set_option maxRecDepth 100000
namespace Go.Proofs.Ytehneliphhgegaa
open Go.RowKit Go.Apo Go.Shelf
attribute [local go_sem] Oper.semAt_some

set_option maxHeartbeats 4000000 in
theorem appendSeq_calls (w : World) (Bg p m : Nat) (L : List (Int × CommitD)) (hc : w.cell? ⟨Bg, 0, none⟩ = some (.pointer (some ⟨p, 0, none⟩))) (h : GraphAt w p m L) (hL : L.length ≤ 1000000) (hw : numsIn (mkeys L)) :
    Calls Try.prog 114 #[.slice none 0 0, .func (.func 110) #[] #[.pointer (some ⟨Bg, 0, none⟩)]] w (NumsOwn w (sortI (mkeys L))) := by
  refine (callsIn_wide (n := 4)).1 ?_
  obtain ⟨i0, hi, hz0, hz1, hz2⟩ := info_parts infoU64
  refine callsIn_of_wp_marks Try.func114 rfl trivial ?_ rfl
  simp only [Try.ntmps114, List.size_toArray, List.length_cons, List.length_nil, Nat.reduceAdd, Nat.reduceSub, Array.replicate_succ, Array.replicate_zero, List.push_toArray, List.append_toArray, List.nil_append, List.cons_append]
  gi_wp2
  have bO := Boxed.new w 50 (.slice none 0 0)
  have hB0 : Below w.heap.size w (w.alloc (.cells #[.slice none 0 0] 50)) := by (repeat (first | (with_reducible exact Below.refl _ _) | (with_reducible assumption) | (with_reducible refine bel_al0 ?_ _) | (with_reducible refine bel_set ?_ (by first | (simp; done) | (simp; omega)) _) | (with_reducible refine bel_dr ?_) | (with_reducible refine bel_drn ?_ _) | (with_reducible refine bel_tr ?_ (by assumption))))
  refine wpIn_rangeFunc_fresh rfl (by omega) (gf := 110) (lb := #[.pointer (some ⟨Bg, 0, none⟩)]) rfl trivial (enters_of Try.func110 (by kernel_rfl) rfl)
    (ids1_fresh 3 (by omega) _ Bg p m L (cell_bel hc hB0) (h.below hB0) hL hw) (Below.refl _ _) (fun _ => rfl)
    (fun G pre W => (∃ v, Boxed W w.heap.size 50 v ∧ W.ownsRow G 24 1 v pre.length (nums pre) ∧ w.heap.size ≤ G) ∧ Below w.heap.size w W)
    (fun _ _ _ _ => False)
    (fun G => OwnFrom.and (Own.from (holdsRow_own G w.heap.size 50 24 1 (fun pre : List Int => pre.length) (fun pre => nums pre) (fun _ _ => w.heap.size ≤ G)) _) (ownFrom_below (Nat.le_refl _) (by simp)))
    (fun _ _ _ _ _ _ hs _ _ => hs)
    (fun G hG => ⟨⟨_, bO, World.ownsRow_nil _ _ _ _, by simp at hG; omega⟩, hB0⟩)
    (fun x => { tmps := #[.slice none 0 0, .func (.func 110) #[] #[.pointer (some ⟨Bg, 0, none⟩)], .pointer (some ⟨w.heap.size, 0, none⟩), undef, .slice none 0 0, .int .u64 x, .func (.func 110) #[] #[.pointer (some ⟨Bg, 0, none⟩)], .int .u64 x, undef, undef, undef, undef, undef], defers := [] }) ?assign ?body ?done ?stop
  case assign =>
    intro l x W K hK
    gi_wp2
    exact hK
  case body =>
    rintro G l pre x W hG hGW ⟨⟨v, hv, hrow, hnG⟩, hB⟩ hlt
    have hc := hv.cell
    have hsz := hB.size
    simp at hG
    gi_wp2_with (gi_at_builtin; refine wpListIn_append_own _ rfl _ _ 50 rfl G 24 i0 (.int .u64 0) 1 8 Try.underlying50 hi hz0 hz1 hz2 rfl (by decide) _ _ _ rfl (hrow.alloc _) ⟨W.heap.size, 0, none⟩ 1 1 [.int .u64 x] rfl rfl (cell_one_new _ _ _) (by simp [Value.oneCell']) (by unfold maxLen; omega) (by omega) (by simp; omega) ?_; intro v' w1 hown' hgrow _; obtain ⟨g', cap', rfl⟩ := ownsRow_succ hown'; obtain ⟨hv1, hv2, hr2, hk2, hb2, hs2⟩ := boxed_step (C := w.heap.size + 3) hv (by decide) hrow hsz (by omega) (Nat.le_refl _) (by omega) hGW hown' hgrow; have hc1 := hv1.cell; have hf1 := hv1.frozen)
    exact ⟨hk2.from _, by simpa using hs2, ⟨_, hv2, hr2, hnG⟩, hB.trans hb2⟩
  case done =>
    rintro D G ys W hD rfl ⟨⟨v, hv, hrow, hnG⟩, hB⟩ hK
    have hc := hv.cell
    gi_wp2
    refine ⟨by simp, .inl ⟨_, _, rfl, run_takeDeferred hK, ?_⟩⟩
    refine ⟨_, results_tmp rfl _ _ _, v, rfl, ownsRow_putObj (own_mono hrow hnG) _ hK rfl, hB.trans (belowK_b (w := w) (Nat.le_refl _) W D _ _ (by simp at hD; omega) hK rfl rfl)⟩
  case stop =>
    rintro D G c pre W _ _ h _
    exact h.elim
theorem collect_calls (w : World) (Bg p m : Nat) (L : List (Int × CommitD)) (hc : w.cell? ⟨Bg, 0, none⟩ = some (.pointer (some ⟨p, 0, none⟩))) (h : GraphAt w p m L) (hL : L.length ≤ 1000000) (hw : numsIn (mkeys L)) :
    Calls Try.prog 88 #[.func (.func 110) #[] #[.pointer (some ⟨Bg, 0, none⟩)]] w (NumsOwn w (sortI (mkeys L))) := by
  have HA := Lib.hid (appendSeq_calls w Bg p m L hc h hL hw)
  clear hc h
  go_enter Try.func88, Try.ntmps88
  go_wp2_with (go_at_call 114; refine HA.out.mono ?_; rintro e w1 ⟨v, rfl, ho, hb⟩)
  go_ret
  exact ⟨v, rfl, ho, hb⟩

/-! slices.Index, slices.Contains -/
def hasB (l : List Int) (x : Int) : Bool := l.any fun y => x == y
theorem index_calls (w : World) (A : Option Addr) (n k : Nat) (l : List Int) (hn : l.length = n) (hf : Flat w A (nums l)) (hn2 : n ≤ 100000) (x : Int) :
    Calls Try.prog 112 #[.slice A n k, .int .u64 x] w fun e w' => e = .returned (.int .i64 (firstB (fun y => x == y) l)) ∧ Below w.heap.size w w' := by
  obtain ⟨r, hr⟩ : ∃ r, r = firstB (fun y => x == y) l := ⟨_, rfl⟩
  rw [← hr]
  have HR := Lib.hid hr; clear hr
  have HN := Lib.hid hn; clear hn
  have HF := Lib.hid hf; clear hf
  go_enter Try.func112, Try.ntmps112
  go_wp2
  go_loopw [8, 5] (fun v _ wr => ∃ j : Nat, j ≤ n ∧ v = .int .i64 j ∧ Hid (∀ q y, q < j → l[q]? = some y → (x == y) = false) ∧ Below w.heap.size w wr) (fun v _ _ => n - (intOf v).toNat)
  case atStart => exact ⟨0, Nat.zero_le _, rfl, fun q _ hq => absurd hq (Nat.not_lt_zero _), by (repeat (first | (with_reducible exact Below.refl _ _) | (with_reducible assumption) | (with_reducible refine bel_al0 ?_ _) | (with_reducible refine bel_set ?_ (by first | (simp; done) | (simp; omega)) _) | (with_reducible refine bel_dr ?_) | (with_reducible refine bel_drn ?_ _) | (with_reducible refine bel_tr ?_ (by assumption))))⟩
  case round =>
    obtain ⟨j, hj, rfl, hok, hB⟩ := hrel
    by_cases hlt : j < n
    · obtain ⟨y, hy⟩ : ∃ y, l[j]? = some y := ⟨_, List.getElem?_eq_getElem (by rw [HN.out]; exact hlt)⟩
      obtain ⟨b, off, rfl, cj⟩ := HF.out.at_ (nums_at hy)
      replace cj := cell_bel cj hB
      have hbl := cell_lt cj
      by_cases he : x = y
      · subst he
        obtain rfl : r = j := by rw [HR.out]; exact firstB_some hy (by simp) hok.out
        clear hy
        go_wp2
        go_ret
        exact ⟨rfl, by (repeat (first | (with_reducible exact Below.refl _ _) | (with_reducible assumption) | (with_reducible refine bel_al0 ?_ _) | (with_reducible refine bel_set ?_ (by first | (simp; done) | (simp; omega)) _) | (with_reducible refine bel_dr ?_) | (with_reducible refine bel_drn ?_ _) | (with_reducible refine bel_tr ?_ (by assumption))))⟩
      · have g1 : (x == y) = false := by simpa using he
        have HY := Lib.hid hy; clear hy
        have HG := Lib.hid g1
        go_wp2
        go_roundw
        case rel =>
          refine ⟨j + 1, by omega, by go_num, fun q x' hq hq' => ?_, by (repeat (first | (with_reducible exact Below.refl _ _) | (with_reducible assumption) | (with_reducible refine bel_al0 ?_ _) | (with_reducible refine bel_set ?_ (by first | (simp; done) | (simp; omega)) _) | (with_reducible refine bel_dr ?_) | (with_reducible refine bel_drn ?_ _) | (with_reducible refine bel_tr ?_ (by assumption))))⟩
          rcases Nat.lt_or_ge q j with h' | h'
          · exact hok.out q x' h' hq'
          · obtain rfl : q = j := by omega
            rw [HY.out] at hq'; cases hq'; exact HG.out
        case measure => simp [intOf]; omega
    · have hr : r = -1 := by
        rw [HR.out]
        refine firstB_none fun y hy => ?_
        obtain ⟨q, hq⟩ := List.mem_iff_getElem?.1 hy
        exact hok.out q y (by have := (List.getElem?_eq_some_iff.1 hq).1; have := HN.out; omega) hq
      subst hr
      go_wp2
      go_ret
      exact ⟨rfl, hB⟩
theorem contains_calls (w : World) (A : Option Addr) (n k : Nat) (l : List Int) (hn : l.length = n) (hf : Flat w A (nums l)) (hn2 : n ≤ 100000) (x : Int) :
    Calls Try.prog 86 #[.slice A n k, .int .u64 x] w fun e w' => e = .returned (.bool (hasB l x)) ∧ Below w.heap.size w w' := by
  have HI := Lib.hid (index_calls w A n k l hn hf hn2 x)
  unfold hasB
  rw [← firstB_any]
  clear hf hn
  obtain ⟨r, hr⟩ : ∃ r, r = firstB (fun y => x == y) l := ⟨_, rfl⟩
  rw [← hr] at HI ⊢
  clear hr
  go_enter Try.func86, Try.ntmps86
  go_wp2_with (go_at_call 112; refine HI.out.mono ?_; rintro e w1 ⟨rfl, hb1⟩)
  go_ret
  exact ⟨rfl, hb1⟩
end Go.Proofs.Ytehneliphhgegaa
end
section
set_option linter.unusedVariables false
set_option linter.unusedSimpArgs false
set_option maxRecDepth 100000
namespace Go.Proofs.Ytehneliphhgegaa
open Go.RowKit Go.Apo Go.Shelf
attribute [local go_sem] Oper.semAt_some

/-- of some commits those that have x for a parent -/
def kidsIn (L : List (Int × CommitD)) (x : Int) (l : List Int) : List Int := l.filter fun k => hasB (gGet L k).par x
def kidsL (L : List (Int × CommitD)) (x : Int) : List Int := kidsIn L x (sortI (mkeys L))
theorem kidsIn_snoc (L : List (Int × CommitD)) (x : Int) (l : List Int) (k : Int) : kidsIn L x (l ++ [k]) = if hasB (gGet L k).par x then kidsIn L x l ++ [k] else kidsIn L x l := by
  unfold kidsIn
  rw [List.filter_append]
  cases h : hasB (gGet L k).par x <;> simp [h]
theorem kidsIn_len (L : List (Int × CommitD)) (x : Int) (l : List Int) : (kidsIn L x l).length ≤ l.length := List.length_filter_le _ _
theorem keepsO_below {W W' : World} (hb : Below W.heap.size W W') : KeepsOthers W W' := KeepsOthers.of_grownBy (grown_below hb) (fun j o e _ => by cases e)
theorem keepsS_below {W W' : World} {C G : Nat} (hb : Below W.heap.size W W') (hG : G ≤ W.heap.size) : KeepsSpan C G W W' := ⟨hb.size, fun k _ hk => hb.block k (by omega)⟩
theorem boxed_bel {W W' : World} {B : Nat} {t : TypeId} {v : Value} (h : Boxed W B t v) (hb : Below W.heap.size W W') : Boxed W' B t v := (hb.block B h.lt).trans h

set_option maxHeartbeats 8000000 in
theorem kids_calls (w : World) (p m : Nat) (L : List (Int × CommitD)) (h : GraphAt w p m L) (hO : LOk L) (hL : L.length ≤ 100000) (hw : numsIn (mkeys L)) (x : Int) :
    Calls Try.prog 52 #[.pointer (some ⟨p, 0, none⟩), .int .u64 x] w (NumsOwn w (kidsL L x)) := by
  refine (callsIn_wide (n := 4)).1 ?_
  obtain ⟨i0, hi, hz0, hz1, hz2⟩ := info_parts infoU64
  have f1 : Fence.wide.fn 84 := trivial
  have HP := Lib.hid (fun k => (show (gGet L k).par.length ≤ 2 by
    unfold gGet
    cases hq : mget L k with
    | none => simp [CommitD.zero]
    | some c => exact hO.two k c hq))
  refine callsIn_of_wp_marks Try.func52 rfl trivial ?_ rfl
  simp only [Try.ntmps52, List.size_toArray, List.length_cons, List.length_nil, Nat.reduceAdd, Nat.reduceSub, Array.replicate_succ, Array.replicate_zero, List.push_toArray, List.append_toArray, List.nil_append, List.cons_append]
  gi_wp2_with (gi_at_call 84; refine (callsIn_wide.2 (idsF_calls _ _)).mono ?_; rintro e w' ⟨rfl, rfl⟩)
  obtain ⟨z, hz⟩ : ∃ z, z = w.heap.size := ⟨_, rfl⟩
  obtain ⟨W4, hW4⟩ : ∃ W4, W4 = (((w.alloc (.cells #[.pointer (some ⟨p, 0, none⟩)] 42)).alloc (.cells #[.int .u64 x] 24)).alloc (.cells #[.slice none 0 0] 50)).alloc (.cells #[.pointer (some ⟨p, 0, none⟩)] 42) := ⟨_, rfl⟩
  have hz4 : W4.heap.size = z + 4 := by rw [hW4, hz]; simp
  have hBw : Below w.heap.size w W4 := by rw [hW4]; (repeat (first | (with_reducible exact Below.refl _ _) | (with_reducible assumption) | (with_reducible refine bel_al0 ?_ _) | (with_reducible refine bel_set ?_ (by first | (simp; done) | (simp; omega)) _) | (with_reducible refine bel_dr ?_) | (with_reducible refine bel_drn ?_ _) | (with_reducible refine bel_tr ?_ (by assumption))))
  have c0 : W4.cell? ⟨z, 0, none⟩ = some (.pointer (some ⟨p, 0, none⟩)) := by
    rw [hW4, hz]; exact cell_al (cell_al (cell_al (cell_at_new w _ _ 0 rfl) _) _) _
  have c1 : W4.cell? ⟨z + 1, 0, none⟩ = some (.int .u64 x) := by
    rw [hW4, hz]
    have := cell_at_new (w.alloc (.cells #[.pointer (some ⟨p, 0, none⟩)] 42)) #[.int .u64 x] 24 0 (v := .int .u64 x) rfl
    rw [World.size_alloc] at this
    exact cell_al (cell_al this _) _
  have bO : Boxed W4 (z + 1 + 1) 50 (.slice none 0 0) := by
    have := Boxed.new ((w.alloc (.cells #[.pointer (some ⟨p, 0, none⟩)] 42)).alloc (.cells #[.int .u64 x] 24)) 50 (.slice none 0 0)
    rw [World.size_alloc, World.size_alloc] at this
    rw [hW4, hz]; exact this.alloc _
  have c3 : W4.cell? ⟨z + 1 + 1 + 1, 0, none⟩ = some (.pointer (some ⟨p, 0, none⟩)) := by
    rw [hW4, hz]
    have := cell_at_new (((w.alloc (.cells #[.pointer (some ⟨p, 0, none⟩)] 42)).alloc (.cells #[.int .u64 x] 24)).alloc (.cells #[.slice none 0 0] 50)) #[.pointer (some ⟨p, 0, none⟩)] 42 0 (v := .pointer (some ⟨p, 0, none⟩)) rfl
    rw [World.size_alloc, World.size_alloc, World.size_alloc] at this
    exact this
  rw [← hW4, ← hz]
  clear hW4
  have hG4 := h.below hBw
  have hBZ : Below (z + 2) W4 W4 := Below.refl _ _
  have HG4 := Lib.hid (fun W (hW : Below (z + 2) W4 W) => h.below (hBw.trans (hW.mono (by omega))))
  have HZ := Lib.hid hz
  clear h hz
  refine wpIn_rangeFunc_fresh rfl (by omega) (gf := 110) (lb := #[.pointer (some ⟨z + 1 + 1 + 1, 0, none⟩)]) rfl trivial (enters_of Try.func110 (by kernel_rfl) rfl)
    (ids1_fresh 3 (by omega) W4 (z + 1 + 1 + 1) p m L c3 hG4 (by omega) hw) (Below.refl _ _) (fun _ => rfl)
    (fun G pre W => (∃ v, Boxed W (z + 1 + 1) 50 v ∧ W.ownsRow G 24 1 v (kidsIn L x pre).length (nums (kidsIn L x pre)) ∧ z + 2 ≤ G) ∧ Below (z + 2) W4 W)
    (fun _ _ _ _ => False)
    (fun G => OwnFrom.and (Own.from (holdsRow_own G (z + 1 + 1) 50 24 1 (fun pre : List Int => (kidsIn L x pre).length) (fun pre => nums (kidsIn L x pre)) (fun _ _ => z + 2 ≤ G)) _) (ownFrom_below (by omega) (by omega)))
    (fun _ _ _ _ _ _ hs _ _ => hs)
    (fun G hG => ⟨⟨_, bO, World.ownsRow_nil _ _ _ _, by omega⟩, hBZ⟩)
    (fun k => { tmps := #[.pointer (some ⟨p, 0, none⟩), .int .u64 x, .pointer (some ⟨z, 0, none⟩), .pointer (some ⟨z + 1, 0, none⟩), .slice none 0 0, .pointer (some ⟨z + 1 + 1, 0, none⟩), .int .u64 k, undef, undef, .pointer (some ⟨p, 0, none⟩), .func (.func 110) #[] #[.pointer (some ⟨z + 1 + 1 + 1, 0, none⟩)], .int .u64 k, undef, undef, undef, undef, undef, undef, undef, undef, undef, undef, undef, undef, undef, undef, undef], defers := [] }) ?assign ?body ?done ?stop
  case assign =>
    intro l k W K hK
    gi_wp2
    exact hK
  case body =>
    rintro G l pre k W hG hGW ⟨⟨v, hv, hrow, hnG⟩, hB⟩ hlt
    have q0 := (hB.cell (p := ⟨z, 0, none⟩) (by show z < z + 2; omega)).trans c0
    have q1 := (hB.cell (p := ⟨z + 1, 0, none⟩) (by show z + 1 < z + 2; omega)).trans c1
    have hzW : z + 4 ≤ W.heap.size := by have := hB.size; omega
    have f2 : Fence.wide.fn 44 := trivial
    have f3 : Fence.wide.fn 86 := trivial
    have HGE := Lib.hid (gget_calls p m W L (HG4.out W hB) k)
    have hp2 := HP.out k
    have HIN := Lib.hid (kidsIn_snoc L x pre k)
    have HLE := kidsIn_len L x pre
    obtain ⟨c, hc⟩ : ∃ c, c = gGet L k := ⟨_, rfl⟩
    unfold GetOwn at HGE
    rw [← hc] at HGE hp2 HIN
    clear hc
    obtain ⟨kk, hkk⟩ : ∃ kk, kk = kidsIn L x pre := ⟨_, rfl⟩
    rw [← hkk] at hrow HIN HLE
    clear hkk
    obtain ⟨np, hnp⟩ : ∃ np, np = c.par.length := ⟨_, rfl⟩
    rw [← hnp] at HGE hp2
    have HNP := Lib.hid hnp.symm; clear hnp
    obtain ⟨y, hy⟩ : ∃ y, y = hasB c.par x := ⟨_, rfl⟩
    rw [← hy] at HIN
    have HY := Lib.hid hy; clear hy
    have HV := Lib.hid hv; clear hv
    have HROW := Lib.hid hrow; clear hrow
    cases y with
    | false =>
      gi_wp2_with (first | (gi_at_call 44; refine ((callsIn_wide.2 HGE.out).inRound l).mono ?_; rintro e w5 ⟨A5, k5, rfl, ho5, hb5⟩; have hf5 := Lib.hid (own_flat ho5); clear ho5; replace q1 := cell_bel q1 hb5; have hz5 := hb5.size; have hz6 : z + 1 < w5.heap.size := (by omega)) | (gi_at_call 86; refine ((callsIn_wide.2 (contains_calls _ A5 np k5 c.par HNP.out (hf5.out.below (by (repeat (first | (with_reducible exact Below.refl _ _) | (with_reducible assumption) | (with_reducible refine bel_al0 ?_ _) | (with_reducible refine bel_set ?_ (by first | (simp; done) | (simp; omega)) _) | (with_reducible refine bel_dr ?_) | (with_reducible refine bel_drn ?_ _) | (with_reducible refine bel_tr ?_ (by assumption)))))) (by omega) x)).inRound l).mono ?_; rw [← HY.out]; rintro e w7 ⟨rfl, hb7⟩; have hbW : Below W.heap.size W w7 := (by (repeat (first | (with_reducible exact Below.refl _ _) | (with_reducible assumption) | (with_reducible refine bel_al0 ?_ _) | (with_reducible refine bel_set ?_ (by first | (simp; done) | (simp; omega)) _) | (with_reducible refine bel_dr ?_) | (with_reducible refine bel_drn ?_ _) | (with_reducible refine bel_tr ?_ (by assumption)))))))
      have hin := HIN.out
      simp only [Bool.false_eq_true, if_false] at hin
      refine ⟨(keepsO_below hbW).from _, keepsS_below hbW hGW, ⟨v, boxed_bel HV.out hbW, ?_, hnG⟩, hB.trans (hbW.mono (by omega))⟩
      rw [hin]
      exact own_below HROW.out hbW
    | true =>
      have hLk : kk.length ≤ 100000 := by omega
      gi_wp2_with (first | (gi_at_call 44; refine ((callsIn_wide.2 HGE.out).inRound l).mono ?_; rintro e w5 ⟨A5, k5, rfl, ho5, hb5⟩; have hf5 := Lib.hid (own_flat ho5); clear ho5; replace q1 := cell_bel q1 hb5; have hz5 := hb5.size; have hz6 : z + 1 < w5.heap.size := (by omega)) | (gi_at_call 86; refine ((callsIn_wide.2 (contains_calls _ A5 np k5 c.par HNP.out (hf5.out.below (by (repeat (first | (with_reducible exact Below.refl _ _) | (with_reducible assumption) | (with_reducible refine bel_al0 ?_ _) | (with_reducible refine bel_set ?_ (by first | (simp; done) | (simp; omega)) _) | (with_reducible refine bel_dr ?_) | (with_reducible refine bel_drn ?_ _) | (with_reducible refine bel_tr ?_ (by assumption)))))) (by omega) x)).inRound l).mono ?_; rw [← HY.out]; rintro e w7 ⟨rfl, hb7⟩; have hbW : Below W.heap.size W w7 := (by (repeat (first | (with_reducible exact Below.refl _ _) | (with_reducible assumption) | (with_reducible refine bel_al0 ?_ _) | (with_reducible refine bel_set ?_ (by first | (simp; done) | (simp; omega)) _) | (with_reducible refine bel_dr ?_) | (with_reducible refine bel_drn ?_ _) | (with_reducible refine bel_tr ?_ (by assumption))))); have hv := boxed_bel HV.out hbW; have hrow := own_below HROW.out hbW; have hsz := hbW.size; have hc7 := hv.cell) | (gi_at_builtin; refine wpListIn_append_own _ rfl _ _ 50 rfl G 24 i0 (.int .u64 0) 1 8 Try.underlying50 hi hz0 hz1 hz2 rfl (by decide) _ _ _ rfl (hrow.alloc _) ⟨w7.heap.size, 0, none⟩ 1 1 [.int .u64 k] rfl rfl (cell_one_new _ _ _) (by simp [Value.oneCell']) (by unfold maxLen; omega) (by omega) (by simp; omega) ?_; intro v' w1 hown' hgrow _; obtain ⟨g', cap', rfl⟩ := ownsRow_succ hown'; obtain ⟨hv1, hv2, hr2, hk2, hb2, hs2⟩ := boxed_step (n₀ := z + 2) (C := z + 6) hv (by decide) hrow (by omega) hnG (by omega) (by omega) (by omega) hown' hgrow; have hc1 := hv1.cell; have hf1 := hv1.frozen))
      have hin := HIN.out
      simp only [if_true] at hin
      refine ⟨((keepsO_below hbW).trans hk2).from _, (keepsS_below hbW hGW).trans (by rw [hz4]; exact hs2), ⟨_, hv2, ?_, hnG⟩, (hB.trans (hbW.mono (by omega))).trans hb2⟩
      rw [hin]
      exact hr2
  case done =>
    rintro D G ys W hD rfl ⟨⟨v, hv, hrow, hnG⟩, hB⟩ hK
    have hc := hv.cell
    gi_wp2
    refine ⟨by simp, .inl ⟨_, _, rfl, run_takeDeferred hK, ?_⟩⟩
    refine ⟨_, results_tmp rfl _ _ _, v, rfl, ownsRow_putObj (own_mono hrow (by have := HZ.out; omega)) _ hK rfl, (hBw.trans (hB.mono (by have := HZ.out; omega))).trans (belowK_b (w := w) (Nat.le_refl _) W D _ _ (by have := HZ.out; omega) hK rfl rfl)⟩
  case stop =>
    rintro D G c pre W _ _ h _
    exact h.elim
end Go.Proofs.Ytehneliphhgegaa
end
section
set_option linter.unusedVariables false
set_option linter.unusedSimpArgs false
set_option maxRecDepth 100000
namespace Go.Apo
open Go.RowKit
section
variable {P : Program} {kt : TypeId} {κ ν : Type} [DecidableEq κ] {ek : κ → Value} {R : World → ν → Value → Prop} {w : World} {m : Nat} {L : List (κ × ν)}
variable {F : Fence} {nF : Nat} {ops : Array Oper} {rest : List Oper} {o : Oper} {a : Act} {Q : Exit → Act → World → Prop}
theorem wplIn_store (hg : o.guard = none) (x y z : Operand) (t et : TypeId) (hop : o.op = Op.mapUpdate t x y z) (K : KeyT P kt ek) (hR : OnCells R) (ht : P.underlying t = some (.map kt et))
    (hm : a.eval x = .map (some m)) (k : κ) (hx : a.eval y = ek k) (u : Value) (hu : a.eval z = u) (h : MapIs ek R w m L) {v : ν} (hv : R w v u)
    (hK : ∀ w', MapIs ek R w' m (mput L k v) → w.grownBy w' (some m) → w'.heap.size = w.heap.size → wpListIn F nF P ops Q rest (a.put o.dst undef) w') : wpListIn F nF P ops Q (o :: rest) a w := by
  refine wpListIn_plain hg fun K' hK' => ?_
  obtain ⟨w', hrun, r1, r2, r3⟩ := h.store K hR ht k hv
  unfold Oper.wpIn
  refine ⟨by simp [Oper.about, hop], ?_⟩
  rw [Oper.semAt_plain F _ _ (by rw [hop]; intro c hc'; cases hc')]
  simp [execOp, hop, hm, hx, hu, hrun, Result.andThen]
  exact hK' _ _ (hK w' r1 r2 r3)
end
theorem ownFrom_but {β : Type} {m B : Nat} {w₀ : World} (hB : w₀.heap.size ≤ B) : OwnFrom B (fun (_ : β) W => But m w₀ W) :=
  fun _ X Y row hs hg hr => ⟨hg.os.trans hs.os, hg.tape.trans hs.tape, hg.output.trans hs.output, Nat.le_trans hs.size hg.size, fun k hk hm => (hg.block k (Nat.lt_of_lt_of_le hk hs.size) (fun e => by have := (hr k e.symm).1; omega)).trans (hs.block k hk hm)⟩
theorem ownFrom_map {β κ ν : Type} [DecidableEq κ] {ek : κ → Value} {R : World → ν → Value → Prop} (hR : OnCells R) {m B : Nat} (hB : m < B) (f : β → List (κ × ν)) : OwnFrom B (fun s W => MapIs ek R W m (f s)) :=
  fun _ X Y row hs hg hr => hs.keep hR (hg.block m hs.lt (fun e => by have := (hr m e.symm).1; omega)) (fun b o ho hc => (hg.block b (Array.getElem?_eq_some_iff.1 ho).1 (fun e => by
    obtain ⟨_, o', ho', hc'⟩ := hr b e.symm
    rw [ho] at ho'; cases ho'; rw [hc] at hc'; cases hc')).trans ho)
end Go.Apo
namespace Go.Proofs.Ytehneliphhgegaa
open Go.RowKit Go.Apo Go.Shelf
attribute [local go_sem] Oper.semAt_some

/-- all parents of some commits -/
def metIn (S : List (Int × Unit)) (l : List Int) : List (Int × Unit) := l.foldl (fun S p => mput S p ()) S
def metOf (L : List (Int × CommitD)) (l : List Int) : List (Int × Unit) := l.foldl (fun S k => metIn S (gGet L k).par) []
theorem metOf_snoc (L : List (Int × CommitD)) (l : List Int) (k : Int) : metOf L (l ++ [k]) = metIn (metOf L l) (gGet L k).par := by unfold metOf; rw [List.foldl_append]; rfl
theorem metIn_snoc (S : List (Int × Unit)) (l : List Int) (k : Int) : metIn S (l ++ [k]) = mput (metIn S l) k () := by unfold metIn; rw [List.foldl_append]; rfl

/-- the closure of Heads -/
theorem heads1_calls (w : World) (B mm : Nat) (S : List (Int × Unit)) (hc : w.cell? ⟨B, 0, none⟩ = some (.map (some mm))) (hM : MapIs (Value.int .u64) boolIs w mm S) (x : Int) :
    Calls Try.prog 89 #[.int .u64 x, .pointer (some ⟨B, 0, none⟩)] w fun e w' => e = .returned (.bool (mget S x).isSome) ∧ Below w.heap.size w w' := by
  have HM := Lib.hid hM; clear hM
  have hlt := cell_lt hc
  cases hq : mget S x with
  | none =>
    have HQ := Lib.hid hq; clear hq
    go_enter Try.func89, Try.ntmps89
    go_wp2_with (at_lookup; refine wpl_look_none rfl false _ _ 117 4 rfl keyU Try.underlying117 _ (fun W => zeroBool W) rfl x rfl HM.out HQ.out ?_)
    go_ret
    exact ⟨rfl, by (repeat (first | (with_reducible exact Below.refl _ _) | (with_reducible assumption) | (with_reducible refine bel_al0 ?_ _) | (with_reducible refine bel_set ?_ (by first | (simp; done) | (simp; omega)) _) | (with_reducible refine bel_dr ?_) | (with_reducible refine bel_drn ?_ _) | (with_reducible refine bel_tr ?_ (by assumption))))⟩
  | some u =>
    have HQ := Lib.hid hq; clear hq
    go_enter Try.func89, Try.ntmps89
    go_wp2_with (at_lookup; refine wpl_look_some rfl false _ _ 117 4 rfl keyU Try.underlying117 rfl x rfl HM.out HQ.out ?_; intro u hu; unfold boolIs at hu; subst hu)
    go_ret
    exact ⟨rfl, by (repeat (first | (with_reducible exact Below.refl _ _) | (with_reducible assumption) | (with_reducible refine bel_al0 ?_ _) | (with_reducible refine bel_set ?_ (by first | (simp; done) | (simp; omega)) _) | (with_reducible refine bel_dr ?_) | (with_reducible refine bel_drn ?_ _) | (with_reducible refine bel_tr ?_ (by assumption))))⟩

set_option maxHeartbeats 8000000 in
theorem heads_calls (w : World) (p m : Nat) (L : List (Int × CommitD)) (h : GraphAt w p m L) (hO : LOk L) (hL : L.length ≤ 100000) (hw : numsIn (mkeys L)) :
    Calls Try.prog 53 #[.pointer (some ⟨p, 0, none⟩)] w (NumsOwn w ((sortI (mkeys L)).filter fun k => !(mget (metOf L (sortI (mkeys L))) k).isSome)) := by
  obtain ⟨KS, hKS⟩ : ∃ KS, KS = sortI (mkeys L) := ⟨_, rfl⟩
  rw [← hKS]
  have HKS := Lib.hid hKS; clear hKS
  refine (callsIn_wide (n := 4)).1 ?_
  have hmm := @run_makeMap Try.prog
  have f1 : Fence.wide.fn 84 := trivial
  have HP := Lib.hid (fun k => (show (gGet L k).par.length ≤ 2 by
    unfold gGet
    cases hq : mget L k with
    | none => simp [CommitD.zero]
    | some c => exact hO.two k c hq))
  refine callsIn_of_wp_marks Try.func53 rfl trivial ?_ rfl
  simp only [Try.ntmps53, List.size_toArray, List.length_cons, List.length_nil, Nat.reduceAdd, Nat.reduceSub, Array.replicate_succ, Array.replicate_zero, List.push_toArray, List.append_toArray, List.nil_append, List.cons_append]
  gi_wp2_with (gi_at_call 84; refine (callsIn_wide.2 (idsF_calls _ _)).mono ?_; rintro e w' ⟨rfl, rfl⟩)
  obtain ⟨z, hz⟩ : ∃ z, z = w.heap.size := ⟨_, rfl⟩
  obtain ⟨W4, hW4⟩ : ∃ W4, W4 = (((w.alloc (.cells #[.pointer (some ⟨p, 0, none⟩)] 42)).alloc (.map #[] 0)).alloc (.cells #[.map (some (w.heap.size + 1))] 117)).alloc (.cells #[.pointer (some ⟨p, 0, none⟩)] 42) := ⟨_, rfl⟩
  have hz4 : W4.heap.size = z + 4 := by rw [hW4, hz]; simp
  have hBw : Below w.heap.size w W4 := by rw [hW4]; (repeat (first | (with_reducible exact Below.refl _ _) | (with_reducible assumption) | (with_reducible refine bel_al0 ?_ _) | (with_reducible refine bel_set ?_ (by first | (simp; done) | (simp; omega)) _) | (with_reducible refine bel_dr ?_) | (with_reducible refine bel_drn ?_ _) | (with_reducible refine bel_tr ?_ (by assumption))))
  have c0 : W4.cell? ⟨z, 0, none⟩ = some (.pointer (some ⟨p, 0, none⟩)) := by
    rw [hW4, hz]; exact cell_al (cell_al (cell_al (cell_at_new w _ _ 0 rfl) _) _) _
  have bM : MapIs (Value.int .u64) boolIs W4 (z + 1) [] := by
    have := mapIs_made (Value.int .u64) boolIs (w.alloc (.cells #[.pointer (some ⟨p, 0, none⟩)] 42))
    rw [World.size_alloc] at this
    rw [hW4, hz]
    exact (this.below bools_onCells (bel_al0 (Below.refl _ _) _)).below bools_onCells (bel_al0 (Below.refl _ _) _)
  have c2 : W4.cell? ⟨z + 1 + 1, 0, none⟩ = some (.map (some (z + 1))) := by
    rw [hW4, hz]
    have := cell_at_new ((w.alloc (.cells #[.pointer (some ⟨p, 0, none⟩)] 42)).alloc (.map #[] 0)) #[.map (some (w.heap.size + 1))] 117 0 (v := .map (some (w.heap.size + 1))) rfl
    rw [World.size_alloc, World.size_alloc] at this
    exact cell_al this _
  have c3 : W4.cell? ⟨z + 1 + 1 + 1, 0, none⟩ = some (.pointer (some ⟨p, 0, none⟩)) := by
    rw [hW4, hz]
    have := cell_at_new (((w.alloc (.cells #[.pointer (some ⟨p, 0, none⟩)] 42)).alloc (.map #[] 0)).alloc (.cells #[.map (some (w.heap.size + 1))] 117)) #[.pointer (some ⟨p, 0, none⟩)] 42 0 (v := .pointer (some ⟨p, 0, none⟩)) rfl
    rw [World.size_alloc, World.size_alloc, World.size_alloc] at this
    exact this
  rw [← hW4, ← hz]
  clear hW4
  have hG4 := h.below hBw
  have HG4 := Lib.hid (fun W (hW : But (z + 1) W4 W) => h.below (But.below hBw (Nat.le_refl _) (by omega) hW))
  have HZ := Lib.hid hz
  have HBW := Lib.hid hBw
  clear h hz hBw hmm
  refine wpIn_rangeFunc_fresh rfl (by omega) (gf := 110) (lb := #[.pointer (some ⟨z + 1 + 1 + 1, 0, none⟩)]) rfl trivial (enters_of Try.func110 (by kernel_rfl) rfl)
    (ids1_fresh 3 (by omega) W4 (z + 1 + 1 + 1) p m L c3 hG4 (by omega) hw) (Below.refl _ _) (fun _ => rfl)
    (fun G pre W => MapIs (Value.int .u64) boolIs W (z + 1) (metOf L pre) ∧ But (z + 1) W4 W)
    (fun _ _ _ _ => False)
    (fun G => OwnFrom.and (ownFrom_map bools_onCells (by omega) (fun pre => metOf L pre)) (ownFrom_but (Nat.le_refl _)))
    (fun _ _ _ _ _ _ hs _ _ => hs)
    (fun G hG => ⟨bM, But.refl _ _⟩)
    (fun k => { tmps := #[.pointer (some ⟨p, 0, none⟩), .pointer (some ⟨z, 0, none⟩), .slice none 0 0, .pointer (some ⟨z + 1 + 1, 0, none⟩), .int .u64 k, undef, undef, undef, undef, .map (some (z + 1)), .pointer (some ⟨p, 0, none⟩), .func (.func 110) #[] #[.pointer (some ⟨z + 1 + 1 + 1, 0, none⟩)], .int .u64 k, undef, undef, undef, undef, undef, undef, undef, undef, undef, undef, undef, undef, undef, undef, undef, undef, undef, undef, undef, undef, undef], defers := [] }) ?assign ?body ?done ?stop
  case assign =>
    intro l k W K hK
    gi_wp2
    exact hK
  case body =>
    rintro G l pre k W hG hGW ⟨hM, hB⟩ hlt
    have q0 := (hB.cell (p := ⟨z, 0, none⟩) (by show z < _; omega) (by show z ≠ _; omega)).trans c0
    have q2 := (hB.cell (p := ⟨z + 1 + 1, 0, none⟩) (by show z + 1 + 1 < _; omega) (by show z + 1 + 1 ≠ _; omega)).trans c2
    have hzW : z + 4 ≤ W.heap.size := by have := hB.size; omega
    have f2 : Fence.wide.fn 44 := trivial
    have HGE := Lib.hid (gget_calls p m W L (HG4.out W hB) k)
    have hp2 := HP.out k
    have HIN := Lib.hid (metOf_snoc L pre k)
    obtain ⟨c, hc⟩ : ∃ c, c = gGet L k := ⟨_, rfl⟩
    unfold GetOwn at HGE
    rw [← hc] at HGE hp2 HIN
    clear hc
    obtain ⟨S, hS⟩ : ∃ S, S = metOf L pre := ⟨_, rfl⟩
    rw [← hS] at HIN hM
    clear hS
    obtain ⟨np, hnp⟩ : ∃ np, np = c.par.length := ⟨_, rfl⟩
    rw [← hnp] at HGE hp2
    have HNP := Lib.hid hnp; clear hnp
    have HM := Lib.hid hM; clear hM
    gi_wp2_with fail
    refine ((callsIn_wide.2 HGE.out).inRound l).mono ?_
    rintro e w5 ⟨A5, k5, rfl, ho5, hb5⟩
    have hf5 := Lib.hid (own_flat ho5)
    have hA5 := Lib.hid (own_row_ge ho5)
    clear ho5
    have hz5 := hb5.size
    replace q2 := cell_bel q2 hb5
    have hbW := Lib.hid (bel_al0 hb5 (.cells #[.int .u64 c.id, .slice A5 np k5, .int .u64 c.gen, .int .u64 c.root, .string c.text] 69))
    have hM6 := Lib.hid (HM.out.below bools_onCells hbW.out)
    gi_wp2_with fail
    have B5 := blk_new w5 #[.int .u64 c.id, .slice A5 np k5, .int .u64 c.gen, .int .u64 c.root, .string c.text] 69
    obtain ⟨w6, hw6⟩ : ∃ w6, w6 = w5.alloc (.cells #[.int .u64 c.id, .slice A5 np k5, .int .u64 c.gen, .int .u64 c.root, .string c.text] 69) := ⟨_, rfl⟩
    have q6 : w6.cell? ⟨z + 1 + 1, 0, none⟩ = some (.map (some (z + 1))) := by rw [hw6]; exact cell_al q2 _
    have hF6 : Hid (Flat w6 A5 (nums c.par)) := by show Flat _ _ _; rw [hw6]; exact hf5.out.below (bel_al0 (Below.refl _ _) _)
    have hz6 : w6.heap.size = w5.heap.size + 1 := by rw [hw6]; simp
    rw [← hw6] at hbW hM6 ⊢
    clear hw6 B5
    gi_loopw [22] (fun v wr => ∃ j : Nat, j ≤ np ∧ v = .int .i64 j ∧ Hid (MapIs (Value.int .u64) boolIs wr (z + 1) (metIn S (c.par.take j))) ∧ Hid (But (z + 1) w6 wr)) (fun v _ => np - (intOf v).toNat)
    case atStart => exact ⟨0, Nat.zero_le _, rfl, hM6, But.refl _ _⟩
    case round =>
      obtain ⟨j, hj, rfl, hMj, hBj⟩ := hrel
      have r6 := (hBj.out.cell (p := ⟨z + 1 + 1, 0, none⟩) (by show z + 1 + 1 < _; omega) (by show z + 1 + 1 ≠ _; omega)).trans q6
      have hzr := hBj.out.size
      by_cases hlt : j < np
      · obtain ⟨pj, hpj⟩ : ∃ pj, c.par[j]? = some pj := ⟨_, List.getElem?_eq_getElem (by rw [← HNP.out]; exact hlt)⟩
        obtain ⟨bb, off, rfl, cj⟩ := hF6.out.at_ (nums_at hpj)
        have hbb := hA5.out bb rfl
        replace cj := (hBj.out.cell (p := ⟨bb, off + j, none⟩) (cell_lt cj) (by show bb ≠ _; omega)).trans cj
        have htk : c.par.take (j + 1) = c.par.take j ++ [pj] := by rw [List.take_add_one, hpj]; rfl
        have hnew : Hid (mput (metIn S (c.par.take j)) pj () = metIn S (c.par.take (j + 1))) := by show _ = _; rw [htk, metIn_snoc]
        have hbl := cell_lt cj
        clear hpj htk hbb
        obtain ⟨w7, hrun, hm7, hg7, hz7⟩ := hMj.out.store (t := 117) keyU bools_onCells Try.underlying117 pj (v := ()) (x := .bool true) rfl
        rw [hnew.out] at hm7
        have HM7 := Lib.hid hm7; clear hm7
        have HB7 := Lib.hid (But.of_grown hg7); clear hg7 hz7
        gi_wp2
        go_roundw
        case rel => exact ⟨j + 1, by omega, by go_num, HM7, hBj.out.trans HB7.out⟩
        case measure => simp [intOf]; omega
      · have hj' : j = np := by omega
        have htk : c.par.take j = c.par := by rw [List.take_of_length_le]; have := HNP.out; omega
        have hMM := hMj.out
        rw [htk, ← HIN.out] at hMM
        have HMM := Lib.hid hMM; clear hMM htk
        gi_wp2
        have hBW : But (z + 1) W wr := (But.of_below hbW.out).trans hBj.out
        refine ⟨⟨hBW.size, fun i o hB1 hi ho => ?_⟩, ⟨hBW.size, fun i h1 h2 => hBW.block i (by omega) (by omega)⟩, HMM.out, hB.trans hBW⟩
        have := (Array.getElem?_eq_some_iff.1 hi).1
        exact (hBW.block i this (by omega)).trans hi
  case done =>
    rintro D G ys W hD hys ⟨hM, hB⟩ hK
    rw [← HKS.out] at hys
    subst hys
    have q0 := (hB.cell (p := ⟨z, 0, none⟩) (by show z < _; omega) (by show z ≠ _; omega)).trans c0
    have q2 := (hB.cell (p := ⟨z + 1 + 1, 0, none⟩) (by show z + 1 + 1 < _; omega) (by show z + 1 + 1 ≠ _; omega)).trans c2
    have hzW : z + 4 ≤ W.heap.size := by have := hB.size; omega
    have f2 : Fence.wide.fn 88 := trivial
    have f3 : Fence.wide.fn 87 := trivial
    have HGW := Lib.hid (HG4.out W hB)
    have HM := Lib.hid hM; clear hM
    have HK := Lib.hid hK; clear hK
    have HCO := Lib.hid (fun W' (hW' : Below W.heap.size W W') Bg hc => collect_calls W' Bg p m L hc (HGW.out.below hW') (by omega) hw)
    have hnl : ys.length ≤ 100000 := by rw [HKS.out, sortI_len]; simpa [mkeys] using hL
    rw [← HKS.out] at HCO
    unfold NumsOwn at HCO
    gi_wp2_with (first | (gi_at_call 84; refine (callsIn_wide.2 (idsF_calls _ _)).mono ?_; rintro e w' ⟨rfl, rfl⟩) | (gi_at_call 88; refine (callsIn_wide.2 (HCO.out _ (by (repeat (first | (with_reducible exact Below.refl _ _) | (with_reducible assumption) | (with_reducible refine bel_al0 ?_ _) | (with_reducible refine bel_set ?_ (by first | (simp; done) | (simp; omega)) _) | (with_reducible refine bel_dr ?_) | (with_reducible refine bel_drn ?_ _) | (with_reducible refine bel_tr ?_ (by assumption))))) W.heap.size (cell_at_new W _ _ 0 rfl))).mono ?_; rintro e w5 ⟨v5, rfl, ho5, hb5⟩))
    obtain ⟨W1, hW1⟩ : ∃ W1, W1 = W.alloc (.cells #[.pointer (some ⟨p, 0, none⟩)] 42) := ⟨_, rfl⟩
    have hbW1 : Below W.heap.size W W1 := by rw [hW1]; exact bel_al0 (Below.refl _ _) _
    have hz1 : W1.heap.size = W.heap.size + 1 := by rw [hW1]; simp
    rw [← hW1] at ho5 hb5
    clear hW1
    have hPr : Pred W1 W1.heap.size 89 #[.pointer (some ⟨z + 1 + 1, 0, none⟩)] (fun x => (mget (metOf L ys) x).isSome) := fun W2 hW2 x =>
      heads1_calls W2 (z + 1 + 1) (z + 1) _ (cell_bel (cell_bel q2 hbW1) hW2) ((HM.out.below bools_onCells hbW1).below bools_onCells hW2) x
    refine (callsIn_wide.2 (delete_own W1 w5 W1.heap.size (Nat.le_refl _) hb5 hb5.size 89 #[.pointer (some ⟨z + 1 + 1, 0, none⟩)] (enters_of Try.func89 (by kernel_rfl) rfl) _ hPr v5 ys.length ys rfl ho5 hnl)).mono ?_
    rintro e w6 ⟨v6, rfl, ho6, hb6⟩
    gi_wp2
    have hbW6 : Below W.heap.size W w6 := hbW1.trans (hb6.mono (by omega))
    have hDlt : D < W.heap.size := (Array.getElem?_eq_some_iff.1 HK.out).1
    have hK6 : w6.heap[D]? = some (.deferred (some [])) := (hbW6.block D hDlt).trans HK.out
    have hwW : Below w.heap.size w W := But.below HBW.out (Nat.le_refl _) (by have := HZ.out; omega) hB
    have hww : w.heap.size ≤ W.heap.size := hwW.size
    refine ⟨by simp, .inl ⟨_, _, rfl, run_takeDeferred hK6, ?_⟩⟩
    refine ⟨_, results_tmp rfl _ _ _, v6, rfl, ownsRow_putObj (own_mono ho6 (by omega)) _ hK6 rfl, (hwW.trans (hbW6.mono hww)).trans (belowK_b (w := w) (Nat.le_refl _) w6 D _ _ (by have := HZ.out; omega) hK6 rfl rfl)⟩
  case stop =>
    rintro D G c pre W _ _ h _
    exact h.elim
end Go.Proofs.Ytehneliphhgegaa
end
section
set_option linter.unusedVariables false
set_option linter.unusedSimpArgs false
set_option maxRecDepth 100000
namespace Go.Proofs.Ytehneliphhgegaa
open Go.RowKit Go.Apo Go.Shelf

/-- the closure of Roots -/
theorem roots1_calls (w : World) (B p m : Nat) (L : List (Int × CommitD)) (hc : w.cell? ⟨B, 0, none⟩ = some (.pointer (some ⟨p, 0, none⟩))) (h : GraphAt w p m L) (hO : LOk L) (x : Int) :
    Calls Try.prog 90 #[.int .u64 x, .pointer (some ⟨B, 0, none⟩)] w fun e w' => e = .returned (.bool (!(gGet L x).par.isEmpty)) ∧ Below w.heap.size w w' := by
  have HGE := Lib.hid (gget_calls p m w L h x)
  obtain ⟨c, hc'⟩ : ∃ c, c = gGet L x := ⟨_, rfl⟩
  unfold GetOwn at HGE
  rw [← hc'] at HGE ⊢
  clear hc' h hO
  obtain ⟨b, hb⟩ : ∃ b, b = !c.par.isEmpty := ⟨_, rfl⟩
  have hb2 : decide ((0 : Int) < (c.par.length : Int)) = b := by
    rw [hb]
    cases c.par <;> simp
  rw [← hb]
  obtain ⟨np, hnp⟩ : ∃ np, np = c.par.length := ⟨_, rfl⟩
  rw [← hnp] at HGE hb2
  have HB2 := Lib.hid hb2
  clear hb hnp hb2
  have hlt := cell_lt hc
  go_enter Try.func90, Try.ntmps90
  go_wp2_with (go_at_call 44; refine HGE.out.mono ?_; rintro e w5 ⟨A5, k5, rfl, ho5, hb5⟩; clear ho5)
  go_ret
  refine ⟨?_, by (repeat (first | (with_reducible exact Below.refl _ _) | (with_reducible assumption) | (with_reducible refine bel_al0 ?_ _) | (with_reducible refine bel_set ?_ (by first | (simp; done) | (simp; omega)) _) | (with_reducible refine bel_dr ?_) | (with_reducible refine bel_drn ?_ _) | (with_reducible refine bel_tr ?_ (by assumption))))⟩
  rw [← HB2.out]
  simp

theorem roots_calls (w : World) (p m : Nat) (L : List (Int × CommitD)) (h : GraphAt w p m L) (hO : LOk L) (hL : L.length ≤ 100000) (hw : numsIn (mkeys L)) :
    Calls Try.prog 54 #[.pointer (some ⟨p, 0, none⟩)] w (NumsOwn w ((sortI (mkeys L)).filter fun k => (gGet L k).par.isEmpty)) := by
  have hnl : (sortI (mkeys L)).length ≤ 100000 := by rw [sortI_len]; simpa [mkeys] using hL
  obtain ⟨A1, hA1⟩ : ∃ A1, A1 = w.alloc (.cells #[.pointer (some ⟨p, 0, none⟩)] 42) := ⟨_, rfl⟩
  have hb1 : Below w.heap.size w (w.alloc (.cells #[.pointer (some ⟨p, 0, none⟩)] 42)) := by (repeat (first | (with_reducible exact Below.refl _ _) | (with_reducible assumption) | (with_reducible refine bel_al0 ?_ _) | (with_reducible refine bel_set ?_ (by first | (simp; done) | (simp; omega)) _) | (with_reducible refine bel_dr ?_) | (with_reducible refine bel_drn ?_ _) | (with_reducible refine bel_tr ?_ (by assumption))))
  have hb2 : Below w.heap.size w ((w.alloc (.cells #[.pointer (some ⟨p, 0, none⟩)] 42)).alloc (.cells #[.pointer (some ⟨p, 0, none⟩)] 42)) := by (repeat (first | (with_reducible exact Below.refl _ _) | (with_reducible assumption) | (with_reducible refine bel_al0 ?_ _) | (with_reducible refine bel_set ?_ (by first | (simp; done) | (simp; omega)) _) | (with_reducible refine bel_dr ?_) | (with_reducible refine bel_drn ?_ _) | (with_reducible refine bel_tr ?_ (by assumption))))
  have c1 : ((w.alloc (.cells #[.pointer (some ⟨p, 0, none⟩)] 42)).alloc (.cells #[.pointer (some ⟨p, 0, none⟩)] 42)).cell? ⟨w.heap.size, 0, none⟩ = some (.pointer (some ⟨p, 0, none⟩)) := cell_al (cell_at_new w _ _ 0 rfl) _
  have c2 : ((w.alloc (.cells #[.pointer (some ⟨p, 0, none⟩)] 42)).alloc (.cells #[.pointer (some ⟨p, 0, none⟩)] 42)).cell? ⟨w.heap.size + 1, 0, none⟩ = some (.pointer (some ⟨p, 0, none⟩)) := by
    have := cell_at_new (w.alloc (.cells #[.pointer (some ⟨p, 0, none⟩)] 42)) #[.pointer (some ⟨p, 0, none⟩)] 42 0 (v := .pointer (some ⟨p, 0, none⟩)) rfl
    rw [World.size_alloc] at this
    exact this
  obtain ⟨W1, hW1⟩ : ∃ W1, W1 = (w.alloc (.cells #[.pointer (some ⟨p, 0, none⟩)] 42)).alloc (.cells #[.pointer (some ⟨p, 0, none⟩)] 42) := ⟨_, rfl⟩
  rw [← hW1] at hb2 c1 c2
  have hg1 := h.below hb2
  have HC := Lib.hid (collect_calls W1 (w.heap.size + 1) p m L c2 hg1 (by omega) hw)
  have HP : Hid (Pred W1 W1.heap.size 90 #[.pointer (some ⟨w.heap.size, 0, none⟩)] (fun x => !(gGet L x).par.isEmpty)) := fun W2 hW2 x => roots1_calls W2 w.heap.size p m L (cell_bel c1 hW2) (hg1.below hW2) hO x
  have hfe : ((sortI (mkeys L)).filter fun k => (gGet L k).par.isEmpty) = (sortI (mkeys L)).filter fun x => !(fun x => !(gGet L x).par.isEmpty) x := by simp
  rw [hfe]
  obtain ⟨pr, hpr⟩ : ∃ pr : Int → Bool, pr = fun x => !(gGet L x).par.isEmpty := ⟨_, rfl⟩
  rw [← hpr] at HP ⊢
  clear hpr hfe h hO c1 c2 hg1
  obtain ⟨S, hS⟩ : ∃ S, S = sortI (mkeys L) := ⟨_, rfl⟩
  rw [← hS] at HC hnl ⊢
  clear hS
  have hbs := hb2.size
  have HB2 := Lib.hid hb2; clear hb2 hb1
  subst hW1
  unfold NumsOwn at HC ⊢
  go_enter Try.func54, Try.ntmps54
  go_wp2_with (first | (go_at_call 84; refine (idsF_calls _ _).mono ?_; rintro e w' ⟨rfl, rfl⟩) | (go_at_call 88; refine HC.out.mono ?_; rintro e w5 ⟨v5, rfl, ho5, hb5⟩) | (go_at_call 87; refine (delete_own _ w5 _ (Nat.le_refl _) hb5 hb5.size 90 #[.pointer (some ⟨w.heap.size, 0, none⟩)] (enters_of Try.func90 (by kernel_rfl) rfl) pr HP.out v5 S.length S rfl ho5 hnl).mono ?_; rintro e w6 ⟨v6, rfl, ho6, hb6⟩))
  go_ret
  exact ⟨v6, rfl, own_mono ho6 hbs, HB2.out.trans (hb6.mono hbs)⟩
end Go.Proofs.Ytehneliphhgegaa
end
