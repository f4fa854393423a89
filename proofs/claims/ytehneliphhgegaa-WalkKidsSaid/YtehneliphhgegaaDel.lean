/- slices.IndexFunc, slices.DeleteFunc over a row of one's own, whatever the closure lays: walked once. slices.Index, slices.Contains. -/
import Derived.Test.YtehneliphhgegaaIs
import Derived.Lib.SlKept
import Derived.Lib.SliceRun
import Derived.Shelf.Abstract
set_option linter.unusedVariables false
set_option linter.unusedSimpArgs false
set_option maxRecDepth 100000
namespace Go.Proofs.Ytehneliphhgegaa
open Go.RowKit Go.Apo Go.Shelf

/-- a closure over the world W0: what it answers of a number, and that it leaves old blocks alone -/
def Pred (W0 : World) (B : Nat) (g : Nat) (lb : Array Value) (p : Int → Bool) : Prop :=
  ∀ W, Below B W0 W → ∀ x, Calls Try.prog g (#[.int .u64 x] ++ lb) W fun e W' => e = .returned (.bool (p x)) ∧ Below W.heap.size W W'

theorem firstB_none {f : Int → Bool} {l : List Int} (h : ∀ x ∈ l, f x = false) : firstB f l = -1 := by
  unfold firstB
  have : l.findIdx? f = none := by rw [List.findIdx?_eq_none_iff]; exact h
  rw [this]
theorem firstB_some {f : Int → Bool} {l : List Int} {j : Nat} {x : Int} (hx : l[j]? = some x) (hf : f x = true) (h : ∀ q x, q < j → l[q]? = some x → f x = false) : firstB f l = j := by
  unfold firstB
  have : l.findIdx? f = some j := by
    rw [List.findIdx?_eq_some_iff_getElem]
    obtain ⟨hk, hc⟩ := List.getElem?_eq_some_iff.1 hx
    refine ⟨hk, by rw [hc]; exact hf, fun q hq => ?_⟩
    have := h q l[q] hq (List.getElem?_eq_getElem _)
    rw [this]; decide
  rw [this]

theorem indexF_calls (W0 w : World) (B : Nat) (hB0 : Below B W0 w) (hBs : B ≤ w.heap.size) (g : Nat) (lb : Array Value) (eg : ∀ args w, (callFunc g args).run Try.prog w = .ok (.enter g args) w) (p : Int → Bool) (hp : Pred W0 B g lb p)
    (A : Option Addr) (n k : Nat) (l : List Int) (hn : l.length = n) (hf : Flat w A (nums l)) (hn2 : n ≤ 100000) :
    Calls Try.prog 113 #[.slice A n k, .func (.func g) #[] lb] w fun e w' => e = .returned (.int .i64 (firstB p l)) ∧ Below w.heap.size w w' := by
  obtain ⟨r, hr⟩ : ∃ r, r = firstB p l := ⟨_, rfl⟩
  rw [← hr]
  have HR := Lib.hid hr; clear hr
  have HN := Lib.hid hn; clear hn
  have HF := Lib.hid hf; clear hf
  have HC := Lib.hid hp; clear hp
  have HB0 := Lib.hid hB0; clear hB0
  go_enter Try.func113, Try.ntmps113
  go_wp2
  go_loopw [8, 5] (fun v _ wr => ∃ j : Nat, j ≤ n ∧ v = .int .i64 j ∧ Hid (∀ q x, q < j → l[q]? = some x → p x = false) ∧ Below w.heap.size w wr) (fun v _ _ => n - (intOf v).toNat)
  case atStart => exact ⟨0, Nat.zero_le _, rfl, fun q _ hq => absurd hq (Nat.not_lt_zero _), by (repeat (first | (with_reducible exact Below.refl _ _) | (with_reducible assumption) | (with_reducible refine bel_al0 ?_ _) | (with_reducible refine bel_set ?_ (by first | (simp; done) | (simp; omega)) _) | (with_reducible refine bel_dr ?_) | (with_reducible refine bel_drn ?_ _) | (with_reducible refine bel_tr ?_ (by assumption))))⟩
  case round =>
    obtain ⟨j, hj, rfl, hok, hB⟩ := hrel
    by_cases hlt : j < n
    · obtain ⟨x, hx⟩ : ∃ x, l[j]? = some x := ⟨_, List.getElem?_eq_getElem (by rw [HN.out]; exact hlt)⟩
      obtain ⟨b, off, rfl, cj⟩ := HF.out.at_ (nums_at hx)
      replace cj := cell_bel cj hB
      have HC2 := Lib.hid (HC.out wr (HB0.out.trans (hB.mono hBs)) x)
      obtain ⟨y, hy⟩ : ∃ y, y = p x := ⟨_, rfl⟩
      rw [← hy] at HC2
      have HX := Lib.hid hx; clear hx
      have HY := Lib.hid hy; clear hy
      cases y with
      | true =>
        obtain rfl : r = j := by rw [HR.out]; exact firstB_some HX.out HY.out.symm hok.out
        go_wp2_with (go_at_fn g; refine HC2.out.mono ?_; rintro e w1 ⟨rfl, hb1⟩)
        go_ret
        exact ⟨rfl, by (repeat (first | (with_reducible exact Below.refl _ _) | (with_reducible assumption) | (with_reducible refine bel_al0 ?_ _) | (with_reducible refine bel_set ?_ (by first | (simp; done) | (simp; omega)) _) | (with_reducible refine bel_dr ?_) | (with_reducible refine bel_drn ?_ _) | (with_reducible refine bel_tr ?_ (by assumption))))⟩
      | false =>
        go_wp2_with (go_at_fn g; refine HC2.out.mono ?_; rintro e w1 ⟨rfl, hb1⟩)
        go_roundw
        case rel =>
          refine ⟨j + 1, by omega, by go_num, fun q x' hq hq' => ?_, by (repeat (first | (with_reducible exact Below.refl _ _) | (with_reducible assumption) | (with_reducible refine bel_al0 ?_ _) | (with_reducible refine bel_set ?_ (by first | (simp; done) | (simp; omega)) _) | (with_reducible refine bel_dr ?_) | (with_reducible refine bel_drn ?_ _) | (with_reducible refine bel_tr ?_ (by assumption))))⟩
          rcases Nat.lt_or_ge q j with h' | h'
          · exact hok.out q x' h' hq'
          · obtain rfl : q = j := by omega
            rw [HX.out] at hq'; cases hq'; exact HY.out.symm
        case measure => simp [intOf]; omega
    · have hr : r = -1 := by
        rw [HR.out]
        refine firstB_none fun x hx => ?_
        obtain ⟨q, hq⟩ := List.mem_iff_getElem?.1 hx
        exact hok.out q x (by have := (List.getElem?_eq_some_iff.1 hq).1; have := HN.out; omega) hq
      subst hr
      go_wp2
      go_ret
      exact ⟨rfl, hB⟩

/-! DeleteFunc -/
def RowD (w : World) (b cap : Nat) (dk : Array Int) : Prop := ∃ cur, Blk w b cur 24 ∧ cur.size = cap ∧ ∀ j, j < dk.size → cur[j]? = some (.int .u64 dk[j]!)
theorem RowD.cell {w : World} {b cap : Nat} {dk : Array Int} (h : RowD w b cap dk) {j : Nat} (hj : j < dk.size) : w.cell? ⟨b, j, none⟩ = some (.int .u64 dk[j]!) := by
  obtain ⟨cur, h1, h2, h3⟩ := h
  exact h1.cell (h3 j hj)
theorem RowD.frozen {w : World} {b cap : Nat} {dk : Array Int} (h : RowD w b cap dk) (j : Nat) : w.frozen? ⟨b, j, none⟩ = false := by
  obtain ⟨cur, h1, h2, h3⟩ := h
  exact h1.frozen j
theorem RowD.below {w w' : World} {b cap : Nat} {dk : Array Int} (h : RowD w b cap dk) (hb : Below w.heap.size w w') : RowD w' b cap dk := by
  obtain ⟨cur, h1, h2, h3⟩ := h
  exact ⟨cur, h1.below hb, h2, h3⟩
theorem RowD.lt {w : World} {b cap : Nat} {dk : Array Int} (h : RowD w b cap dk) : b < w.heap.size := by
  obtain ⟨cur, h1, h2, h3⟩ := h
  exact h1.lt
theorem RowD.set {w : World} {b cap : Nat} {dk : Array Int} (h : RowD w b cap dk) (i : Nat) (x : Int) (hc : dk.size ≤ cap) : RowD (w.setCell ⟨b, i, none⟩ (.int .u64 x)) b cap (dk.setIfInBounds i x) := by
  obtain ⟨cur, h1, h2, h3⟩ := h
  refine ⟨_, h1.set i _, by simpa using h2, fun j hj => ?_⟩
  rw [Array.size_setIfInBounds] at hj
  by_cases e : i = j
  · subst e
    rw [Array.getElem?_setIfInBounds_self_of_lt (by omega), Go.Sort.getElem!_set_same dk i _ hj]
  · rw [Array.getElem?_setIfInBounds_ne e, Go.Sort.getElem!_set_other dk i j _ (fun e' => e e'.symm), h3 j hj]
/-- what is left at the end: the first i cells -/
theorem RowD.own {w : World} {b cap : Nat} {dk : Array Int} (h : RowD w b cap dk) (base i : Nat) (vs : List Value) (hb : base ≤ b) (hi : i ≤ dk.size) (hc : dk.size ≤ cap) (hm : cap ≤ maxLen) (l : List Int) (hl : l.length = i) (hlow : ∀ j, j < i → l[j]? = some dk[j]!) :
    (w.setCells b i vs).ownsRow base 24 1 (.slice (some ⟨b, 0, none⟩) i cap) i (nums l) ∧ But b w (w.setCells b i vs) := by
  obtain ⟨cur, h1, h2, h3⟩ := h
  obtain ⟨cur', q1, q2, q3, q4, q5⟩ := blk_setCells vs i w cur h1
  refine ⟨⟨by simp [nums, hl], Or.inr ⟨b, cap, cur', rfl, hb, q1, by omega, hm, by omega, ?_⟩⟩, q5⟩
  apply List.ext_getElem?
  intro j
  by_cases hj : j < i
  · rw [List.getElem?_take_of_lt (by omega), Array.getElem?_toList, q3 j (Or.inl hj), h3 j (by omega)]
    unfold nums
    rw [List.getElem?_map, hlow j hj]; rfl
  · rw [List.getElem?_eq_none (by simp; omega), List.getElem?_eq_none (by simp [nums]; omega)]
theorem zeroU (w : World) : (zeroValue 24).run Try.prog w = .ok (.int .u64 0) w := by kernel_rfl

set_option maxHeartbeats 4000000 in
theorem delete_own (W0 w : World) (B : Nat) (hB00 : B ≤ W0.heap.size) (hB0 : Below B W0 w) (hBs : B ≤ w.heap.size) (g : Nat) (lb : Array Value) (eg : ∀ args w, (callFunc g args).run Try.prog w = .ok (.enter g args) w) (p : Int → Bool) (hp : Pred W0 B g lb p)
    (v : Value) (n : Nat) (l : List Int) (hn : l.length = n) (ho : w.ownsRow B 24 1 v n (nums l)) (hn2 : n ≤ 100000) :
    Calls Try.prog 87 #[v, .func (.func g) #[] lb] w fun e w' => ∃ v', e = .returned v' ∧ w'.ownsRow B 24 1 v' (l.filter fun x => !p x).length (nums (l.filter fun x => !p x)) ∧ Below B W0 w' := by
  rcases ho.2 with ⟨rfl, rfl⟩ | ⟨b, cap, cur, rfl, hb, hg, h1, h2, h3, h4⟩
  · obtain rfl : l = [] := List.eq_nil_of_length_eq_zero hn
    have hIF := indexF_calls W0 w B hB0 hBs g lb eg p hp none 0 0 [] rfl (fun h => by simp [nums] at h) (by omega)
    have HIF := Lib.hid hIF; clear hIF hp ho
    rw [show firstB p [] = -1 from rfl] at HIF
    go_enter Try.func87, Try.ntmps87
    go_wp2_with (go_at_call 113; refine HIF.out.mono ?_; rintro e w1 ⟨rfl, hb1⟩)
    go_ret
    exact ⟨_, rfl, World.ownsRow_nil _ _ _ _, hB0.trans (hb1.mono hBs)⟩
  · have hRD : RowD w b cap l.toArray := ⟨cur, hg, by omega, fun j hj => by
      have hj' : j < l.length := by simpa using hj
      have h5 : (cur.toList.take (n * 1))[j]? = (nums l)[j]? := by rw [h4]
      rw [List.getElem?_take_of_lt (by omega), Array.getElem?_toList] at h5
      rw [h5]
      unfold nums
      rw [List.getElem?_map, List.getElem?_eq_getElem hj', getElem!_pos l.toArray j hj]
      simp⟩
    have HIF := Lib.hid (indexF_calls W0 w B hB0 hBs g lb eg p hp (some ⟨b, 0, none⟩) n cap l hn (own_flat ho) hn2)
    have HB0 := Lib.hid hB0
    have HP := Lib.hid hp
    have HO := Lib.hid ho
    cases hq : l.findIdx? p with
    | none =>
      rw [show firstB p l = -1 by unfold firstB; rw [hq]] at HIF
      have hfil : (l.filter fun x => !p x) = l := by
        rw [List.filter_eq_self]
        intro x hx
        rw [List.findIdx?_eq_none_iff] at hq
        simp [hq x hx]
      rw [hfil, hn]
      clear hp ho hB0 hq hfil h4 hg hRD
      go_enter Try.func87, Try.ntmps87
      go_wp2_with (go_at_call 113; refine HIF.out.mono ?_; rintro e w1 ⟨rfl, hb1⟩)
      go_ret
      exact ⟨_, rfl, own_below HO.out hb1, HB0.out.trans (hb1.mono hBs)⟩
    | some k0 =>
      rw [show firstB p l = (k0 : Int) by unfold firstB; rw [hq]] at HIF
      rw [List.findIdx?_eq_some_iff_getElem] at hq
      obtain ⟨hk0, hpk, hpq⟩ := hq
      obtain ⟨d, hd⟩ : ∃ d, d = l.toArray := ⟨_, rfl⟩
      have hds : d.size = n := by rw [hd]; simpa using hn
      obtain ⟨kp, hkp⟩ : ∃ kp : Nat → Bool, kp = fun j => !p d[j]! := ⟨_, rfl⟩
      have hfil : (l.filter fun x => !p x) = Lib.keptUpTo kp d d.size := by rw [hkp, Lib.keptUpTo_filter (fun x => !p x) d, hd]
      have hge : ∀ j (hj : j < l.length), d[j]! = l[j] := fun j hj => by rw [hd, getElem!_pos l.toArray j (by simpa using hj)]; simp
      have hst : Lib.KeptInv kp d (k0 + 1) k0 d := Lib.KeptInv.start (fun j hj => by
        rw [hkp]
        show (!p d[j]!) = true
        rw [hge j (by omega)]
        have := hpq j hj
        cases hh : p l[j] with
        | false => rfl
        | true => exact absurd hh this) (by rw [hkp]; show (!p d[k0]!) = false; rw [hge k0 hk0, hpk]; rfl)
      rw [hfil]
      rw [← hd] at hRD
      have HKP := Lib.hid hkp; clear hkp
      have HST := Lib.hid hst; clear hst
      have HRD := Lib.hid hRD; clear hRD
      have hk0n : k0 < n := by omega
      have hne1 : ((k0 : Int) == -1) = false := beq_eq_false_iff_ne.2 (by omega)
      have hblt : b < w.heap.size := (Array.getElem?_eq_some_iff.1 hg).1
      clear hp ho hB0 hpk hpq hfil hd hge h4 hg h3
      have HN := Lib.hid hn; clear hn hk0
      go_enter Try.func87, Try.ntmps87
      go_wp2_with (go_at_call 113; refine HIF.out.mono ?_; rintro e w1 ⟨rfl, hb1⟩)
      have hz1 := hb1.size
      have HB1 := Lib.hid (HB0.out.trans (hb1.mono hBs))
      have HR1 := Lib.hid (HRD.out.below hb1)
      have hB1s : B ≤ w1.heap.size := Nat.le_trans hBs hz1
      go_loopw [5, 6] (fun s5 s6 wr => ∃ (i j : Nat) (dk : Array Int), s5 = .int .i64 i ∧ s6 = .int .i64 j ∧ j ≤ n ∧ Hid (RowD wr b cap dk) ∧ Hid (Lib.KeptInv kp d j i dk) ∧ Hid (Below B W0 wr) ∧ w1.heap.size ≤ wr.heap.size) (fun _ s6 _ => n - (intOf s6).toNat)
      case atStart => exact ⟨k0, k0 + 1, d, rfl, by go_num, by omega, HR1, HST, HB1, Nat.le_refl _⟩
      case round =>
        obtain ⟨i, j, dk, rfl, rfl, hjn, hRD, hI, hB, hsz⟩ := hrel
        have hij := hI.out.lt
        have hdk := hI.out.size
        have hbz : b < wr.heap.size := by omega
        by_cases hlt : j < n
        · have cj := hRD.out.cell (j := j) (by omega)
          rw [hI.out.high j (by omega)] at cj
          have ci := hRD.out.cell (j := i) (by omega)
          have hHC := Lib.hid (HP.out wr hB.out d[j]!)
          obtain ⟨x, hx⟩ : ∃ x, x = d[j]! := ⟨_, rfl⟩
          rw [← hx] at cj hHC
          obtain ⟨u, hu⟩ : ∃ u, u = dk[i]! := ⟨_, rfl⟩
          rw [← hu] at ci
          have HX := Lib.hid hx; clear hx hu
          obtain ⟨y, hy⟩ : ∃ y, y = p x := ⟨_, rfl⟩
          rw [← hy] at hHC
          have HY := Lib.hid hy; clear hy
          have hBw : B ≤ wr.heap.size := by omega
          cases y with
          | false =>
            go_wp2_with (go_at_fn g; refine hHC.out.mono ?_; rintro e w3 ⟨rfl, hb3⟩; replace ci := cell_bel ci hb3; have fi := (hRD.out.below hb3).frozen i; have hz3 := hb3.size; have hbz3 : b < w3.heap.size := (by omega))
            go_roundw
            case rel =>
              refine ⟨i + 1, j + 1, dk.setIfInBounds i x, by go_num, by go_num, by omega, (hRD.out.below hb3).set i x (by omega), ?_, But.below (hB.out.trans (hb3.mono hBw)) hB00 hb (But.set _ _ _ _), by simp; omega⟩
              show Lib.KeptInv _ _ _ _ _
              rw [HX.out]
              exact hI.out.keep (by omega) (by rw [HKP.out]; show (!p d[j]!) = true; rw [← HX.out, ← HY.out]; rfl)
            case measure => simp [intOf]; omega
          | true =>
            go_wp2_with (go_at_fn g; refine hHC.out.mono ?_; rintro e w3 ⟨rfl, hb3⟩; have hz3 := hb3.size)
            go_roundw
            case rel =>
              exact ⟨i, j + 1, dk, rfl, by go_num, by omega, hRD.out.below hb3, hI.out.skip (by rw [HKP.out]; show (!p d[j]!) = false; rw [← HX.out, ← HY.out]; rfl), hB.out.trans (hb3.mono hBw), by omega⟩
            case measure => simp [intOf]; omega
        · obtain rfl : j = n := by omega
          have hcl : ∀ ty, (Builtin.clear_ #[50] ty #[.slice (some ⟨b, i, none⟩) (j - i) (cap - i)]).run Try.prog wr = .ok (.tuple #[]) (wr.setCells b i (List.replicate (j - i) (.int .u64 0))) :=
            fun ty => Lib.run_clear_slice wr _ _ ty _ Try.underlying50 zeroU rfl rfl b i _ _ (by omega) (fun t ht => by rw [hRD.out.cell (by omega)]; rfl) (fun t ht => hRD.out.frozen _)
          have hincap : i ≤ cap := by omega
          go_wp2
          go_ret
          have hlen := hI.out.len
          rw [hds]
          obtain ⟨o1, o2⟩ := hRD.out.own B i (List.replicate (j - i) (.int .u64 0)) hb (by omega) (by omega) (by omega) (Lib.keptUpTo kp d j) hlen hI.out.low
          refine ⟨_, rfl, ?_, ?_⟩
          · rw [hlen]; exact o1
          · exact But.below hB.out hB00 hb o2
end Go.Proofs.Ytehneliphhgegaa
