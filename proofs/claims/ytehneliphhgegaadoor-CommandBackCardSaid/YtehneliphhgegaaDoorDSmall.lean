/- The small functions that say what is wrong with a command's parts; what each kind names. Written by gen-dsmall.py. -/
import Derived.Test.YtehneliphhgegaaDoorDText
import Derived.Test.YtehneliphhgegaaDoorDCRef
set_option linter.unusedVariables false
set_option linter.unusedSimpArgs false
set_option maxRecDepth 100000
namespace Go.Proofs.YtehneliphhgegaaDoor
open Go.RowKit Go.Apo

def keyE (s : ByteArray) : Int := if s.size < 1 ∨ 40 < s.size then 100 else 0
def valE (s : ByteArray) : Int := if 200 < s.size then 101 else 0
def whenE (b : Bool) (e : Int) : Int := if b = true then e else 0
def firstV : List Int → Int
  | [] => 0
  | x :: l => if x = 0 then firstV l else x
def refOk (s : ByteArray) (empty : Bool) : Bool := (refV s).2.2 || (empty && decide (s = ⟨#[]⟩))
def refE (s : ByteArray) (empty : Bool) : Int := if refOk s empty = true then 0 else 111
def emptyB (s : ByteArray) : Bool := s.toList.isEmpty
theorem emptyB_eq (s : ByteArray) : emptyB s = decide (s = ⟨#[]⟩) := by
  rw [← text_beq s ⟨#[]⟩]
  unfold emptyB
  have e : (⟨#[]⟩ : ByteArray).toList = [] := by rw [ByteArray.toList_eq]
  rw [e]
  cases s.toList <;> rfl

theorem key_calls (s : ByteArray) (w : World) : Calls Tryd.prog 45 #[.string s] w fun e w' => e = .returned (.int .i64 (keyE s)) ∧ w = w' := by
  by_cases h1 : s.size < 1
  · have hk : keyE s = 100 := if_pos (Or.inl h1)
    rw [hk]
    have g1 : decide ((s.size : Int) < 1) = true := by simp; omega
    clear hk
    go_enter Tryd.func45, Tryd.ntmps45
    go_wp2
    go_ret
    exact ⟨rfl, rfl⟩
  · have g1 : decide ((s.size : Int) < 1) = false := by simp; omega
    by_cases h2 : 40 < s.size
    · have hk : keyE s = 100 := if_pos (Or.inr h2)
      rw [hk]
      have g2 : decide ((40 : Int) < s.size) = true := by simp; omega
      clear hk
      go_enter Tryd.func45, Tryd.ntmps45
      go_wp2
      go_ret
      exact ⟨rfl, rfl⟩
    · have hk : keyE s = 0 := if_neg (by omega)
      rw [hk]
      have g2 : decide ((40 : Int) < s.size) = false := by simp; omega
      clear hk
      go_enter Tryd.func45, Tryd.ntmps45
      go_wp2
      go_ret
      exact ⟨rfl, rfl⟩
theorem rkey_calls (s : ByteArray) (w : World) : Calls Tryd.prog 51 #[.string s] w fun e w' => e = .returned (.int .i64 (keyE s)) ∧ w = w' := by
  by_cases h1 : s.size < 1
  · have hk : keyE s = 100 := if_pos (Or.inl h1)
    rw [hk]
    have g1 : decide ((s.size : Int) < 1) = true := by simp; omega
    clear hk
    go_enter Tryd.func51, Tryd.ntmps51
    go_wp2
    go_ret
    exact ⟨rfl, rfl⟩
  · have g1 : decide ((s.size : Int) < 1) = false := by simp; omega
    by_cases h2 : 40 < s.size
    · have hk : keyE s = 100 := if_pos (Or.inr h2)
      rw [hk]
      have g2 : decide ((40 : Int) < s.size) = true := by simp; omega
      clear hk
      go_enter Tryd.func51, Tryd.ntmps51
      go_wp2
      go_ret
      exact ⟨rfl, rfl⟩
    · have hk : keyE s = 0 := if_neg (by omega)
      rw [hk]
      have g2 : decide ((40 : Int) < s.size) = false := by simp; omega
      clear hk
      go_enter Tryd.func51, Tryd.ntmps51
      go_wp2
      go_ret
      exact ⟨rfl, rfl⟩
theorem val_calls (s : ByteArray) (w : World) : Calls Tryd.prog 46 #[.string s] w fun e w' => e = .returned (.int .i64 (valE s)) ∧ w = w' := by
  by_cases h2 : 200 < s.size
  · have hk : valE s = 101 := if_pos h2
    rw [hk]
    have g2 : decide ((200 : Int) < s.size) = true := by simp; omega
    clear hk
    go_enter Tryd.func46, Tryd.ntmps46
    go_wp2
    go_ret
    exact ⟨rfl, rfl⟩
  · have hk : valE s = 0 := if_neg h2
    rw [hk]
    have g2 : decide ((200 : Int) < s.size) = false := by simp; omega
    clear hk
    go_enter Tryd.func46, Tryd.ntmps46
    go_wp2
    go_ret
    exact ⟨rfl, rfl⟩
theorem rval_calls (s : ByteArray) (w : World) : Calls Tryd.prog 52 #[.string s] w fun e w' => e = .returned (.int .i64 (valE s)) ∧ w = w' := by
  by_cases h2 : 200 < s.size
  · have hk : valE s = 101 := if_pos h2
    rw [hk]
    have g2 : decide ((200 : Int) < s.size) = true := by simp; omega
    clear hk
    go_enter Tryd.func52, Tryd.ntmps52
    go_wp2
    go_ret
    exact ⟨rfl, rfl⟩
  · have hk : valE s = 0 := if_neg h2
    rw [hk]
    have g2 : decide ((200 : Int) < s.size) = false := by simp; omega
    clear hk
    go_enter Tryd.func52, Tryd.ntmps52
    go_wp2
    go_ret
    exact ⟨rfl, rfl⟩
theorem holds_calls (b : Bool) (x : Int) (w : World) : Calls Tryd.prog 48 #[.bool b, .int .i64 x] w fun e w' => e = .returned (.int .i64 (whenE (!b) x)) ∧ w = w' := by
  cases b with
  | true =>
    go_enter Tryd.func48, Tryd.ntmps48
    go_wp2
    go_ret
    exact ⟨rfl, rfl⟩
  | false =>
    go_enter Tryd.func48, Tryd.ntmps48
    go_wp2
    go_ret
    exact ⟨rfl, rfl⟩
theorem when_calls (b : Bool) (x : Int) (w : World) : Calls Tryd.prog 53 #[.bool b, .int .i64 x] w fun e w' => e = .returned (.int .i64 (whenE b x)) ∧ w = w' := by
  cases b with
  | true =>
    go_enter Tryd.func53, Tryd.ntmps53
    go_wp2
    go_ret
    exact ⟨rfl, rfl⟩
  | false =>
    go_enter Tryd.func53, Tryd.ntmps53
    go_wp2
    go_ret
    exact ⟨rfl, rfl⟩
theorem within_calls (n m x : Int) (w : World) : Calls Tryd.prog 47 #[.int .i64 n, .int .i64 m, .int .i64 x] w fun e w' => e = .returned (.int .i64 (whenE (decide (n < 0) || decide (m < n)) x)) ∧ w = w' := by
  obtain ⟨b1, h1⟩ : ∃ b, b = decide (n < 0) := ⟨_, rfl⟩
  obtain ⟨b2, h2⟩ : ∃ b, b = decide (m < n) := ⟨_, rfl⟩
  rw [← h1, ← h2]
  replace h1 := h1.symm
  replace h2 := h2.symm
  cases b1 with
  | true =>
    clear h2
    go_enter Tryd.func47, Tryd.ntmps47
    go_wp2
    go_ret
    exact ⟨rfl, rfl⟩
  | false =>
    cases b2 with
    | true =>
      go_enter Tryd.func47, Tryd.ntmps47
      go_wp2
      go_ret
      exact ⟨rfl, rfl⟩
    | false =>
      go_enter Tryd.func47, Tryd.ntmps47
      go_wp2
      go_ret
      exact ⟨rfl, rfl⟩
theorem firstV_at : ∀ {l : List Int} {j : Nat} {x : Int}, (∀ q y, q < j → l[q]? = some y → y = 0) → l[j]? = some x → x ≠ 0 → firstV l = x
  | y :: l, 0, x, h, hx, hn => by
    simp at hx; subst hx
    show (if y = 0 then _ else y) = y
    rw [if_neg hn]
  | y :: l, j + 1, x, h, hx, hn => by
    have h0 : y = 0 := h 0 y (by omega) rfl
    subst h0
    show (if (0 : Int) = 0 then firstV l else 0) = x
    rw [if_pos rfl]
    exact firstV_at (j := j) (fun q z hq hz => h (q + 1) z (by omega) (by simpa using hz)) (by simpa using hx) hn
theorem firstV_all : ∀ {l : List Int}, (∀ x ∈ l, x = 0) → firstV l = 0
  | [], _ => rfl
  | y :: l, h => by
    have h0 : y = 0 := h y List.mem_cons_self
    subst h0
    show (if (0 : Int) = 0 then firstV l else 0) = 0
    rw [if_pos rfl]
    exact firstV_all (fun x hx => h x (List.mem_cons_of_mem _ hx))
theorem first_calls (w : World) (b n k : Nat) (l : List Int) (hn : l.length = n) (hc : ∀ j x, l[j]? = some x → w.cell? ⟨b, j, none⟩ = some (.int .i64 x)) (hl : n ≤ 100) :
    Calls Tryd.prog 44 #[.slice (some ⟨b, 0, none⟩) n k] w fun e w' => e = .returned (.int .i64 (firstV l)) ∧ w = w' := by
  have HN := Lib.hid hn; clear hn
  have HC := Lib.hid hc; clear hc
  have HFA := Lib.hid (fun j x => @firstV_at l j x)
  have HFZ := Lib.hid (@firstV_all l)
  obtain ⟨r, hr⟩ : ∃ r, r = firstV l := ⟨_, rfl⟩
  rw [← hr] at HFA HFZ ⊢
  clear hr
  go_enter Tryd.func44, Tryd.ntmps44
  go_wp2
  go_loop [7, 4] (fun i _ => ∃ j : Nat, j ≤ n ∧ i = .int .i64 j ∧ Hid (∀ q y, q < j → l[q]? = some y → y = 0)) (fun i _ => n - (intOf i).toNat)
  case atStart => exact ⟨0, Nat.zero_le _, rfl, fun q _ hq => absurd hq (Nat.not_lt_zero _)⟩
  case round =>
    obtain ⟨j, hj, rfl, hok⟩ := hrel
    by_cases hlt : j < n
    · obtain ⟨x, hx⟩ : ∃ x, l[j]? = some x := ⟨_, List.getElem?_eq_getElem (by rw [HN.out]; exact hlt)⟩
      have hcell := HC.out j x hx
      have HX := Lib.hid hx; clear hx
      by_cases h0 : x = 0
      · have g0 : (x == 0) = true := by simpa using h0
        have HE := Lib.hid h0; clear h0
        go_wp2
        go_round
        case rel =>
          refine ⟨j + 1, by omega, by go_num, fun q y hq hy => ?_⟩
          rcases Nat.lt_or_ge q j with h' | h'
          · exact hok.out q y h' hy
          · obtain rfl : q = j := by omega
            rw [HX.out] at hy; cases hy; exact HE.out
        case measure => simp [intOf]; omega
      · have hr : r = x := HFA.out j x hok.out HX.out h0
        subst hr
        have g0 : (r == 0) = false := by simpa using h0
        clear h0
        go_wp2
        go_ret
        exact ⟨rfl, rfl⟩
    · have hr : r = 0 := HFZ.out (fun x hx => by
        obtain ⟨q, hq⟩ := List.mem_iff_getElem?.1 hx
        have h1 := (List.getElem?_eq_some_iff.1 hq).1
        rw [HN.out] at h1
        exact hok.out q x (by omega) hq)
      subst hr
      go_wp2
      go_ret
      exact ⟨rfl, rfl⟩
theorem rfirst_calls (w : World) (b n k : Nat) (l : List Int) (hn : l.length = n) (hc : ∀ j x, l[j]? = some x → w.cell? ⟨b, j, none⟩ = some (.int .i64 x)) (hl : n ≤ 100) :
    Calls Tryd.prog 56 #[.slice (some ⟨b, 0, none⟩) n k] w fun e w' => e = .returned (.int .i64 (firstV l)) ∧ w = w' := by
  have HN := Lib.hid hn; clear hn
  have HC := Lib.hid hc; clear hc
  have HFA := Lib.hid (fun j x => @firstV_at l j x)
  have HFZ := Lib.hid (@firstV_all l)
  obtain ⟨r, hr⟩ : ∃ r, r = firstV l := ⟨_, rfl⟩
  rw [← hr] at HFA HFZ ⊢
  clear hr
  go_enter Tryd.func56, Tryd.ntmps56
  go_wp2
  go_loop [7, 4] (fun i _ => ∃ j : Nat, j ≤ n ∧ i = .int .i64 j ∧ Hid (∀ q y, q < j → l[q]? = some y → y = 0)) (fun i _ => n - (intOf i).toNat)
  case atStart => exact ⟨0, Nat.zero_le _, rfl, fun q _ hq => absurd hq (Nat.not_lt_zero _)⟩
  case round =>
    obtain ⟨j, hj, rfl, hok⟩ := hrel
    by_cases hlt : j < n
    · obtain ⟨x, hx⟩ : ∃ x, l[j]? = some x := ⟨_, List.getElem?_eq_getElem (by rw [HN.out]; exact hlt)⟩
      have hcell := HC.out j x hx
      have HX := Lib.hid hx; clear hx
      by_cases h0 : x = 0
      · have g0 : (x == 0) = true := by simpa using h0
        have HE := Lib.hid h0; clear h0
        go_wp2
        go_round
        case rel =>
          refine ⟨j + 1, by omega, by go_num, fun q y hq hy => ?_⟩
          rcases Nat.lt_or_ge q j with h' | h'
          · exact hok.out q y h' hy
          · obtain rfl : q = j := by omega
            rw [HX.out] at hy; cases hy; exact HE.out
        case measure => simp [intOf]; omega
      · have hr : r = x := HFA.out j x hok.out HX.out h0
        subst hr
        have g0 : (r == 0) = false := by simpa using h0
        clear h0
        go_wp2
        go_ret
        exact ⟨rfl, rfl⟩
    · have hr : r = 0 := HFZ.out (fun x hx => by
        obtain ⟨q, hq⟩ := List.mem_iff_getElem?.1 hx
        have h1 := (List.getElem?_eq_some_iff.1 hq).1
        rw [HN.out] at h1
        exact hok.out q x (by omega) hq)
      subst hr
      go_wp2
      go_ret
      exact ⟨rfl, rfl⟩
theorem cells_new (w : World) (l : List Int) (t : TypeId) (vs : Array Value) (hv : vs = (l.map (Value.int .i64)).toArray) (j : Nat) (x : Int) (h : l[j]? = some x) : (w.alloc (.cells vs t)).cell? ⟨w.heap.size, j, none⟩ = some (.int .i64 x) := by
  subst hv
  refine cell_at_new w _ t j ?_
  simp [h]
theorem first1_calls (w : World) (bb : Nat) (t : TypeId) (a : Int) (hB : Blk w bb #[.int .i64 a] t) : Calls Tryd.prog 44 #[.slice (some ⟨bb, 0, none⟩) 1 1] w fun e w' => e = .returned (.int .i64 (firstV [a])) ∧ w = w' :=
  first_calls _ bb 1 1 [a] rfl (fun j x h => hB.cell (by
    have e : (#[.int .i64 a] : Array Value) = (([a] : List Int).map (Value.int .i64)).toArray := rfl
    rw [e, List.getElem?_toArray, List.getElem?_map, h]; rfl)) (by omega)
theorem first2_calls (w : World) (bb : Nat) (t : TypeId) (a b : Int) (hB : Blk w bb #[.int .i64 a, .int .i64 b] t) : Calls Tryd.prog 44 #[.slice (some ⟨bb, 0, none⟩) 2 2] w fun e w' => e = .returned (.int .i64 (firstV [a, b])) ∧ w = w' :=
  first_calls _ bb 2 2 [a, b] rfl (fun j x h => hB.cell (by
    have e : (#[.int .i64 a, .int .i64 b] : Array Value) = (([a, b] : List Int).map (Value.int .i64)).toArray := rfl
    rw [e, List.getElem?_toArray, List.getElem?_map, h]; rfl)) (by omega)
theorem first3_calls (w : World) (bb : Nat) (t : TypeId) (a b c : Int) (hB : Blk w bb #[.int .i64 a, .int .i64 b, .int .i64 c] t) : Calls Tryd.prog 44 #[.slice (some ⟨bb, 0, none⟩) 3 3] w fun e w' => e = .returned (.int .i64 (firstV [a, b, c])) ∧ w = w' :=
  first_calls _ bb 3 3 [a, b, c] rfl (fun j x h => hB.cell (by
    have e : (#[.int .i64 a, .int .i64 b, .int .i64 c] : Array Value) = (([a, b, c] : List Int).map (Value.int .i64)).toArray := rfl
    rw [e, List.getElem?_toArray, List.getElem?_map, h]; rfl)) (by omega)
theorem first4_calls (w : World) (bb : Nat) (t : TypeId) (a b c d : Int) (hB : Blk w bb #[.int .i64 a, .int .i64 b, .int .i64 c, .int .i64 d] t) : Calls Tryd.prog 44 #[.slice (some ⟨bb, 0, none⟩) 4 4] w fun e w' => e = .returned (.int .i64 (firstV [a, b, c, d])) ∧ w = w' :=
  first_calls _ bb 4 4 [a, b, c, d] rfl (fun j x h => hB.cell (by
    have e : (#[.int .i64 a, .int .i64 b, .int .i64 c, .int .i64 d] : Array Value) = (([a, b, c, d] : List Int).map (Value.int .i64)).toArray := rfl
    rw [e, List.getElem?_toArray, List.getElem?_map, h]; rfl)) (by omega)
theorem rfirst1_calls (w : World) (bb : Nat) (t : TypeId) (a : Int) (hB : Blk w bb #[.int .i64 a] t) : Calls Tryd.prog 56 #[.slice (some ⟨bb, 0, none⟩) 1 1] w fun e w' => e = .returned (.int .i64 (firstV [a])) ∧ w = w' :=
  rfirst_calls _ bb 1 1 [a] rfl (fun j x h => hB.cell (by
    have e : (#[.int .i64 a] : Array Value) = (([a] : List Int).map (Value.int .i64)).toArray := rfl
    rw [e, List.getElem?_toArray, List.getElem?_map, h]; rfl)) (by omega)
theorem rfirst2_calls (w : World) (bb : Nat) (t : TypeId) (a b : Int) (hB : Blk w bb #[.int .i64 a, .int .i64 b] t) : Calls Tryd.prog 56 #[.slice (some ⟨bb, 0, none⟩) 2 2] w fun e w' => e = .returned (.int .i64 (firstV [a, b])) ∧ w = w' :=
  rfirst_calls _ bb 2 2 [a, b] rfl (fun j x h => hB.cell (by
    have e : (#[.int .i64 a, .int .i64 b] : Array Value) = (([a, b] : List Int).map (Value.int .i64)).toArray := rfl
    rw [e, List.getElem?_toArray, List.getElem?_map, h]; rfl)) (by omega)
theorem rfirst3_calls (w : World) (bb : Nat) (t : TypeId) (a b c : Int) (hB : Blk w bb #[.int .i64 a, .int .i64 b, .int .i64 c] t) : Calls Tryd.prog 56 #[.slice (some ⟨bb, 0, none⟩) 3 3] w fun e w' => e = .returned (.int .i64 (firstV [a, b, c])) ∧ w = w' :=
  rfirst_calls _ bb 3 3 [a, b, c] rfl (fun j x h => hB.cell (by
    have e : (#[.int .i64 a, .int .i64 b, .int .i64 c] : Array Value) = (([a, b, c] : List Int).map (Value.int .i64)).toArray := rfl
    rw [e, List.getElem?_toArray, List.getElem?_map, h]; rfl)) (by omega)
theorem rfirst4_calls (w : World) (bb : Nat) (t : TypeId) (a b c d : Int) (hB : Blk w bb #[.int .i64 a, .int .i64 b, .int .i64 c, .int .i64 d] t) : Calls Tryd.prog 56 #[.slice (some ⟨bb, 0, none⟩) 4 4] w fun e w' => e = .returned (.int .i64 (firstV [a, b, c, d])) ∧ w = w' :=
  rfirst_calls _ bb 4 4 [a, b, c, d] rfl (fun j x h => hB.cell (by
    have e : (#[.int .i64 a, .int .i64 b, .int .i64 c, .int .i64 d] : Array Value) = (([a, b, c, d] : List Int).map (Value.int .i64)).toArray := rfl
    rw [e, List.getElem?_toArray, List.getElem?_map, h]; rfl)) (by omega)
theorem cneeds_calls (s : ByteArray) (hs : s.size ≤ 1000000) (b : Bool) (w : World) (hv : VarsOk w) :
    Calls Tryd.prog 50 #[.string s, .bool b] w fun e w' => e = .returned (.int .i64 (refE s b)) ∧ Below w.heap.size w w' := by
  have HR := Lib.hid (cref_calls s hs w hv)
  have hk : refE s b = if ((refV s).2.2 || (b && emptyB s)) = true then 0 else 111 := by unfold refE refOk; rw [emptyB_eq]
  rw [hk]
  have hz : s.toList.isEmpty = emptyB s := rfl
  obtain ⟨z, hzz⟩ : ∃ z, z = emptyB s := ⟨_, rfl⟩
  rw [← hzz] at hz ⊢
  obtain ⟨⟨x, u, is⟩, hv⟩ : ∃ v, v = refV s := ⟨_, rfl⟩
  rw [← hv] at HR ⊢
  unfold refT at HR
  simp only at HR ⊢
  clear hk hzz hv
  cases is with
  | true =>
    clear hz
    go_enter Tryd.func50, Tryd.ntmps50
    go_wp2_with (go_at_call 13; refine HR.out.mono ?_; rintro e w1 ⟨rfl, hb1⟩)
    go_ret
    exact ⟨rfl, hb1⟩
  | false =>
    cases b with
    | true =>
      cases z with
      | true =>
        go_enter Tryd.func50, Tryd.ntmps50
        go_wp2_with (go_at_call 13; refine HR.out.mono ?_; rintro e w1 ⟨rfl, hb1⟩)
        go_ret
        exact ⟨rfl, hb1⟩
      | false =>
        go_enter Tryd.func50, Tryd.ntmps50
        go_wp2_with (go_at_call 13; refine HR.out.mono ?_; rintro e w1 ⟨rfl, hb1⟩)
        go_ret
        exact ⟨rfl, hb1⟩
    | false =>
      clear hz
      go_enter Tryd.func50, Tryd.ntmps50
      go_wp2_with (go_at_call 13; refine HR.out.mono ?_; rintro e w1 ⟨rfl, hb1⟩)
      go_ret
      exact ⟨rfl, hb1⟩
theorem rneeds_calls (s : ByteArray) (hs : s.size ≤ 1000000) (b : Bool) (w : World) :
    Calls Tryd.prog 55 #[.string s, .bool b] w fun e w' => e = .returned (.int .i64 (refE s b)) ∧ Below w.heap.size w w' := by
  have HR := Lib.hid (rref_calls s hs w)
  have hk : refE s b = if ((refV s).2.2 || (b && emptyB s)) = true then 0 else 111 := by unfold refE refOk; rw [emptyB_eq]
  rw [hk]
  have hz : s.toList.isEmpty = emptyB s := rfl
  obtain ⟨z, hzz⟩ : ∃ z, z = emptyB s := ⟨_, rfl⟩
  rw [← hzz] at hz ⊢
  obtain ⟨⟨x, u, is⟩, hv⟩ : ∃ v, v = refV s := ⟨_, rfl⟩
  rw [← hv] at HR ⊢
  unfold refT at HR
  simp only at HR ⊢
  clear hk hzz hv
  cases is with
  | true =>
    clear hz
    go_enter Tryd.func55, Tryd.ntmps55
    go_wp2_with (go_at_call 14; refine HR.out.mono ?_; rintro e w1 ⟨rfl, hb1⟩)
    go_ret
    exact ⟨rfl, hb1⟩
  | false =>
    cases b with
    | true =>
      cases z with
      | true =>
        go_enter Tryd.func55, Tryd.ntmps55
        go_wp2_with (go_at_call 14; refine HR.out.mono ?_; rintro e w1 ⟨rfl, hb1⟩)
        go_ret
        exact ⟨rfl, hb1⟩
      | false =>
        go_enter Tryd.func55, Tryd.ntmps55
        go_wp2_with (go_at_call 14; refine HR.out.mono ?_; rintro e w1 ⟨rfl, hb1⟩)
        go_ret
        exact ⟨rfl, hb1⟩
    | false =>
      clear hz
      go_enter Tryd.func55, Tryd.ntmps55
      go_wp2_with (go_at_call 14; refine HR.out.mono ?_; rintro e w1 ⟨rfl, hb1⟩)
      go_ret
      exact ⟨rfl, hb1⟩
def bN (k : Int) : Bool := [(6 : Int), (7 : Int), (16 : Int), (18 : Int), (8 : Int), (9 : Int)].contains k
def bO (k : Int) : Bool := [(6 : Int), (7 : Int), (16 : Int), (18 : Int), (10 : Int), (14 : Int), (15 : Int), (11 : Int), (17 : Int)].contains k
def bK (k : Int) : Bool := [(1 : Int), (2 : Int), (3 : Int), (4 : Int), (12 : Int)].contains k
def bV (k : Int) : Bool := [(1 : Int), (4 : Int), (12 : Int), (5 : Int)].contains k
def bI (k : Int) : Bool := [(4 : Int), (12 : Int), (11 : Int), (17 : Int)].contains k
def isK (k : Int) : Bool := decide (1 ≤ k) && decide (k ≤ 20)
theorem kinds (k : Int) : (1 ≤ k ∧ k ≤ 20) ∨ (k < 1 ∨ 20 < k) := by omega
theorem isK_no {k : Int} (h : k < 1 ∨ 20 < k) : isK k = false := by unfold isK; rcases h with h | h <;> simp <;> omega
theorem kind_cases {k : Int} (h1 : 1 ≤ k) (h2 : k ≤ 20) : k = 1 ∨ k = 2 ∨ k = 3 ∨ k = 4 ∨ k = 5 ∨ k = 6 ∨ k = 7 ∨ k = 8 ∨ k = 9 ∨ k = 10 ∨ k = 11 ∨ k = 12 ∨ k = 13 ∨ k = 14 ∨ k = 15 ∨ k = 16 ∨ k = 17 ∨ k = 18 ∨ k = 19 ∨ k = 20 := by omega
theorem kind_no {k : Int} (h : k < 1 ∨ 20 < k) : (bN k = false ∧ bO k = false ∧ bK k = false ∧ bV k = false ∧ bI k = false) := by
  refine ⟨?_, ?_, ?_, ?_, ?_⟩ <;> simp [bN, bO, bK, bV, bI] <;> omega
def namedT (k : Int) : Value := .tuple #[.agg #[.bool (bN k), .bool (bO k), .bool (bK k), .bool (bV k), .bool (bI k)], .bool (isK k)]
set_option maxHeartbeats 8000000 in
theorem named_calls (k : Int) (w : World) : Calls Tryd.prog 43 #[.int .i64 k] w fun e w' => e = .returned (namedT k) ∧ Below w.heap.size w w' := by
  rcases kinds k with ⟨h1, h2⟩ | h
  · rcases kind_cases h1 h2 with rfl | rfl | rfl | rfl | rfl | rfl | rfl | rfl | rfl | rfl | rfl | rfl | rfl | rfl | rfl | rfl | rfl | rfl | rfl | rfl
    · clear h1 h2
      have e : namedT 1 = .tuple #[.agg #[.bool false, .bool false, .bool true, .bool true, .bool false], .bool true] := rfl
      rw [e]; clear e
      go_enter Tryd.func43, Tryd.ntmps43
      go_wp2
      refine bodyPost_ret (v := .tuple #[.agg #[.bool false, .bool false, .bool true, .bool true, .bool false], .bool true]) ?_ rfl ?_
      · simp [results, Tryd.results43, go_sem]
      · exact ⟨rfl, by (repeat (first | (with_reducible exact Below.refl _ _) | (with_reducible assumption) | (with_reducible refine bel_al0 ?_ _) | (with_reducible refine bel_set ?_ (by first | (simp; done) | (simp; omega)) _) | (with_reducible refine bel_dr ?_) | (with_reducible refine bel_drn ?_ _) | (with_reducible refine bel_tr ?_ (by assumption))))⟩
    · clear h1 h2
      have e : namedT 2 = .tuple #[.agg #[.bool false, .bool false, .bool true, .bool false, .bool false], .bool true] := rfl
      rw [e]; clear e
      go_enter Tryd.func43, Tryd.ntmps43
      go_wp2
      refine bodyPost_ret (v := .tuple #[.agg #[.bool false, .bool false, .bool true, .bool false, .bool false], .bool true]) ?_ rfl ?_
      · simp [results, Tryd.results43, go_sem]
      · exact ⟨rfl, by (repeat (first | (with_reducible exact Below.refl _ _) | (with_reducible assumption) | (with_reducible refine bel_al0 ?_ _) | (with_reducible refine bel_set ?_ (by first | (simp; done) | (simp; omega)) _) | (with_reducible refine bel_dr ?_) | (with_reducible refine bel_drn ?_ _) | (with_reducible refine bel_tr ?_ (by assumption))))⟩
    · clear h1 h2
      have e : namedT 3 = .tuple #[.agg #[.bool false, .bool false, .bool true, .bool false, .bool false], .bool true] := rfl
      rw [e]; clear e
      go_enter Tryd.func43, Tryd.ntmps43
      go_wp2
      refine bodyPost_ret (v := .tuple #[.agg #[.bool false, .bool false, .bool true, .bool false, .bool false], .bool true]) ?_ rfl ?_
      · simp [results, Tryd.results43, go_sem]
      · exact ⟨rfl, by (repeat (first | (with_reducible exact Below.refl _ _) | (with_reducible assumption) | (with_reducible refine bel_al0 ?_ _) | (with_reducible refine bel_set ?_ (by first | (simp; done) | (simp; omega)) _) | (with_reducible refine bel_dr ?_) | (with_reducible refine bel_drn ?_ _) | (with_reducible refine bel_tr ?_ (by assumption))))⟩
    · clear h1 h2
      have e : namedT 4 = .tuple #[.agg #[.bool false, .bool false, .bool true, .bool true, .bool true], .bool true] := rfl
      rw [e]; clear e
      go_enter Tryd.func43, Tryd.ntmps43
      go_wp2
      refine bodyPost_ret (v := .tuple #[.agg #[.bool false, .bool false, .bool true, .bool true, .bool true], .bool true]) ?_ rfl ?_
      · simp [results, Tryd.results43, go_sem]
      · exact ⟨rfl, by (repeat (first | (with_reducible exact Below.refl _ _) | (with_reducible assumption) | (with_reducible refine bel_al0 ?_ _) | (with_reducible refine bel_set ?_ (by first | (simp; done) | (simp; omega)) _) | (with_reducible refine bel_dr ?_) | (with_reducible refine bel_drn ?_ _) | (with_reducible refine bel_tr ?_ (by assumption))))⟩
    · clear h1 h2
      have e : namedT 5 = .tuple #[.agg #[.bool false, .bool false, .bool false, .bool true, .bool false], .bool true] := rfl
      rw [e]; clear e
      go_enter Tryd.func43, Tryd.ntmps43
      go_wp2
      refine bodyPost_ret (v := .tuple #[.agg #[.bool false, .bool false, .bool false, .bool true, .bool false], .bool true]) ?_ rfl ?_
      · simp [results, Tryd.results43, go_sem]
      · exact ⟨rfl, by (repeat (first | (with_reducible exact Below.refl _ _) | (with_reducible assumption) | (with_reducible refine bel_al0 ?_ _) | (with_reducible refine bel_set ?_ (by first | (simp; done) | (simp; omega)) _) | (with_reducible refine bel_dr ?_) | (with_reducible refine bel_drn ?_ _) | (with_reducible refine bel_tr ?_ (by assumption))))⟩
    · clear h1 h2
      have e : namedT 6 = .tuple #[.agg #[.bool true, .bool true, .bool false, .bool false, .bool false], .bool true] := rfl
      rw [e]; clear e
      go_enter Tryd.func43, Tryd.ntmps43
      go_wp2
      refine bodyPost_ret (v := .tuple #[.agg #[.bool true, .bool true, .bool false, .bool false, .bool false], .bool true]) ?_ rfl ?_
      · simp [results, Tryd.results43, go_sem]
      · exact ⟨rfl, by (repeat (first | (with_reducible exact Below.refl _ _) | (with_reducible assumption) | (with_reducible refine bel_al0 ?_ _) | (with_reducible refine bel_set ?_ (by first | (simp; done) | (simp; omega)) _) | (with_reducible refine bel_dr ?_) | (with_reducible refine bel_drn ?_ _) | (with_reducible refine bel_tr ?_ (by assumption))))⟩
    · clear h1 h2
      have e : namedT 7 = .tuple #[.agg #[.bool true, .bool true, .bool false, .bool false, .bool false], .bool true] := rfl
      rw [e]; clear e
      go_enter Tryd.func43, Tryd.ntmps43
      go_wp2
      refine bodyPost_ret (v := .tuple #[.agg #[.bool true, .bool true, .bool false, .bool false, .bool false], .bool true]) ?_ rfl ?_
      · simp [results, Tryd.results43, go_sem]
      · exact ⟨rfl, by (repeat (first | (with_reducible exact Below.refl _ _) | (with_reducible assumption) | (with_reducible refine bel_al0 ?_ _) | (with_reducible refine bel_set ?_ (by first | (simp; done) | (simp; omega)) _) | (with_reducible refine bel_dr ?_) | (with_reducible refine bel_drn ?_ _) | (with_reducible refine bel_tr ?_ (by assumption))))⟩
    · clear h1 h2
      have e : namedT 8 = .tuple #[.agg #[.bool true, .bool false, .bool false, .bool false, .bool false], .bool true] := rfl
      rw [e]; clear e
      go_enter Tryd.func43, Tryd.ntmps43
      go_wp2
      refine bodyPost_ret (v := .tuple #[.agg #[.bool true, .bool false, .bool false, .bool false, .bool false], .bool true]) ?_ rfl ?_
      · simp [results, Tryd.results43, go_sem]
      · exact ⟨rfl, by (repeat (first | (with_reducible exact Below.refl _ _) | (with_reducible assumption) | (with_reducible refine bel_al0 ?_ _) | (with_reducible refine bel_set ?_ (by first | (simp; done) | (simp; omega)) _) | (with_reducible refine bel_dr ?_) | (with_reducible refine bel_drn ?_ _) | (with_reducible refine bel_tr ?_ (by assumption))))⟩
    · clear h1 h2
      have e : namedT 9 = .tuple #[.agg #[.bool true, .bool false, .bool false, .bool false, .bool false], .bool true] := rfl
      rw [e]; clear e
      go_enter Tryd.func43, Tryd.ntmps43
      go_wp2
      refine bodyPost_ret (v := .tuple #[.agg #[.bool true, .bool false, .bool false, .bool false, .bool false], .bool true]) ?_ rfl ?_
      · simp [results, Tryd.results43, go_sem]
      · exact ⟨rfl, by (repeat (first | (with_reducible exact Below.refl _ _) | (with_reducible assumption) | (with_reducible refine bel_al0 ?_ _) | (with_reducible refine bel_set ?_ (by first | (simp; done) | (simp; omega)) _) | (with_reducible refine bel_dr ?_) | (with_reducible refine bel_drn ?_ _) | (with_reducible refine bel_tr ?_ (by assumption))))⟩
    · clear h1 h2
      have e : namedT 10 = .tuple #[.agg #[.bool false, .bool true, .bool false, .bool false, .bool false], .bool true] := rfl
      rw [e]; clear e
      go_enter Tryd.func43, Tryd.ntmps43
      go_wp2
      refine bodyPost_ret (v := .tuple #[.agg #[.bool false, .bool true, .bool false, .bool false, .bool false], .bool true]) ?_ rfl ?_
      · simp [results, Tryd.results43, go_sem]
      · exact ⟨rfl, by (repeat (first | (with_reducible exact Below.refl _ _) | (with_reducible assumption) | (with_reducible refine bel_al0 ?_ _) | (with_reducible refine bel_set ?_ (by first | (simp; done) | (simp; omega)) _) | (with_reducible refine bel_dr ?_) | (with_reducible refine bel_drn ?_ _) | (with_reducible refine bel_tr ?_ (by assumption))))⟩
    · clear h1 h2
      have e : namedT 11 = .tuple #[.agg #[.bool false, .bool true, .bool false, .bool false, .bool true], .bool true] := rfl
      rw [e]; clear e
      go_enter Tryd.func43, Tryd.ntmps43
      go_wp2
      refine bodyPost_ret (v := .tuple #[.agg #[.bool false, .bool true, .bool false, .bool false, .bool true], .bool true]) ?_ rfl ?_
      · simp [results, Tryd.results43, go_sem]
      · exact ⟨rfl, by (repeat (first | (with_reducible exact Below.refl _ _) | (with_reducible assumption) | (with_reducible refine bel_al0 ?_ _) | (with_reducible refine bel_set ?_ (by first | (simp; done) | (simp; omega)) _) | (with_reducible refine bel_dr ?_) | (with_reducible refine bel_drn ?_ _) | (with_reducible refine bel_tr ?_ (by assumption))))⟩
    · clear h1 h2
      have e : namedT 12 = .tuple #[.agg #[.bool false, .bool false, .bool true, .bool true, .bool true], .bool true] := rfl
      rw [e]; clear e
      go_enter Tryd.func43, Tryd.ntmps43
      go_wp2
      refine bodyPost_ret (v := .tuple #[.agg #[.bool false, .bool false, .bool true, .bool true, .bool true], .bool true]) ?_ rfl ?_
      · simp [results, Tryd.results43, go_sem]
      · exact ⟨rfl, by (repeat (first | (with_reducible exact Below.refl _ _) | (with_reducible assumption) | (with_reducible refine bel_al0 ?_ _) | (with_reducible refine bel_set ?_ (by first | (simp; done) | (simp; omega)) _) | (with_reducible refine bel_dr ?_) | (with_reducible refine bel_drn ?_ _) | (with_reducible refine bel_tr ?_ (by assumption))))⟩
    · clear h1 h2
      have e : namedT 13 = .tuple #[.agg #[.bool false, .bool false, .bool false, .bool false, .bool false], .bool true] := rfl
      rw [e]; clear e
      go_enter Tryd.func43, Tryd.ntmps43
      go_wp2
      refine bodyPost_ret (v := .tuple #[.agg #[.bool false, .bool false, .bool false, .bool false, .bool false], .bool true]) ?_ rfl ?_
      · simp [results, Tryd.results43, go_sem]
      · exact ⟨rfl, by (repeat (first | (with_reducible exact Below.refl _ _) | (with_reducible assumption) | (with_reducible refine bel_al0 ?_ _) | (with_reducible refine bel_set ?_ (by first | (simp; done) | (simp; omega)) _) | (with_reducible refine bel_dr ?_) | (with_reducible refine bel_drn ?_ _) | (with_reducible refine bel_tr ?_ (by assumption))))⟩
    · clear h1 h2
      have e : namedT 14 = .tuple #[.agg #[.bool false, .bool true, .bool false, .bool false, .bool false], .bool true] := rfl
      rw [e]; clear e
      go_enter Tryd.func43, Tryd.ntmps43
      go_wp2
      refine bodyPost_ret (v := .tuple #[.agg #[.bool false, .bool true, .bool false, .bool false, .bool false], .bool true]) ?_ rfl ?_
      · simp [results, Tryd.results43, go_sem]
      · exact ⟨rfl, by (repeat (first | (with_reducible exact Below.refl _ _) | (with_reducible assumption) | (with_reducible refine bel_al0 ?_ _) | (with_reducible refine bel_set ?_ (by first | (simp; done) | (simp; omega)) _) | (with_reducible refine bel_dr ?_) | (with_reducible refine bel_drn ?_ _) | (with_reducible refine bel_tr ?_ (by assumption))))⟩
    · clear h1 h2
      have e : namedT 15 = .tuple #[.agg #[.bool false, .bool true, .bool false, .bool false, .bool false], .bool true] := rfl
      rw [e]; clear e
      go_enter Tryd.func43, Tryd.ntmps43
      go_wp2
      refine bodyPost_ret (v := .tuple #[.agg #[.bool false, .bool true, .bool false, .bool false, .bool false], .bool true]) ?_ rfl ?_
      · simp [results, Tryd.results43, go_sem]
      · exact ⟨rfl, by (repeat (first | (with_reducible exact Below.refl _ _) | (with_reducible assumption) | (with_reducible refine bel_al0 ?_ _) | (with_reducible refine bel_set ?_ (by first | (simp; done) | (simp; omega)) _) | (with_reducible refine bel_dr ?_) | (with_reducible refine bel_drn ?_ _) | (with_reducible refine bel_tr ?_ (by assumption))))⟩
    · clear h1 h2
      have e : namedT 16 = .tuple #[.agg #[.bool true, .bool true, .bool false, .bool false, .bool false], .bool true] := rfl
      rw [e]; clear e
      go_enter Tryd.func43, Tryd.ntmps43
      go_wp2
      refine bodyPost_ret (v := .tuple #[.agg #[.bool true, .bool true, .bool false, .bool false, .bool false], .bool true]) ?_ rfl ?_
      · simp [results, Tryd.results43, go_sem]
      · exact ⟨rfl, by (repeat (first | (with_reducible exact Below.refl _ _) | (with_reducible assumption) | (with_reducible refine bel_al0 ?_ _) | (with_reducible refine bel_set ?_ (by first | (simp; done) | (simp; omega)) _) | (with_reducible refine bel_dr ?_) | (with_reducible refine bel_drn ?_ _) | (with_reducible refine bel_tr ?_ (by assumption))))⟩
    · clear h1 h2
      have e : namedT 17 = .tuple #[.agg #[.bool false, .bool true, .bool false, .bool false, .bool true], .bool true] := rfl
      rw [e]; clear e
      go_enter Tryd.func43, Tryd.ntmps43
      go_wp2
      refine bodyPost_ret (v := .tuple #[.agg #[.bool false, .bool true, .bool false, .bool false, .bool true], .bool true]) ?_ rfl ?_
      · simp [results, Tryd.results43, go_sem]
      · exact ⟨rfl, by (repeat (first | (with_reducible exact Below.refl _ _) | (with_reducible assumption) | (with_reducible refine bel_al0 ?_ _) | (with_reducible refine bel_set ?_ (by first | (simp; done) | (simp; omega)) _) | (with_reducible refine bel_dr ?_) | (with_reducible refine bel_drn ?_ _) | (with_reducible refine bel_tr ?_ (by assumption))))⟩
    · clear h1 h2
      have e : namedT 18 = .tuple #[.agg #[.bool true, .bool true, .bool false, .bool false, .bool false], .bool true] := rfl
      rw [e]; clear e
      go_enter Tryd.func43, Tryd.ntmps43
      go_wp2
      refine bodyPost_ret (v := .tuple #[.agg #[.bool true, .bool true, .bool false, .bool false, .bool false], .bool true]) ?_ rfl ?_
      · simp [results, Tryd.results43, go_sem]
      · exact ⟨rfl, by (repeat (first | (with_reducible exact Below.refl _ _) | (with_reducible assumption) | (with_reducible refine bel_al0 ?_ _) | (with_reducible refine bel_set ?_ (by first | (simp; done) | (simp; omega)) _) | (with_reducible refine bel_dr ?_) | (with_reducible refine bel_drn ?_ _) | (with_reducible refine bel_tr ?_ (by assumption))))⟩
    · clear h1 h2
      have e : namedT 19 = .tuple #[.agg #[.bool false, .bool false, .bool false, .bool false, .bool false], .bool true] := rfl
      rw [e]; clear e
      go_enter Tryd.func43, Tryd.ntmps43
      go_wp2
      refine bodyPost_ret (v := .tuple #[.agg #[.bool false, .bool false, .bool false, .bool false, .bool false], .bool true]) ?_ rfl ?_
      · simp [results, Tryd.results43, go_sem]
      · exact ⟨rfl, by (repeat (first | (with_reducible exact Below.refl _ _) | (with_reducible assumption) | (with_reducible refine bel_al0 ?_ _) | (with_reducible refine bel_set ?_ (by first | (simp; done) | (simp; omega)) _) | (with_reducible refine bel_dr ?_) | (with_reducible refine bel_drn ?_ _) | (with_reducible refine bel_tr ?_ (by assumption))))⟩
    · clear h1 h2
      have e : namedT 20 = .tuple #[.agg #[.bool false, .bool false, .bool false, .bool false, .bool false], .bool true] := rfl
      rw [e]; clear e
      go_enter Tryd.func43, Tryd.ntmps43
      go_wp2
      refine bodyPost_ret (v := .tuple #[.agg #[.bool false, .bool false, .bool false, .bool false, .bool false], .bool true]) ?_ rfl ?_
      · simp [results, Tryd.results43, go_sem]
      · exact ⟨rfl, by (repeat (first | (with_reducible exact Below.refl _ _) | (with_reducible assumption) | (with_reducible refine bel_al0 ?_ _) | (with_reducible refine bel_set ?_ (by first | (simp; done) | (simp; omega)) _) | (with_reducible refine bel_dr ?_) | (with_reducible refine bel_drn ?_ _) | (with_reducible refine bel_tr ?_ (by assumption))))⟩
  · have hi := isK_no h
    obtain ⟨e1, e2, e3, e4, e5⟩ := kind_no h
    unfold namedT
    rw [hi, e1, e2, e3, e4, e5]
    clear hi e1 e2 e3 e4 e5
    have g1 : (k == 1) = false := by simp; omega
    have g2 : (k == 2) = false := by simp; omega
    have g3 : (k == 3) = false := by simp; omega
    have g4 : (k == 4) = false := by simp; omega
    have g5 : (k == 5) = false := by simp; omega
    have g6 : (k == 6) = false := by simp; omega
    have g7 : (k == 7) = false := by simp; omega
    have g8 : (k == 8) = false := by simp; omega
    have g9 : (k == 9) = false := by simp; omega
    have g10 : (k == 10) = false := by simp; omega
    have g11 : (k == 11) = false := by simp; omega
    have g12 : (k == 12) = false := by simp; omega
    have g13 : (k == 13) = false := by simp; omega
    have g14 : (k == 14) = false := by simp; omega
    have g15 : (k == 15) = false := by simp; omega
    have g16 : (k == 16) = false := by simp; omega
    have g17 : (k == 17) = false := by simp; omega
    have g18 : (k == 18) = false := by simp; omega
    have g19 : (k == 19) = false := by simp; omega
    have g20 : (k == 20) = false := by simp; omega
    clear h
    go_enter Tryd.func43, Tryd.ntmps43
    go_wp2
    refine bodyPost_ret (v := .tuple #[.agg #[.bool false, .bool false, .bool false, .bool false, .bool false], .bool false]) ?_ rfl ?_
    · simp [results, Tryd.results43, go_sem]
    · exact ⟨rfl, by (repeat (first | (with_reducible exact Below.refl _ _) | (with_reducible assumption) | (with_reducible refine bel_al0 ?_ _) | (with_reducible refine bel_set ?_ (by first | (simp; done) | (simp; omega)) _) | (with_reducible refine bel_dr ?_) | (with_reducible refine bel_drn ?_ _) | (with_reducible refine bel_tr ?_ (by assumption))))⟩
end Go.Proofs.YtehneliphhgegaaDoor
