/- The first ref of a name: the code's named, with slices.IndexFunc and a closure, and the document's: walked once. -/
import Derived.Test.YtehneliphhgegaaGreatDoorZKDNameG
import Derived.Test.YtehneliphhgegaaGreatDoorBase
import Derived.Test.YtehneliphhgegaaGreatDoorDFmt
import Derived.Test.YtehneliphhgegaaGreatDoorDRead
import Derived.Test.YtehneliphhgegaaGreatDoorRows2
import Derived.Test.YtehneliphhgegaaGreatDoorZGGraphAll
import Derived.Test.YtehneliphhgegaaGreatDoorZGMadeAll
import Derived.Test.YtehneliphhgegaaGreatDoorZGRefGraphAll
import Derived.Test.YtehneliphhgegaaGreatDoorZGRest
import Derived.Test.YtehneliphhgegaaGreatDoorZKDNameV
set_option linter.unusedVariables false
set_option linter.unusedSimpArgs false
set_option maxRecDepth 100000
namespace Go.Proofs.YtehneliphhgegaaGreatDoor
open Go.RowKit Go.Apo

theorem named1_calls (w : World) (B : Nat) (s : ByteArray) (hB : w.cell? ⟨B, 0, none⟩ = some (.string s)) (n : ByteArray) (t : Bool) (i : Int) :
    Calls Tryz.prog 48 #[.agg #[.string n, .bool t, .int .u64 i], .pointer (some ⟨B, 0, none⟩)] w fun e w' => e = .returned (.bool (decide (n = s))) ∧ Below w.heap.size w w' := by
  have hBl := cell_lt hB
  have htb := text_beq n s
  go_enter Tryz.func48, Tryz.ntmps48
  go_wp2
  go_ret
  exact ⟨rfl, by (repeat (first | (with_reducible exact Below.refl _ _) | (with_reducible assumption) | (with_reducible refine bel_al0 ?_ _) | (with_reducible refine bel_set ?_ (by first | (simp; done) | (simp; omega)) _) | (with_reducible refine bel_dr ?_) | (with_reducible refine bel_drn ?_ _) | (with_reducible refine bel_tr ?_ (by assumption))))⟩

theorem indexR_calls (w : World) (B : Nat) (s : ByteArray) (hB : w.cell? ⟨B, 0, none⟩ = some (.string s)) (A : Option Addr) (n c : Nat) (l : List RefD) (h : RefRow w A n l) (hn : n ≤ 100000) :
    Calls Tryz.prog 47 #[.slice A n c, .func (.func 48) #[] #[.pointer (some ⟨B, 0, none⟩)]] w fun e w' => e = .returned (.int .i64 (posR l s)) ∧ Below w.heap.size w w' := by
  have HC := Lib.hid (fun W (hW : Below w.heap.size w W) n t i => named1_calls W B s (cell_bel hB hW) n t i)
  obtain ⟨r, hr⟩ : ∃ r, r = posR l s := ⟨_, rfl⟩
  rw [← hr]
  have HR := Lib.hid hr; clear hr hB
  have HN := Lib.hid h.len
  have H := Lib.hid h.at_; clear h
  go_enter Tryz.func47, Tryz.ntmps47
  go_wp2
  go_loopw [8, 5] (fun v _ wr => ∃ j : Nat, j ≤ n ∧ v = .int .i64 j ∧ Hid (∀ (q : Nat) r, q < j → l[q]? = some r → r.name ≠ s) ∧ Below w.heap.size w wr) (fun v _ _ => n - (intOf v).toNat)
  case atStart => exact ⟨0, Nat.zero_le _, rfl, fun q _ hq => absurd hq (Nat.not_lt_zero _), by (repeat (first | (with_reducible exact Below.refl _ _) | (with_reducible assumption) | (with_reducible refine bel_al0 ?_ _) | (with_reducible refine bel_set ?_ (by first | (simp; done) | (simp; omega)) _) | (with_reducible refine bel_dr ?_) | (with_reducible refine bel_drn ?_ _) | (with_reducible refine bel_tr ?_ (by assumption))))⟩
  case round =>
    obtain ⟨j, hj, rfl, hok, hB⟩ := hrel
    by_cases hlt : j < n
    · obtain ⟨x, hx⟩ : ∃ x, l[j]? = some x := ⟨_, List.getElem?_eq_getElem (by rw [HN.out]; exact hlt)⟩
      obtain ⟨b, off, rfl, hcell⟩ := H.out (by omega)
      obtain ⟨c0, c1, c2⟩ := hcell j x hx
      replace c0 := cell_bel c0 hB
      replace c1 := cell_bel c1 hB
      replace c2 := cell_bel c2 hB
      clear hcell H
      have HC2 := Lib.hid (HC.out wr hB x.name x.tag x.id)
      have HX := Lib.hid hx; clear hx
      by_cases hy : x.name = s
      · rw [decide_eq_true hy] at HC2
        obtain rfl : r = j := by rw [HR.out]; exact posR_at HX.out hy hok.out
        clear hy
        go_wp2_with (go_at_call 48; refine HC2.out.mono ?_; rintro e w1 ⟨rfl, hb1⟩)
        go_ret
        exact ⟨rfl, by (repeat (first | (with_reducible exact Below.refl _ _) | (with_reducible assumption) | (with_reducible refine bel_al0 ?_ _) | (with_reducible refine bel_set ?_ (by first | (simp; done) | (simp; omega)) _) | (with_reducible refine bel_dr ?_) | (with_reducible refine bel_drn ?_ _) | (with_reducible refine bel_tr ?_ (by assumption))))⟩
      · rw [decide_eq_false hy] at HC2
        have HY := Lib.hid hy; clear hy
        go_wp2_with (go_at_call 48; refine HC2.out.mono ?_; rintro e w1 ⟨rfl, hb1⟩)
        go_roundw
        case rel =>
          refine ⟨j + 1, by omega, by go_num, fun q x' hq hq' => ?_, by (repeat (first | (with_reducible exact Below.refl _ _) | (with_reducible assumption) | (with_reducible refine bel_al0 ?_ _) | (with_reducible refine bel_set ?_ (by first | (simp; done) | (simp; omega)) _) | (with_reducible refine bel_dr ?_) | (with_reducible refine bel_drn ?_ _) | (with_reducible refine bel_tr ?_ (by assumption))))⟩
          rcases Nat.lt_or_ge q j with h' | h'
          · exact hok.out q x' h' hq'
          · obtain rfl : q = j := by omega
            rw [HX.out] at hq'; cases hq'; exact HY.out
        case measure => simp [intOf]; omega
    · have hr : r = -1 := by
        rw [HR.out]
        refine posR_no fun q x hq => ?_
        exact hok.out q x (by have := (List.getElem?_eq_some_iff.1 hq).1; have := HN.out; omega) hq
      subst hr
      go_wp2
      go_ret
      exact ⟨rfl, hB⟩

theorem named_calls (w : World) (A : Option Addr) (n c : Nat) (l : List RefD) (h : RefRow w A n l) (hn : n ≤ 100000) (s : ByteArray) :
    Calls Tryz.prog 22 #[.slice A n c, .string s] w fun e w' => e = .returned (idT (namedV (namedO l s))) ∧ Below w.heap.size w w' := by
  have hbs : Below w.heap.size w (w.alloc (.cells #[.string s] 9)) := by (repeat (first | (with_reducible exact Below.refl _ _) | (with_reducible assumption) | (with_reducible refine bel_al0 ?_ _) | (with_reducible refine bel_set ?_ (by first | (simp; done) | (simp; omega)) _) | (with_reducible refine bel_dr ?_) | (with_reducible refine bel_drn ?_ _) | (with_reducible refine bel_tr ?_ (by assumption))))
  have HI := Lib.hid (indexR_calls (w.alloc (.cells #[.string s] 9)) w.heap.size s (cell_at_new w _ _ 0 rfl) A n c l (h.below hbs) hn)
  rcases posR_cases l s with ⟨h1, h2, _⟩ | ⟨k, r, h1, h2, h3, h4, _⟩
  · rw [h1] at HI
    have e : namedO l s = none := by unfold namedO; rw [h2]; rfl
    rw [e]
    clear h1 h2 h e hbs
    unfold namedV idT
    go_enter Tryz.func22, Tryz.ntmps22
    go_wp2_with (go_at_call 47; refine HI.out.mono ?_; rintro e w1 ⟨rfl, hb1⟩)
    go_ret2
    exact ⟨rfl, by (repeat (first | (with_reducible exact Below.refl _ _) | (with_reducible assumption) | (with_reducible refine bel_al0 ?_ _) | (with_reducible refine bel_set ?_ (by first | (simp; done) | (simp; omega)) _) | (with_reducible refine bel_dr ?_) | (with_reducible refine bel_drn ?_ _) | (with_reducible refine bel_tr ?_ (by assumption))))⟩
  · rw [h1] at HI
    have e : namedO l s = some r.id := by unfold namedO; rw [h4]; rfl
    rw [e]
    have hkn : k < n := by have := (List.getElem?_eq_some_iff.1 h2).1; rw [h.len] at this; exact this
    obtain ⟨b, off, rfl, hcell⟩ := h.at_ (by omega)
    obtain ⟨_, _, c2⟩ := hcell k r h2
    have hbl := cell_lt c2
    have g1 : decide ((k : Int) < 0) = false := by simp
    clear h1 h2 h3 h4 h e hcell hbs
    unfold namedV idT
    go_enter Tryz.func22, Tryz.ntmps22
    go_wp2_with (go_at_call 47; refine HI.out.mono ?_; rintro e w1 ⟨rfl, hb1⟩; replace c2 := cell_bel c2 (bel_tr (by (repeat (first | (with_reducible exact Below.refl _ _) | (with_reducible assumption) | (with_reducible refine bel_al0 ?_ _) | (with_reducible refine bel_set ?_ (by first | (simp; done) | (simp; omega)) _) | (with_reducible refine bel_dr ?_) | (with_reducible refine bel_drn ?_ _) | (with_reducible refine bel_tr ?_ (by assumption)))) : Below w.heap.size w (w.alloc (.cells #[.string s] 9))) hb1))
    go_ret2
    exact ⟨rfl, by (repeat (first | (with_reducible exact Below.refl _ _) | (with_reducible assumption) | (with_reducible refine bel_al0 ?_ _) | (with_reducible refine bel_set ?_ (by first | (simp; done) | (simp; omega)) _) | (with_reducible refine bel_dr ?_) | (with_reducible refine bel_drn ?_ _) | (with_reducible refine bel_tr ?_ (by assumption))))⟩

theorem rnamed_calls (w : World) (A : Option Addr) (n c : Nat) (l : List RefD) (h : RefRow w A n l) (hn : n ≤ 100000) (s : ByteArray) :
    Calls Tryz.prog 25 #[.slice A n c, .string s] w fun e w' => e = .returned (.int .i64 (posR l s)) ∧ Below w.heap.size w w' := by
  obtain ⟨r, hr⟩ : ∃ r, r = posR l s := ⟨_, rfl⟩
  rw [← hr]
  have HR := Lib.hid hr; clear hr
  have HN := Lib.hid h.len
  have H := Lib.hid h.at_; clear h
  go_enter Tryz.func25, Tryz.ntmps25
  go_wp2
  go_loopw [9, 5, 6] (fun v _ _ wr => ∃ j : Nat, j ≤ n ∧ v = .int .i64 j ∧ Hid (∀ (q : Nat) r, q < j → l[q]? = some r → r.name ≠ s) ∧ Below w.heap.size w wr) (fun v _ _ _ => n - (intOf v).toNat)
  case atStart => exact ⟨0, Nat.zero_le _, rfl, fun q _ hq => absurd hq (Nat.not_lt_zero _), by (repeat (first | (with_reducible exact Below.refl _ _) | (with_reducible assumption) | (with_reducible refine bel_al0 ?_ _) | (with_reducible refine bel_set ?_ (by first | (simp; done) | (simp; omega)) _) | (with_reducible refine bel_dr ?_) | (with_reducible refine bel_drn ?_ _) | (with_reducible refine bel_tr ?_ (by assumption))))⟩
  case round =>
    obtain ⟨j, hj, rfl, hok, hB⟩ := hrel
    by_cases hlt : j < n
    · obtain ⟨x, hx⟩ : ∃ x, l[j]? = some x := ⟨_, List.getElem?_eq_getElem (by rw [HN.out]; exact hlt)⟩
      obtain ⟨b, off, rfl, hcell⟩ := H.out (by omega)
      obtain ⟨c0, c1, c2⟩ := hcell j x hx
      replace c0 := cell_bel c0 hB
      replace c1 := cell_bel c1 hB
      replace c2 := cell_bel c2 hB
      clear hcell H
      have HX := Lib.hid hx; clear hx
      have htb := text_beq x.name s
      by_cases hy : x.name = s
      · rw [decide_eq_true hy] at htb
        obtain rfl : r = j := by rw [HR.out]; exact posR_at HX.out hy hok.out
        clear hy
        go_wp2
        go_ret
        exact ⟨rfl, by (repeat (first | (with_reducible exact Below.refl _ _) | (with_reducible assumption) | (with_reducible refine bel_al0 ?_ _) | (with_reducible refine bel_set ?_ (by first | (simp; done) | (simp; omega)) _) | (with_reducible refine bel_dr ?_) | (with_reducible refine bel_drn ?_ _) | (with_reducible refine bel_tr ?_ (by assumption))))⟩
      · rw [decide_eq_false hy] at htb
        have HY := Lib.hid hy; clear hy
        go_wp2
        go_roundw
        case rel =>
          refine ⟨j + 1, by omega, by go_num, fun q x' hq hq' => ?_, by (repeat (first | (with_reducible exact Below.refl _ _) | (with_reducible assumption) | (with_reducible refine bel_al0 ?_ _) | (with_reducible refine bel_set ?_ (by first | (simp; done) | (simp; omega)) _) | (with_reducible refine bel_dr ?_) | (with_reducible refine bel_drn ?_ _) | (with_reducible refine bel_tr ?_ (by assumption))))⟩
          rcases Nat.lt_or_ge q j with h' | h'
          · exact hok.out q x' h' hq'
          · obtain rfl : q = j := by omega
            rw [HX.out] at hq'; cases hq'; exact HY.out
        case measure => simp [intOf]; omega
    · have hr : r = -1 := by
        rw [HR.out]
        refine posR_no fun q x hq => ?_
        exact hok.out q x (by have := (List.getElem?_eq_some_iff.1 hq).1; have := HN.out; omega) hq
      subst hr
      go_wp2
      go_ret
      exact ⟨rfl, hB⟩
end Go.Proofs.YtehneliphhgegaaGreatDoor
