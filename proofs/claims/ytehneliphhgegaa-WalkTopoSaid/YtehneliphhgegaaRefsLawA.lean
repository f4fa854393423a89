/- The statements of layer 16: their guards. -/
import Derived.Test.YtehneliphhgegaaRefsNew
set_option linter.unusedVariables false
set_option linter.unusedSimpArgs false
set_option maxRecDepth 100000
namespace Go.Proofs.Ytehneliphhgegaa
open Go.RowKit Go.Apo

def fewB (l : List RefD) : Bool := l.all (fun r => decide (r.name.size ≤ 40)) && decide (l.length ≤ 45)

theorem few16_calls (w : World) (A : Option Addr) (n c : Nat) (l : List RefD) (h : RefRow w A n l) :
    Calls Try.prog 18 #[.slice A n c] w fun e w' => e = .returned (.bool (fewB l)) ∧ Below w.heap.size w w' := by
  have hn := h.le
  go_enter Try.func18, Try.ntmps18
  go_wp2
  go_loopw [7, 4] (fun i _ wr => ∃ k : Nat, k ≤ n ∧ i = .int .i64 k ∧ Hid (∀ j r, j < k → l[j]? = some r → r.name.size ≤ 40) ∧ Below w.heap.size w wr) (fun i _ _ => n - (intOf i).toNat)
  case atStart => exact ⟨0, Nat.zero_le _, rfl, fun j _ hj => absurd hj (Nat.not_lt_zero _), by (repeat (first | (with_reducible exact Below.refl _ _) | (with_reducible assumption) | (with_reducible refine bel_al0 ?_ _) | (with_reducible refine bel_set ?_ (by first | (simp; done) | (simp; omega)) _) | (with_reducible refine bel_dr ?_) | (with_reducible refine bel_drn ?_ _) | (with_reducible refine bel_tr ?_ (by assumption))))⟩
  case round =>
    obtain ⟨k, hk, rfl, hok, hB⟩ := hrel
    by_cases hlt : k < n
    · obtain ⟨b, off, rfl, hcell⟩ := h.at_ (by omega)
      have hlk : l[k]? = some (l[k]'(by rw [h.len]; exact hlt)) := List.getElem?_eq_getElem _
      obtain ⟨r, hr⟩ : ∃ r, r = l[k]'(by rw [h.len]; exact hlt) := ⟨_, rfl⟩
      rw [← hr] at hlk
      obtain ⟨c0, c1, c2⟩ := hcell k r hlk
      replace c0 := cell_bel c0 hB
      replace c1 := cell_bel c1 hB
      replace c2 := cell_bel c2 hB
      have HL := Lib.hid hlk; clear hlk hr
      clear hcell
      by_cases h40 : r.name.size ≤ 40
      · have g1 : decide ((40 : Int) < r.name.size) = false := by simp; omega
        go_wp2
        go_roundw
        case rel =>
          refine ⟨k + 1, by omega, by go_num, fun j r' hj hj' => ?_, by (repeat (first | (with_reducible exact Below.refl _ _) | (with_reducible assumption) | (with_reducible refine bel_al0 ?_ _) | (with_reducible refine bel_set ?_ (by first | (simp; done) | (simp; omega)) _) | (with_reducible refine bel_dr ?_) | (with_reducible refine bel_drn ?_ _) | (with_reducible refine bel_tr ?_ (by assumption))))⟩
          rcases Nat.lt_or_ge j k with h' | h'
          · exact hok j r' h' hj'
          · obtain rfl : j = k := by omega
            rw [HL.out] at hj'; cases hj'; exact h40
        case measure => simp [intOf]; omega
      · have g1 : decide ((40 : Int) < r.name.size) = true := by simp; omega
        have hf : fewB l = false := by
          unfold fewB
          have : l.all (fun r => decide (r.name.size ≤ 40)) = false := by
            rw [List.all_eq_false]
            exact ⟨r, List.mem_of_getElem? HL.out, by simpa using h40⟩
          simp [this]
        have HF := Lib.hid hf; clear hf
        go_wp2
        go_ret
        exact ⟨by rw [HF.out]; rfl, by (repeat (first | (with_reducible exact Below.refl _ _) | (with_reducible assumption) | (with_reducible refine bel_al0 ?_ _) | (with_reducible refine bel_set ?_ (by first | (simp; done) | (simp; omega)) _) | (with_reducible refine bel_dr ?_) | (with_reducible refine bel_drn ?_ _) | (with_reducible refine bel_tr ?_ (by assumption))))⟩
    · have hf : fewB l = decide (l.length ≤ 45) := by
        unfold fewB
        have : l.all (fun r => decide (r.name.size ≤ 40)) = true := by
          rw [List.all_eq_true]
          intro r hr
          obtain ⟨j, hj⟩ := List.mem_iff_getElem?.1 hr
          have := (List.getElem?_eq_some_iff.1 hj).1
          have := h.len
          simpa using hok j r (by omega) hj
        simp [this]
      have hl := h.len
      have hf' : fewB l = decide ((n : Int) ≤ 45) := by rw [hf, hl]; simp; omega
      have HF := Lib.hid hf'; clear hf' hf hl
      go_wp2
      go_ret
      exact ⟨by rw [HF.out]; rfl, hB⟩

def aText : ByteArray := ⟨#[97]⟩
def a1Text : ByteArray := ⟨#[97, 45, 49]⟩
theorem nameB_a : nameB ⟨#[97]⟩ = true := by decide +kernel
theorem nameB_a1 : nameB ⟨#[97, 45, 49]⟩ = true := by decide +kernel
theorem makeE_a1 : makeE [] ⟨⟨#[97]⟩, false, 0⟩ = 0 := by unfold makeE; rw [nameB_a]; rfl
theorem makeL_a1 : makeL [] ⟨⟨#[97]⟩, false, 0⟩ = [(⟨#[97]⟩, ⟨⟨#[97]⟩, false, 0⟩)] := by unfold makeL; rw [makeE_a1]; rfl
theorem makeE_a2 : makeE [(⟨#[97]⟩, ⟨⟨#[97]⟩, false, 0⟩)] ⟨⟨#[97]⟩, false, 0⟩ = 112 := by unfold makeE; rw [nameB_a]; simp [mget_cons]

theorem refRow_nil (w : World) : RefRow w none 0 [] := ⟨rfl, by omega, fun h => absurd h (by omega)⟩

def LA : List (ByteArray × RefD) := [(⟨#[97]⟩, ⟨⟨#[97]⟩, false, 0⟩)]
theorem awake16_calls (w : World) : Calls Try.prog 17 #[] w fun e w' => e = .returned (.bool true) ∧ Below w.heap.size w w' := by
  have HN := Lib.hid (new_calls w none 0 0 [] (refRow_nil w))
  have M1 : ∀ p m W, TableAt W p m [] → Calls Try.prog 20 #[.pointer (some ⟨p, 0, none⟩), .agg #[.string ⟨#[97]⟩, .bool false, .int .u64 0]] W (Made W p m [] 0 LA) := fun p m W h => by
    have := make_calls p m W [] h ⟨#[97]⟩ false 0
    rw [makeE_a1, makeL_a1] at this; exact this
  have M2 : ∀ p m W, TableAt W p m LA → Calls Try.prog 20 #[.pointer (some ⟨p, 0, none⟩), .agg #[.string ⟨#[97]⟩, .bool false, .int .u64 0]] W (Made W p m LA 112 LA) := fun p m W h => by
    have := make_calls p m W LA h ⟨#[97]⟩ false 0
    have e : makeL LA ⟨⟨#[97]⟩, false, 0⟩ = LA := by unfold makeL LA; rw [makeE_a2]; rfl
    rw [e] at this
    unfold LA at this ⊢
    rw [makeE_a2] at this; exact this
  have N1 := name_calls ⟨#[97, 45, 49]⟩
  rw [nameB_a1] at N1
  have HM1 := Lib.hid M1; clear M1
  have HM2 := Lib.hid M2; clear M2
  have HN1 := Lib.hid N1; clear N1
  go_enter Try.func17, Try.ntmps17
  go_wp2_with fail
  refine HN.out.mono ?_
  rintro e w1 ⟨p, m, rfl, ht1, hm1, hp1, hb1⟩
  have HT1 := Lib.hid ht1; clear ht1
  go_wp2_with fail
  refine (HM1.out p m _ HT1.out).mono ?_
  rintro e w2 ⟨rfl, ht2, hb2⟩
  have HT2 := Lib.hid ht2; clear ht2
  go_wp2_with fail
  refine (HM2.out p m _ HT2.out).mono ?_
  rintro e w3 ⟨rfl, ht3, hb3⟩
  go_wp2_with fail
  refine (HN1.out _).mono ?_
  rintro e w4 ⟨rfl, hb4⟩
  go_wp2
  go_ret
  exact ⟨rfl, bel_tr (But.below (But.below hb1 (Nat.le_refl _) hm1 hb2) (Nat.le_refl _) hm1 hb3) hb4⟩
end Go.Proofs.Ytehneliphhgegaa
