/- A name with steps: what it is, in plain words; the code's Split and the document's, walked once. -/
import Derived.Test.YtehneliphhgegaaGreatDoorZKDCut
import Derived.Test.YtehneliphhgegaaGreatDoorBase
import Derived.Test.YtehneliphhgegaaGreatDoorDFmt
import Derived.Test.YtehneliphhgegaaGreatDoorDRead
import Derived.Test.YtehneliphhgegaaGreatDoorRows2
import Derived.Test.YtehneliphhgegaaGreatDoorShelf
import Derived.Test.YtehneliphhgegaaGreatDoorZGGraphAll
import Derived.Test.YtehneliphhgegaaGreatDoorZGMadeAll
import Derived.Test.YtehneliphhgegaaGreatDoorZGRefGraphAll
import Derived.Test.YtehneliphhgegaaGreatDoorZGRest
import Derived.Test.YtehneliphhgegaaGreatDoorZKDNum
import Derived.Test.YtehneliphhgegaaGreatDoorZKDRef
import Derived.Test.YtehneliphhgegaaGreatDoorZKDCRef
set_option linter.unusedVariables false
set_option linter.unusedSimpArgs false
set_option maxRecDepth 100000
namespace Go.Proofs.YtehneliphhgegaaGreatDoor
open Go.RowKit Go.Apo

/-- how many steps a text tells -/
def stepsV (t : ByteArray) : Option Nat := if (numV t).2 = true ∧ (numV t).1 ≤ 1000000 then some (numV t).1 else none
def splitBad : ByteArray × Nat × Bool := (⟨#[]⟩, 0, false)
def splitTail (f : ByteArray) : Option Nat → ByteArray × Nat × Bool
  | none => splitBad
  | some n => (f, n, true)
/-- a name with steps -/
def splitV (s : ByteArray) : ByteArray × Nat × Bool :=
  if (refV (cutV s).1).2.2 = false then splitBad
  else if (cutV s).2.2 = false then ((cutV s).1, 0, true)
  else splitTail (cutV s).1 (stepsV (cutV s).2.1)
def splitT (v : ByteArray × Nat × Bool) : Value := .tuple #[.string v.1, .int .i64 (v.2.1 : Nat), .bool v.2.2]

theorem parse10 : ∀ (l : List UInt8) (acc : Nat), Lib.parseUint10 acc l = Lib.parseUintM 18446744073709551615 acc l
  | [], acc => by unfold Lib.parseUint10 Lib.parseUintM; rfl
  | c :: r, acc => by
    unfold Lib.parseUint10 Lib.parseUintM
    by_cases h1 : 48 ≤ c.toNat ∧ c.toNat ≤ 57
    · rw [if_pos h1, if_pos h1]
      by_cases h2 : 1844674407370955162 ≤ acc
      · rw [if_pos h2, if_pos h2]
      · rw [if_neg h2, if_neg h2]
        by_cases h3 : 18446744073709551616 ≤ acc * 10 + (c.toNat - 48)
        · rw [if_pos h3, if_pos (by omega)]
        · rw [if_neg h3, if_neg (by omega), parse10 r]
    · rw [if_neg h1, if_neg h1]
theorem atoi_dec {u : Nat} (hu : u ≤ 1000000) : Lib.atoiAll (Lib.decDigits u) = .ok (u : Int) := by
  have h := parse_dec u (by omega)
  have hne := dec_ne u
  obtain ⟨l, hl⟩ : ∃ l, l = Lib.decDigits u := ⟨_, rfl⟩
  rw [← hl] at h hne ⊢
  cases l with
  | nil => exact absurd rfl hne
  | cons c r =>
    have hc : 48 ≤ c.toNat ∧ c.toNat ≤ 57 := by
      unfold Lib.parseUintM at h
      split at h
      · assumption
      · cases h
    unfold Lib.atoiAll
    simp only
    rw [if_neg (by omega)]
    unfold Lib.parseMag
    rw [if_neg hne, parse10, h]
    simp only
    rw [if_neg (by omega), if_neg (by omega), if_neg (by omega)]
theorem steps_yes {t : ByteArray} {u : Nat} (h : stepsV t = some u) : Lib.atoiAll t.data.toList = .ok (u : Int) ∧ dec u = t ∧ u ≤ 1000000 := by
  unfold stepsV at h
  split at h
  · rename_i h1
    cases h
    have h2 : numV t = ((numV t).1, true) := Prod.ext rfl h1.1
    have h3 := (parse_iff t (numV t).1 (by omega)).2 h2
    refine ⟨?_, h3.2, h1.2⟩
    have h4 : t.data.toList = Lib.decDigits (numV t).1 := by
      conv => lhs; rw [← h3.2]
      simp [dec]
    rw [h4]
    exact atoi_dec h1.2
  · cases h
theorem steps_of {u : Nat} (hu : u ≤ 1000000) : stepsV (dec u) = some u := by
  have h : numV (dec u) = (u, true) := (parse_iff (dec u) u (by omega)).1 ⟨by
    unfold Lib.parseUintB dec
    rw [if_neg (dec_ne u)]
    exact parse_dec u (by omega), rfl⟩
  unfold stepsV
  rw [h, if_pos ⟨rfl, hu⟩]
/-- an error, or none -/
def APost (w : World) (d : ByteArray) (e : Ending) (w' : World) : Prop :=
  ∃ (x : Int) (v : Value), e = .returned (.tuple #[.int .i64 x, v]) ∧ Below w.heap.size w w' ∧ ((Lib.atoiAll d.data.toList = .ok x ∧ v = .nilIface) ∨ ((∀ u, Lib.atoiAll d.data.toList ≠ .ok u) ∧ ∃ t p, v = .iface t p))
theorem atoi_calls (d : ByteArray) (hd : d.size ≤ 1000000) (w : World) (hv : VarsOk w) :
    Calls Tryz.prog 43 #[.string d] w (APost w d) := by
  cases h : Lib.atoiAll d.data.toList with
  | ok u =>
    refine (Tryz.strconv_Atoi_ok d (by omega) u h w).mono ?_
    rintro e w' ⟨rfl, hw⟩
    refine ⟨u, .nilIface, rfl, ?_, Or.inl ⟨h, rfl⟩⟩
    rcases hw with rfl | ⟨t, rfl⟩
    · exact Below.refl _ _
    · exact Lib.bytesWorld_below w _ t
  | range =>
    obtain ⟨te, pe, hc⟩ := hv.er
    refine (Tryz.strconv_Atoi_range d (by omega) h _ w hc (Or.inr ⟨te, pe, rfl⟩)).mono ?_
    rintro e w' ⟨N, rfl, _, _, hb⟩
    exact ⟨_, _, rfl, hb, Or.inr ⟨fun u hu => (by rw [h] at hu; cases hu), _, _, rfl⟩⟩
  | _ =>
    obtain ⟨te, pe, hc⟩ := hv.es
    refine (Tryz.strconv_Atoi_syntax d (by omega) h _ w hc (Or.inr ⟨te, pe, rfl⟩)).mono ?_
    rintro e w' ⟨N, rfl, _, _, hb⟩
    exact ⟨_, _, rfl, hb, Or.inr ⟨fun u hu => (by rw [h] at hu; cases hu), _, _, rfl⟩⟩
theorem ndec_calls (u : Nat) (hu : u < 18446744073709551616) (w : World) (hv : VarsOk w) :
    Calls Tryz.prog 31 #[.int .u64 u] w fun e w' => e = .returned (.string (dec u)) ∧ Below w.heap.size w w' := by
  have HF := Lib.hid (fun W (hW : Below w.heap.size w W) => fmt_calls u hu W (hv.below hW))
  go_enter Tryz.func31, Tryz.ntmps31
  go_wp2_with (go_at_call 46; refine (HF.out _ (Below.refl _ _)).mono ?_; rintro e w1 ⟨rfl, hb1⟩)
  go_ret
  exact ⟨rfl, hb1⟩
theorem split_no {s f t : ByteArray} {has : Bool} (hc : cutV s = (f, t, has)) (h : (refV f).2.2 = false) : splitV s = splitBad := by
  unfold splitV
  rw [hc, if_pos h]
theorem split_front {s f t : ByteArray} (hc : cutV s = (f, t, false)) (h : (refV f).2.2 = true) : splitV s = (f, 0, true) := by
  unfold splitV
  rw [hc, if_neg (by simp [h]), if_pos rfl]
theorem split_tail {s f t : ByteArray} (hc : cutV s = (f, t, true)) (h : (refV f).2.2 = true) : splitV s = splitTail f (stepsV t) := by
  unfold splitV
  rw [hc, if_neg (by simp [h]), if_neg (by simp)]
set_option maxHeartbeats 4000000 in
theorem csplit_calls (s : ByteArray) (hs : s.size ≤ 1000000) (w : World) (hv : VarsOk w) :
    Calls Tryz.prog 20 #[.string s] w fun e w' => e = .returned (splitT (splitV s)) ∧ Below w.heap.size w w' := by
  have hz := cutV_size s
  have HC := Lib.hid (fun W => cut_calls s hs W)
  obtain ⟨V, hV⟩ : ∃ V, V = cutV s := ⟨_, rfl⟩
  have hV' := hV.symm
  rw [← hV] at HC hz
  clear hV
  obtain ⟨f, t, has⟩ := V
  simp only at hz
  have HR := Lib.hid (fun W (hW : Below w.heap.size w W) => cref_calls f (by omega) W (hv.below hW))
  have sn := split_no hV'
  obtain ⟨R, hR⟩ : ∃ R, R = refV f := ⟨_, rfl⟩
  have hR' := hR.symm
  rw [← hR] at HR sn
  clear hR
  obtain ⟨rn, ri, ok⟩ := R
  unfold cutT at HC
  unfold refT at HR
  simp only at HC HR sn
  cases ok with
  | false =>
    rw [sn rfl]
    clear sn hV' hR' hz
    unfold splitT splitBad
    go_enter Tryz.func20, Tryz.ntmps20
    go_wp2_with (first | (go_at_call 42; refine (HC.out _).mono ?_; rintro e w1 ⟨rfl, hb1⟩) | (go_at_call 21; refine (HR.out _ hb1).mono ?_; rintro e w2 ⟨rfl, hb2⟩))
    go_ret3
    exact ⟨rfl, bel_tr hb1 hb2⟩
  | true =>
    have hok : (refV f).2.2 = true := by rw [hR']
    clear sn
    cases has with
    | false =>
      rw [split_front hV' hok]
      clear hV' hR' hz hok
      unfold splitT
      go_enter Tryz.func20, Tryz.ntmps20
      go_wp2_with (first | (go_at_call 42; refine (HC.out _).mono ?_; rintro e w1 ⟨rfl, hb1⟩) | (go_at_call 21; refine (HR.out _ hb1).mono ?_; rintro e w2 ⟨rfl, hb2⟩))
      go_ret3
      exact ⟨rfl, bel_tr hb1 hb2⟩
    | true =>
      rw [split_tail hV' hok]
      clear hV' hR' hok
      have HA := Lib.hid (fun W (hW : Below w.heap.size w W) => atoi_calls t (by omega) W (hv.below hW))
      unfold APost at HA
      have HD := Lib.hid (fun W (hW : Below w.heap.size w W) u hu => ndec_calls u hu W (hv.below hW))
      have HTB := Lib.hid (fun u => text_beq (dec u) t)
      have HSY := Lib.hid (fun u => @steps_yes t u)
      have HSO := Lib.hid (fun u (hu : u ≤ 1000000) (h : dec u = t) => (by rw [← h]; exact steps_of hu : stepsV t = some u))
      obtain ⟨sv, hsv⟩ : ∃ sv, sv = stepsV t := ⟨_, rfl⟩
      rw [← hsv] at HSY HSO ⊢
      clear hsv hz hv
      have HK := Lib.hid (show (∃ x : Int, Lib.atoiAll t.data.toList = .ok x) ∨ (∀ x, Lib.atoiAll t.data.toList ≠ .ok x) from by
        cases h : Lib.atoiAll t.data.toList with
        | ok u => exact Or.inl ⟨u, rfl⟩
        | range => exact Or.inr fun u hu => by cases hu
        | _ => exact Or.inr fun u hu => by cases hu)
      rcases HK.out with ⟨x, hx⟩ | hno
      · have HA2 : Hid (∀ W, Below w.heap.size w W → Calls Tryz.prog 43 #[.string t] W fun e w' => e = .returned (.tuple #[.int .i64 x, .nilIface]) ∧ Below W.heap.size W w') := fun W hW => by
          refine (HA.out W hW).mono ?_
          rintro e w' ⟨x', v, rfl, hb, hp⟩
          rcases hp with ⟨a1, rfl⟩ | ⟨a1, _⟩
          · rw [hx] at a1; cases a1; exact ⟨rfl, hb⟩
          · exact absurd hx (a1 x)
        have hno : ¬ (0 ≤ x ∧ x ≤ 1000000) → sv = none := fun h => by
          cases sv with
          | none => rfl
          | some u =>
            obtain ⟨h1, _, h3⟩ := HSY.out u rfl
            rw [hx] at h1
            cases h1
            exact absurd ⟨Int.natCast_nonneg u, by omega⟩ h
        by_cases h0 : x < 0
        · have g1 : decide (x < 0) = true := by simpa using h0
          rw [hno (by omega)]
          clear HK HA HD HTB HSY HSO hno hx
          unfold splitTail splitT splitBad
          go_enter Tryz.func20, Tryz.ntmps20
          go_wp2_with (first | (go_at_call 42; refine (HC.out _).mono ?_; rintro e w1 ⟨rfl, hb1⟩) | (go_at_call 21; refine (HR.out _ hb1).mono ?_; rintro e w2 ⟨rfl, hb2⟩; have hB2 := bel_tr hb1 hb2) | (go_at_call 43; refine (HA2.out _ hB2).mono ?_; rintro e w3 ⟨rfl, hb3⟩; have hB3 := bel_tr hB2 hb3))
          go_ret3
          exact ⟨rfl, hB3⟩
        · have g1 : decide (x < 0) = false := by simpa using h0
          by_cases h1 : 1000000 < x
          · have g2 : decide (1000000 < x) = true := by simpa using h1
            rw [hno (by omega)]
            clear HK HA HD HTB HSY HSO hno hx
            unfold splitTail splitT splitBad
            go_enter Tryz.func20, Tryz.ntmps20
            go_wp2_with (first | (go_at_call 42; refine (HC.out _).mono ?_; rintro e w1 ⟨rfl, hb1⟩) | (go_at_call 21; refine (HR.out _ hb1).mono ?_; rintro e w2 ⟨rfl, hb2⟩; have hB2 := bel_tr hb1 hb2) | (go_at_call 43; refine (HA2.out _ hB2).mono ?_; rintro e w3 ⟨rfl, hb3⟩; have hB3 := bel_tr hB2 hb3))
            go_ret3
            exact ⟨rfl, hB3⟩
          · have g2 : decide (1000000 < x) = false := by simpa using h1
            obtain ⟨u, rfl⟩ : ∃ u : Nat, x = u := ⟨x.toNat, by omega⟩
            have hu : u ≤ 1000000 := by omega
            have e1 : IntKind.u64.wrap ((u : Nat) : Int) = (u : Int) := by rw [IntKind.wrap_u64]; omega
            have HD2 := Lib.hid (fun W hW => HD.out W hW u (by omega))
            have htb := HTB.out u
            by_cases hdu : dec u = t
            · rw [HSO.out u hu hdu]
              rw [decide_eq_true hdu] at htb
              have htb2 : (!(dec u).toList == t.toList) = false := by rw [htb]; rfl
              clear HK HA HD HTB HSY HSO hno hx hdu h0 h1
              unfold splitTail splitT
              go_enter Tryz.func20, Tryz.ntmps20
              go_wp2_with (first | (go_at_call 42; refine (HC.out _).mono ?_; rintro e w1 ⟨rfl, hb1⟩) | (go_at_call 21; refine (HR.out _ hb1).mono ?_; rintro e w2 ⟨rfl, hb2⟩; have hB2 := bel_tr hb1 hb2) | (go_at_call 43; refine (HA2.out _ hB2).mono ?_; rintro e w3 ⟨rfl, hb3⟩; have hB3 := bel_tr hB2 hb3) | (go_at_call 31; refine (HD2.out _ hB3).mono ?_; rintro e w4 ⟨rfl, hb4⟩))
              go_ret3
              exact ⟨rfl, bel_tr hB3 hb4⟩
            · have hn : sv = none := by
                cases sv with
                | none => rfl
                | some u' =>
                  obtain ⟨h1, h2, h3⟩ := HSY.out u' rfl
                  rw [hx] at h1
                  cases h1
                  exact absurd h2 hdu
              rw [hn]
              rw [decide_eq_false hdu] at htb
              have htb2 : (!(dec u).toList == t.toList) = true := by rw [htb]; rfl
              clear HK HA HD HTB HSY HSO hno hx hdu h0 h1 hn
              unfold splitTail splitT splitBad
              go_enter Tryz.func20, Tryz.ntmps20
              go_wp2_with (first | (go_at_call 42; refine (HC.out _).mono ?_; rintro e w1 ⟨rfl, hb1⟩) | (go_at_call 21; refine (HR.out _ hb1).mono ?_; rintro e w2 ⟨rfl, hb2⟩; have hB2 := bel_tr hb1 hb2) | (go_at_call 43; refine (HA2.out _ hB2).mono ?_; rintro e w3 ⟨rfl, hb3⟩; have hB3 := bel_tr hB2 hb3) | (go_at_call 31; refine (HD2.out _ hB3).mono ?_; rintro e w4 ⟨rfl, hb4⟩))
              go_ret3
              exact ⟨rfl, bel_tr hB3 hb4⟩
      · have HA2 : Hid (∀ W, Below w.heap.size w W → Calls Tryz.prog 43 #[.string t] W fun e w' => ∃ (x : Int) (tt : TypeId) (p : Value), e = .returned (.tuple #[.int .i64 x, .iface tt p]) ∧ Below W.heap.size W w') := fun W hW => by
          refine (HA.out W hW).mono ?_
          rintro e w' ⟨x, v, rfl, hb, hp⟩
          rcases hp with ⟨a1, _⟩ | ⟨_, tt, p, rfl⟩
          · exact absurd a1 (hno x)
          · exact ⟨x, tt, p, rfl, hb⟩
        have hn : sv = none := by
          cases sv with
          | none => rfl
          | some u' => exact absurd (HSY.out u' rfl).1 (hno _)
        rw [hn]
        clear HK HA HD HTB HSY HSO hno hn
        unfold splitTail splitT splitBad
        go_enter Tryz.func20, Tryz.ntmps20
        go_wp2_with (first | (go_at_call 42; refine (HC.out _).mono ?_; rintro e w1 ⟨rfl, hb1⟩) | (go_at_call 21; refine (HR.out _ hb1).mono ?_; rintro e w2 ⟨rfl, hb2⟩; have hB2 := bel_tr hb1 hb2) | (go_at_call 43; refine (HA2.out _ hB2).mono ?_; rintro e w3 ⟨x, tt, pv, rfl, hb3⟩; have hB3 := bel_tr hB2 hb3))
        go_ret3
        exact ⟨rfl, hB3⟩
end Go.Proofs.YtehneliphhgegaaGreatDoor
