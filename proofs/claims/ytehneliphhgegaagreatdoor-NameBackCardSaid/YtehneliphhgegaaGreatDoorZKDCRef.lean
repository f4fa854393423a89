/- command.Ref: walked once; it says what the document says. -/
import Derived.Test.YtehneliphhgegaaGreatDoorZKDRef
import Derived.Test.YtehneliphhgegaaGreatDoorBase
import Derived.Test.YtehneliphhgegaaGreatDoorDFmt
import Derived.Test.YtehneliphhgegaaGreatDoorDName
import Derived.Test.YtehneliphhgegaaGreatDoorDRead
import Derived.Test.YtehneliphhgegaaGreatDoorRows2
import Derived.Test.YtehneliphhgegaaGreatDoorShelf
import Derived.Test.YtehneliphhgegaaGreatDoorZGGraphAll
import Derived.Test.YtehneliphhgegaaGreatDoorZGMadeAll
import Derived.Test.YtehneliphhgegaaGreatDoorZGRefGraphAll
import Derived.Test.YtehneliphhgegaaGreatDoorZGRest
import Derived.Test.YtehneliphhgegaaGreatDoorZKDNum
set_option linter.unusedVariables false
set_option linter.unusedSimpArgs false
set_option maxRecDepth 100000
namespace Go.Proofs.YtehneliphhgegaaGreatDoor
open Go.RowKit Go.Apo

/-- what the program takes for digits -/
def cutS (s : ByteArray) : ByteArray := ⟨(Lib.trimPrefix s.data.toList [64]).toArray⟩
theorem cutS_size (s : ByteArray) : (cutS s).size ≤ s.size := by
  unfold cutS Lib.trimPrefix
  have h : s.data.toList.length = s.size := rfl
  split
  · show (List.drop _ _).toArray.size ≤ _
    simp
  · show s.data.toList.toArray.size ≤ _
    simp
theorem prefix_no {s : ByteArray} (h : s.size < 1 ∨ byteAt s 0 ≠ 64) : Lib.hasPrefix s.data.toList [64] = false := by
  unfold Lib.hasPrefix
  cases hl : s.data.toList with
  | nil => rfl
  | cons c l =>
    have hc : byteAt s 0 = c.toNat := by unfold byteAt; rw [hl]; rfl
    have hz : ¬ s.size < 1 := by
      have : s.data.toList.length = s.size := rfl
      rw [hl] at this; simp at this; omega
    rcases h with h | h
    · exact absurd h hz
    · rw [hc] at h
      have : (64 : UInt8) ≠ c := fun e => h (by rw [← e]; rfl)
      simp [List.isPrefixOf, this]
theorem prefix_yes {s : ByteArray} (h0 : 1 ≤ s.size) (h : byteAt s 0 = 64) : Lib.hasPrefix s.data.toList [64] = true ∧ cutS s = tailS s := by
  have h1 : Lib.hasPrefix s.data.toList [64] = true := by
    unfold Lib.hasPrefix
    cases hl : s.data.toList with
    | nil => have : s.data.toList.length = s.size := rfl; rw [hl] at this; simp at this; omega
    | cons c l =>
      have hc : byteAt s 0 = c.toNat := by unfold byteAt; rw [hl]; rfl
      rw [hc] at h
      have : (64 : UInt8) = c := by
        apply UInt8.toNat_inj.1
        rw [h]; rfl
      simp [List.isPrefixOf, this]
  refine ⟨h1, ?_⟩
  unfold cutS tailS Lib.trimPrefix
  rw [if_pos h1]
  apply ByteArray.ext
  apply Array.ext'
  rw [ByteArray.data_extract]
  simp
  exact (List.take_of_length_le (by have : s.data.toList.length = s.size := rfl; simp)).symm
/-- an error, or none -/
def PPost (w : World) (d : ByteArray) (e : Ending) (w' : World) : Prop :=
  ∃ (x : Int) (v : Value), e = .returned (.tuple #[.int .u64 x, v]) ∧ Below w.heap.size w w' ∧ ((∃ u : Nat, Lib.parseUintB 64 d.data.toList = .ok u ∧ x = u ∧ v = .nilIface) ∨ ((∀ u, Lib.parseUintB 64 d.data.toList ≠ .ok u) ∧ ∃ t p, v = .iface t p))
theorem parse_calls (d : ByteArray) (hd : d.size ≤ 1000000) (w : World) (hv : VarsOk w) :
    Calls Tryz.prog 45 #[.string d, .int .i64 10, .int .i64 64] w (PPost w d) := by
  cases h : Lib.parseUintB 64 d.data.toList with
  | ok u =>
    refine (Tryz.strconv_ParseUint_10_at64_ok d (by omega) u h w).mono ?_
    rintro e w' ⟨rfl, hw⟩
    refine ⟨u, .nilIface, rfl, ?_, Or.inl ⟨u, h, rfl, rfl⟩⟩
    rcases hw with rfl | rfl
    · exact Below.refl _ _
    · exact Lib.bytesWorld_below w _ d
  | range =>
    obtain ⟨te, pe, hc⟩ := hv.er
    refine (Tryz.strconv_ParseUint_10_at64_range d (by omega) h _ w hc (Or.inr ⟨te, pe, rfl⟩)).mono ?_
    rintro e w' ⟨N, rfl, _, _, hb⟩
    exact ⟨_, _, rfl, hb, Or.inr ⟨fun u hu => (by rw [h] at hu; cases hu), _, _, rfl⟩⟩
  | _ =>
    obtain ⟨te, pe, hc⟩ := hv.es
    refine (Tryz.strconv_ParseUint_10_at64_syntax d (by omega) h _ w hc (Or.inr ⟨te, pe, rfl⟩)).mono ?_
    rintro e w' ⟨N, rfl, _, _, hb⟩
    exact ⟨_, _, rfl, hb, Or.inr ⟨fun u hu => (by rw [h] at hu; cases hu), _, _, rfl⟩⟩
theorem parse_lt {d : ByteArray} {u : Nat} (h : Lib.parseUintB 64 d.data.toList = .ok u) : u < 18446744073709551616 := by
  have eM : (2 : Nat) ^ 64 - 1 = 18446744073709551615 := by decide
  unfold Lib.parseUintB at h
  split at h
  · cases h
  · rw [eM] at h
    exact numRun_lt _ 0 u (by omega) (numRun_of_parse _ _ _ h)
theorem ref_no {s : ByteArray} (h1 : nameB s = false) (h : ¬ ∃ u, u ≠ 0 ∧ 1 ≤ s.size ∧ byteAt s 0 = 64 ∧ numV (tailS s) = (u, true)) : refV s = refBad := by
  unfold refV
  rw [if_neg (by rw [h1]; simp)]
  by_cases h2 : s.size < 2 ∨ byteAt s 0 ≠ 64
  · rw [if_pos h2]
  · rw [if_neg h2]
    by_cases h3 : (numV (tailS s)).2 = false ∨ (numV (tailS s)).1 = 0
    · rw [if_pos h3]
    · exfalso
      refine h ⟨(numV (tailS s)).1, fun e => h3 (Or.inr e), by omega, by omega, ?_⟩
      have : (numV (tailS s)).2 = true := by
        cases hh : (numV (tailS s)).2
        · exact absurd (Or.inl hh) h3
        · rfl
      rw [← this]
theorem ref_yes {s : ByteArray} {u : Nat} (h1 : nameB s = false) (hu : u ≠ 0) (h0 : 1 ≤ s.size) (h : byteAt s 0 = 64) (hn : numV (tailS s) = (u, true)) : refV s = (⟨#[]⟩, u, true) := by
  have h2 : 2 ≤ s.size := by
    rcases Nat.lt_or_ge s.size 2 with h' | h'
    · exfalso
      have ht : tailS s = ⟨#[]⟩ := by
        apply ByteArray.ext
        apply Array.eq_empty_of_size_eq_zero
        have : (tailS s).size = 0 := by unfold tailS; rw [ByteArray.size_extract]; omega
        exact this
      rw [ht] at hn
      have : numV ⟨#[]⟩ = (0, false) := by decide +kernel
      rw [this] at hn
      cases hn
    · exact h'
  unfold refV
  rw [if_neg (by rw [h1]; simp), if_neg (by omega), hn, if_neg (by simp [hu])]
set_option maxHeartbeats 4000000 in
theorem cref_calls (s : ByteArray) (hs : s.size ≤ 1000000) (w : World) (hv : VarsOk w) :
    Calls Tryz.prog 21 #[.string s] w fun e w' => e = .returned (refT (refV s)) ∧ Below w.heap.size w w' := by
  have HN := Lib.hid (fun W => name_calls s W)
  by_cases h1 : nameB s = true
  · have hvv : refV s = (s, 0, true) := by unfold refV; rw [if_pos h1]
    rw [hvv]
    rw [h1] at HN
    clear h1 hvv hv
    unfold refT
    go_enter Tryz.func21, Tryz.ntmps21
    go_wp2_with (go_at_call 27; refine (HN.out _).mono ?_; rintro e w1 ⟨rfl, hb1⟩)
    go_ret3
    exact ⟨rfl, hb1⟩
  · have h1' : nameB s = false := by simpa using h1
    rw [h1'] at HN
    have hcl := cutS_size s
    have HC := Lib.hid (fun W => Tryz.strings_CutPrefix s ⟨#[64]⟩ W)
    have HP := Lib.hid (fun W (hW : Below w.heap.size w W) => parse_calls (cutS s) (by omega) W (hv.below hW))
    have HFM := Lib.hid (fun W (hW : Below w.heap.size w W) u hu => fmt_calls u hu W (hv.below hW))
    have HTB := Lib.hid (fun u => text_beq (dec u) (cutS s))
    have e64 : (⟨#[64]⟩ : ByteArray).data.toList = [64] := rfl
    rw [e64] at HC
    have ec : (⟨(Lib.trimPrefix s.data.toList [64]).toArray⟩ : ByteArray) = cutS s := rfl
    rw [ec] at HC
    have HRN := Lib.hid (ref_no h1')
    have HRY := Lib.hid (fun u => ref_yes (u := u) h1')
    have hpn := @prefix_no s
    have hpy := @prefix_yes s
    have HPI := Lib.hid (fun u hu => parse_iff (cutS s) u hu)
    obtain ⟨is, his⟩ : ∃ is, is = Lib.hasPrefix s.data.toList [64] := ⟨_, rfl⟩
    rw [← his] at HC hpn hpy
    obtain ⟨d, hd⟩ : ∃ d, d = cutS s := ⟨_, rfl⟩
    rw [← hd] at HC HP HTB HPI hpy
    obtain ⟨R, hR⟩ : ∃ R, R = refV s := ⟨_, rfl⟩
    rw [← hR] at HRN HRY ⊢
    have HPN := Lib.hid hpn
    have HPY := Lib.hid hpy
    clear h1 h1' hcl ec e64 his hd hR hpn hpy hv
    unfold PPost at HP
    cases is with
    | false =>
      have hno : R = refBad := HRN.out (by
        rintro ⟨u, _, h0, h2, _⟩
        have := (HPY.out h0 h2).1
        cases this)
      subst hno
      clear HPN HPY HRN HRY
      unfold refT refBad
      go_enter Tryz.func21, Tryz.ntmps21
      go_wp2_with (first | (go_at_call 27; refine (HN.out _).mono ?_; rintro e w1 ⟨rfl, hb1⟩) | (go_at_call 44; refine (HC.out _).mono ?_; rintro e w2 ⟨rfl, rfl⟩) | (go_at_call 45; refine (HP.out _ hb1).mono ?_; rintro e w3 ⟨x, v, rfl, hb3, hp⟩; clear hp))
      go_ret3
      exact ⟨rfl, bel_tr hb1 hb3⟩
    | true =>
      obtain ⟨h0, h2⟩ : 1 ≤ s.size ∧ byteAt s 0 = 64 := by
        rcases Nat.lt_or_ge s.size 1 with h' | h'
        · have := HPN.out (Or.inl h'); cases this
        · by_cases h'' : byteAt s 0 = 64
          · exact ⟨h', h''⟩
          · have := HPN.out (Or.inr h''); cases this
      have hdt := (HPY.out h0 h2).2
      rw [← hdt] at HRN HRY
      have HRY2 := Lib.hid (fun u hu => HRY.out u hu h0 h2)
      have HRN2 : Hid ((¬ ∃ u, u ≠ 0 ∧ numV d = (u, true)) → R = refBad) := fun h => HRN.out (by rintro ⟨u, a1, _, _, a4⟩; exact h ⟨u, a1, a4⟩)
      clear HRN HRY HPN HPY hdt h0 h2
      have HK := Lib.hid (show (∃ u : Nat, Lib.parseUintB 64 d.data.toList = .ok u) ∨ (∀ u, Lib.parseUintB 64 d.data.toList ≠ .ok u) from by
        cases h : Lib.parseUintB 64 d.data.toList with
        | ok u => exact Or.inl ⟨u, rfl⟩
        | range => exact Or.inr fun u hu => by cases hu
        | _ => exact Or.inr fun u hu => by cases hu)
      rcases HK.out with ⟨u, hpu⟩ | hpn
      · have hu64 := parse_lt hpu
        have HP2 : Hid (∀ W, Below w.heap.size w W → Calls Tryz.prog 45 #[.string d, .int .i64 10, .int .i64 64] W fun e w' => e = .returned (.tuple #[.int .u64 (u : Nat), .nilIface]) ∧ Below W.heap.size W w') := fun W hW => by
          refine (HP.out W hW).mono ?_
          rintro e w' ⟨x, v, rfl, hb, hp⟩
          rcases hp with ⟨u', a1, rfl, rfl⟩ | ⟨a1, _⟩
          · rw [hpu] at a1; cases a1; exact ⟨rfl, hb⟩
          · exact absurd hpu (a1 u)
        have HFU := Lib.hid (fun W hW => HFM.out W hW u hu64)
        have HTU := Lib.hid (HTB.out u)
        have hiff := HPI.out u hu64
        clear HP HFM HTB HK HPI
        by_cases hu : u = 0
        · subst hu
          have hno : R = refBad := HRN2.out (by
            rintro ⟨u', a1, a2⟩
            have := (parse_iff d u' (by have := numV_lt d; rw [a2] at this; exact this)).2 a2
            rw [hpu] at this
            have h3 := this.1
            cases h3
            exact a1 rfl)
          subst hno
          clear hpu hiff HRY2 HRN2
          unfold refT refBad
          go_enter Tryz.func21, Tryz.ntmps21
          go_wp2_with (first | (go_at_call 27; refine (HN.out _).mono ?_; rintro e w1 ⟨rfl, hb1⟩) | (go_at_call 44; refine (HC.out _).mono ?_; rintro e w2 ⟨rfl, rfl⟩) | (go_at_call 45; refine (HP2.out _ hb1).mono ?_; rintro e w3 ⟨rfl, hb3⟩))
          go_ret3
          exact ⟨rfl, bel_tr hb1 hb3⟩
        · have g5 : ((u : Int) == 0) = false := by simp; omega
          by_cases hdu : dec u = d
          · have hyes := HRY2.out u hu (hiff.1 ⟨hpu, hdu⟩)
            have htb := HTU.out
            rw [decide_eq_true hdu] at htb
            have htb2 : (!(dec u).toList == d.toList) = false := by rw [htb]; rfl
            clear hpu hiff HRY2 HRN2 hdu HTU
            subst hyes
            unfold refT
            go_enter Tryz.func21, Tryz.ntmps21
            go_wp2_with (first | (go_at_call 27; refine (HN.out _).mono ?_; rintro e w1 ⟨rfl, hb1⟩) | (go_at_call 44; refine (HC.out _).mono ?_; rintro e w2 ⟨rfl, rfl⟩) | (go_at_call 45; refine (HP2.out _ hb1).mono ?_; rintro e w3 ⟨rfl, hb3⟩) | (go_at_call 46; refine (HFU.out _ (bel_tr hb1 hb3)).mono ?_; rintro e w4 ⟨rfl, hb4⟩))
            go_ret3
            exact ⟨rfl, bel_tr (bel_tr hb1 hb3) hb4⟩
          · have hno : R = refBad := HRN2.out (by
              rintro ⟨u', a1, a2⟩
              have := (parse_iff d u' (by have := numV_lt d; rw [a2] at this; exact this)).2 a2
              rw [hpu] at this
              have h3 := this.1
              cases h3
              exact hdu this.2)
            have htb := HTU.out
            rw [decide_eq_false hdu] at htb
            have htb2 : (!(dec u).toList == d.toList) = true := by rw [htb]; rfl
            clear hpu hiff HRY2 HRN2 hdu HTU
            subst hno
            unfold refT refBad
            go_enter Tryz.func21, Tryz.ntmps21
            go_wp2_with (first | (go_at_call 27; refine (HN.out _).mono ?_; rintro e w1 ⟨rfl, hb1⟩) | (go_at_call 44; refine (HC.out _).mono ?_; rintro e w2 ⟨rfl, rfl⟩) | (go_at_call 45; refine (HP2.out _ hb1).mono ?_; rintro e w3 ⟨rfl, hb3⟩) | (go_at_call 46; refine (HFU.out _ (bel_tr hb1 hb3)).mono ?_; rintro e w4 ⟨rfl, hb4⟩))
            go_ret3
            exact ⟨rfl, bel_tr (bel_tr hb1 hb3) hb4⟩
      · have hno : R = refBad := HRN2.out (by
          rintro ⟨u', a1, a2⟩
          exact hpn u' ((parse_iff d u' (by have := numV_lt d; rw [a2] at this; exact this)).2 a2).1)
        have HP2 : Hid (∀ W, Below w.heap.size w W → Calls Tryz.prog 45 #[.string d, .int .i64 10, .int .i64 64] W fun e w' => ∃ (x : Int) (t : TypeId) (p : Value), e = .returned (.tuple #[.int .u64 x, .iface t p]) ∧ Below W.heap.size W w') := fun W hW => by
          refine (HP.out W hW).mono ?_
          rintro e w' ⟨x, v, rfl, hb, hp⟩
          rcases hp with ⟨u', a1, _, _⟩ | ⟨_, t, p, rfl⟩
          · exact absurd a1 (hpn u')
          · exact ⟨x, t, p, rfl, hb⟩
        clear HP HFM HTB HK HPI hpn HRY2 HRN2
        subst hno
        unfold refT refBad
        go_enter Tryz.func21, Tryz.ntmps21
        go_wp2_with (first | (go_at_call 27; refine (HN.out _).mono ?_; rintro e w1 ⟨rfl, hb1⟩) | (go_at_call 44; refine (HC.out _).mono ?_; rintro e w2 ⟨rfl, rfl⟩) | (go_at_call 45; refine (HP2.out _ hb1).mono ?_; rintro e w3 ⟨x, t, pv, rfl, hb3⟩))
        go_ret3
        exact ⟨rfl, bel_tr hb1 hb3⟩
end Go.Proofs.YtehneliphhgegaaGreatDoor
