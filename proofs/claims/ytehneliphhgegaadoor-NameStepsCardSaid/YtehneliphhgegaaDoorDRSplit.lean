/- The document's Split: walked once. -/
import Derived.Test.YtehneliphhgegaaDoorDSplit
set_option linter.unusedVariables false
set_option linter.unusedSimpArgs false
set_option maxRecDepth 100000
namespace Go.Proofs.YtehneliphhgegaaDoor
open Go.RowKit Go.Apo

theorem numV_empty {t : ByteArray} (h : (numV t).2 = true) : (t.toList == (⟨#[]⟩ : ByteArray).toList) = false := by
  refine text_ne fun e => ?_
  subst e
  exact absurd h (by decide +kernel)
theorem numV_empty2 {t : ByteArray} (h : (numV t).2 = true) : ¬ t.toList = [] := fun e => by
  have h1 := numV_empty h
  rw [e] at h1
  revert h1
  simp [ByteArray.toList_eq]
theorem steps_none1 {t : ByteArray} {u : Nat} (h : numV t = (u, false)) : stepsV t = none := by
  unfold stepsV
  rw [h, if_neg (by simp)]
theorem steps_none2 {t : ByteArray} {u : Nat} (h : numV t = (u, true)) (hu : 1000000 < u) : stepsV t = none := by
  unfold stepsV
  rw [h, if_neg (by rintro ⟨_, h2⟩; simp only at h2; omega)]
theorem steps_some {t : ByteArray} {u : Nat} (h : numV t = (u, true)) (hu : ¬ 1000000 < u) : stepsV t = some u := by
  unfold stepsV
  rw [h, if_pos ⟨rfl, by simp only; omega⟩]
set_option maxHeartbeats 8000000 in
theorem rsplit_calls (s : ByteArray) (hs : s.size ≤ 1000000) (w : World) :
    Calls Tryd.prog 27 #[.string s] w fun e w' => e = .returned (splitT (splitV s)) ∧ Below w.heap.size w w' := by
  have HZ := Lib.hid (cutV_size s)
  have HNO := Lib.hid (@cutV_no s)
  have HAT := Lib.hid (fun o => @cutV_at s o)
  have HTN := Lib.hid (@tildeI_none s)
  have HTA := Lib.hid (fun k => @tildeI_at s k)
  have HS0 := Lib.hid (fun f t has => @split_no s f t has)
  have HS1 := Lib.hid (fun f t => @split_front s f t)
  have HS2 := Lib.hid (fun f t => @split_tail s f t)
  have HRC := Lib.hid (fun f (hf : f.size ≤ 1000000) W => rref_calls f hf W)
  have HNC := Lib.hid (fun t (ht : t.size ≤ 1000000) W => number_calls t ht W)
  unfold refT at HRC
  obtain ⟨V, hV⟩ : ∃ V, V = cutV s := ⟨_, rfl⟩
  rw [← hV] at HZ HNO HAT HS0 HS1 HS2
  clear hV
  obtain ⟨RES, hRES⟩ : ∃ RES, RES = splitV s := ⟨_, rfl⟩
  rw [← hRES] at HS0 HS1 HS2 ⊢
  clear hRES
  go_enter Tryd.func27, Tryd.ntmps27
  go_wp2
  go_loopw [8, 5, 6, 7] (fun i f t h wr => ∃ (k : Nat) (fv tv : ByteArray) (hv : Bool), k ≤ s.size ∧ i = .int .i64 k ∧ f = .string fv ∧ t = .string tv ∧ h = .bool hv ∧ Hid (((fv, tv, hv) = (s, ⟨#[]⟩, false) ∧ ∀ j, j < k → byteAt s j ≠ 126) ∨ ((fv, tv, hv) = V ∧ hv = true)) ∧ Below w.heap.size w wr) (fun i _ _ _ _ => s.size - (intOf i).toNat)
  case atStart => exact ⟨0, s, ⟨#[]⟩, false, Nat.zero_le _, rfl, rfl, rfl, rfl, Or.inl ⟨rfl, fun j hj => absurd hj (Nat.not_lt_zero j)⟩, by (repeat (first | (with_reducible exact Below.refl _ _) | (with_reducible assumption) | (with_reducible refine bel_al0 ?_ _) | (with_reducible refine bel_set ?_ (by first | (simp; done) | (simp; omega)) _) | (with_reducible refine bel_dr ?_) | (with_reducible refine bel_drn ?_ _) | (with_reducible refine bel_tr ?_ (by assumption))))⟩
  case round =>
    obtain ⟨k, fv, tv, hv, hk, rfl, rfl, rfl, rfl, HI, hB⟩ := hrel
    by_cases hgo : k < s.size ∧ hv = false
    · obtain ⟨hlt, rfl⟩ := hgo
      have HI2 : Hid ((fv, tv, false) = (s, (⟨#[]⟩ : ByteArray), false) ∧ ∀ j, j < k → byteAt s j ≠ 126) := by
        rcases HI.out with h | ⟨_, h⟩
        · exact h
        · cases h
      obtain ⟨rfl, rfl⟩ : fv = s ∧ tv = ⟨#[]⟩ := by
        have := HI2.out.1
        simp only [Prod.mk.injEq, and_true] at this
        exact this
      have HI3 := Lib.hid HI2.out.2
      have hx := byteAt_get fv k hlt
      have hg : decide ((k : Int) < (fv.size : Int)) = true := by simp; omega
      clear HI HI2
      by_cases h1 : byteAt fv k = 126
      · have HV : Hid (V = (fv.extract 0 k, fv.extract (k + 1) fv.size, true)) := HAT.out k (HTA.out k hlt h1 HI3.out)
        rw [h1] at hx
        have e1 : IntKind.i64.wrap ((k : Int) + 1) = (k : Int) + 1 := by rw [IntKind.wrap_i64]; omega
        have ho1 : ((k : Nat) : Int) ≤ fv.size := by omega
        have ho2 : ((k + 1 : Nat) : Int) ≤ fv.size := by omega
        clear h1 HI3
        go_wp2
        go_quiet (fail)
        go_wp2
        go_roundw
        case rel => exact ⟨k + 1, _, _, true, by omega, by go_num, rfl, rfl, rfl, Or.inr ⟨HV.out.symm, rfl⟩, by (repeat (first | (with_reducible exact Below.refl _ _) | (with_reducible assumption) | (with_reducible refine bel_al0 ?_ _) | (with_reducible refine bel_set ?_ (by first | (simp; done) | (simp; omega)) _) | (with_reducible refine bel_dr ?_) | (with_reducible refine bel_drn ?_ _) | (with_reducible refine bel_tr ?_ (by assumption))))⟩
        case measure => simp [intOf]; omega
      · have g2 : (((fv[k]).toNat : Int) == 126) = false := by rw [hx]; simp; omega
        have HI4 : Hid (∀ j, j < k + 1 → byteAt fv j ≠ 126) := fun j hj => by
          rcases Nat.lt_succ_iff_lt_or_eq.1 hj with h | h
          · exact HI3.out j h
          · rw [h]; exact h1
        clear hx h1 HI3
        go_wp2
        go_roundw
        case rel => exact ⟨k + 1, _, _, false, by omega, by go_num, rfl, rfl, rfl, Or.inl ⟨rfl, HI4.out⟩, by (repeat (first | (with_reducible exact Below.refl _ _) | (with_reducible assumption) | (with_reducible refine bel_al0 ?_ _) | (with_reducible refine bel_set ?_ (by first | (simp; done) | (simp; omega)) _) | (with_reducible refine bel_dr ?_) | (with_reducible refine bel_drn ?_ _) | (with_reducible refine bel_tr ?_ (by assumption))))⟩
        case measure => simp [intOf]; omega
    · have HV : Hid (V = (fv, tv, hv)) := by
        rcases HI.out with ⟨h1, h2⟩ | ⟨h1, h2⟩
        · simp only [Prod.mk.injEq] at h1
          obtain ⟨rfl, rfl, rfl⟩ := h1
          have : ¬ k < fv.size := fun h => hgo ⟨h, rfl⟩
          exact HNO.out (HTN.out fun j hj => h2 j (by omega))
        · exact h1.symm
      have hfz : fv.size ≤ 1000000 := by have := HZ.out.1; rw [HV.out] at this; simp only at this; omega
      have htz : tv.size ≤ 1000000 := by have := HZ.out.2; rw [HV.out] at this; simp only at this; omega
      have HR := Lib.hid (HRC.out fv hfz)
      have HN := Lib.hid (HNC.out tv htz)
      have hS0 := HS0.out fv tv hv HV.out
      have hS1 := fun (e : hv = false) => HS1.out fv tv (by rw [HV.out, e])
      have hS2 := fun (e : hv = true) => HS2.out fv tv (by rw [HV.out, e])
      obtain ⟨Q, hQ⟩ : ∃ Q, Q = refV fv := ⟨_, rfl⟩
      rw [← hQ] at HR hS0 hS1 hS2
      clear hQ HI HV HZ HNO HAT HTN HTA HS0 HS1 HS2 HRC HNC hfz htz hk
      obtain ⟨rn, ri, ok⟩ := Q
      simp only at HR hS0 hS1 hS2
      have hend : k < s.size → hv = true := fun h => by
        cases hv with
        | true => rfl
        | false => exact absurd ⟨h, rfl⟩ hgo
      clear hgo
      cases ok with
      | false =>
        have HE0 := Lib.hid (hS0 rfl)
        clear hS0 hS1 hS2
        by_cases hlt : k < s.size
        · have hg : decide ((k : Int) < (s.size : Int)) = true := by simp; omega
          obtain rfl := hend hlt
          clear hend
          go_wp2_with (first | (go_at_call 14; refine (HR.out _).mono ?_; rintro e w2 ⟨rfl, hb2⟩) | (go_at_call 42; refine (HN.out _).mono ?_; rintro e w3 ⟨rfl, hb3⟩))
          go_ret3
          exact ⟨by rw [HE0.out]; rfl, bel_tr hB hb2⟩
        · have hg : decide ((k : Int) < (s.size : Int)) = false := by simp; omega
          clear hend
          go_wp2_with (first | (go_at_call 14; refine (HR.out _).mono ?_; rintro e w2 ⟨rfl, hb2⟩) | (go_at_call 42; refine (HN.out _).mono ?_; rintro e w3 ⟨rfl, hb3⟩))
          go_ret3
          exact ⟨by rw [HE0.out]; rfl, bel_tr hB hb2⟩
      | true =>
        clear hS0
        cases hv with
        | false =>
          have HE0 := Lib.hid (hS1 rfl rfl)
          have hlt : ¬ k < s.size := fun h => by cases hend h
          have hg : decide ((k : Int) < (s.size : Int)) = false := by simp; omega
          clear hend hS1 hS2
          go_wp2_with (first | (go_at_call 14; refine (HR.out _).mono ?_; rintro e w2 ⟨rfl, hb2⟩) | (go_at_call 42; refine (HN.out _).mono ?_; rintro e w3 ⟨rfl, hb3⟩))
          go_ret3
          exact ⟨by rw [HE0.out]; rfl, bel_tr hB hb2⟩
        | true =>
          have HE1 := hS2 rfl rfl
          clear hS1 hS2 hend
          have HE := Lib.hid (@numV_empty tv)
          have HE2 := Lib.hid (@numV_empty2 tv)
          have h1 := @steps_none1 tv
          have h2 := @steps_none2 tv
          have h3 := @steps_some tv
          obtain ⟨sv, hsv⟩ : ∃ sv, sv = stepsV tv := ⟨_, rfl⟩
          rw [← hsv] at h1 h2 h3 HE1
          obtain ⟨q, hq⟩ : ∃ q, q = numV tv := ⟨_, rfl⟩
          rw [← hq] at h1 h2 h3 HN HE HE2
          clear hsv hq
          obtain ⟨u, is⟩ := q
          simp only at HN HE HE2 h1 h2 h3
          cases is with
          | false =>
            rw [h1 rfl] at HE1
            have HE0 := Lib.hid HE1
            clear h1 h2 h3 HE HE1 HE2
            by_cases hlt : k < s.size
            · have hg : decide ((k : Int) < (s.size : Int)) = true := by simp; omega
              go_wp2_with (first | (go_at_call 14; refine (HR.out _).mono ?_; rintro e w2 ⟨rfl, hb2⟩) | (go_at_call 42; refine (HN.out _).mono ?_; rintro e w3 ⟨rfl, hb3⟩))
              go_ret3
              exact ⟨by rw [HE0.out]; rfl, bel_tr hB (bel_tr hb2 hb3)⟩
            · have hg : decide ((k : Int) < (s.size : Int)) = false := by simp; omega
              go_wp2_with (first | (go_at_call 14; refine (HR.out _).mono ?_; rintro e w2 ⟨rfl, hb2⟩) | (go_at_call 42; refine (HN.out _).mono ?_; rintro e w3 ⟨rfl, hb3⟩))
              go_ret3
              exact ⟨by rw [HE0.out]; rfl, bel_tr hB (bel_tr hb2 hb3)⟩
          | true =>
            have hE := HE.out rfl
            have hE2 := HE2.out rfl
            have hE3 : (tv.toList == []) = false := by simpa using hE2
            by_cases hu : 1000000 < u
            · rw [h2 rfl hu] at HE1
              have HE0 := Lib.hid HE1
              have g5 : decide ((1000000 : Int) < (u : Int)) = true := by simp; omega
              clear h1 h2 h3 HE HE1 HE2
              by_cases hlt : k < s.size
              · have hg : decide ((k : Int) < (s.size : Int)) = true := by simp; omega
                go_wp2_with (first | (go_at_call 14; refine (HR.out _).mono ?_; rintro e w2 ⟨rfl, hb2⟩) | (go_at_call 42; refine (HN.out _).mono ?_; rintro e w3 ⟨rfl, hb3⟩))
                go_ret3
                exact ⟨by rw [HE0.out]; rfl, bel_tr hB (bel_tr hb2 hb3)⟩
              · have hg : decide ((k : Int) < (s.size : Int)) = false := by simp; omega
                go_wp2_with (first | (go_at_call 14; refine (HR.out _).mono ?_; rintro e w2 ⟨rfl, hb2⟩) | (go_at_call 42; refine (HN.out _).mono ?_; rintro e w3 ⟨rfl, hb3⟩))
                go_ret3
                exact ⟨by rw [HE0.out]; rfl, bel_tr hB (bel_tr hb2 hb3)⟩
            · rw [h3 rfl hu] at HE1
              have HE0 := Lib.hid HE1
              have g5 : decide ((1000000 : Int) < (u : Int)) = false := by simp; omega
              have e5 : IntKind.i64.wrap ((u : Nat) : Int) = (u : Int) := by rw [IntKind.wrap_i64]; omega
              clear h1 h2 h3 HE HE1 HE2
              by_cases hlt : k < s.size
              · have hg : decide ((k : Int) < (s.size : Int)) = true := by simp; omega
                go_wp2_with (first | (go_at_call 14; refine (HR.out _).mono ?_; rintro e w2 ⟨rfl, hb2⟩) | (go_at_call 42; refine (HN.out _).mono ?_; rintro e w3 ⟨rfl, hb3⟩))
                go_ret3
                exact ⟨by rw [HE0.out]; rfl, bel_tr hB (bel_tr hb2 hb3)⟩
              · have hg : decide ((k : Int) < (s.size : Int)) = false := by simp; omega
                go_wp2_with (first | (go_at_call 14; refine (HR.out _).mono ?_; rintro e w2 ⟨rfl, hb2⟩) | (go_at_call 42; refine (HN.out _).mono ?_; rintro e w3 ⟨rfl, hb3⟩))
                go_ret3
                exact ⟨by rw [HE0.out]; rfl, bel_tr hB (bel_tr hb2 hb3)⟩
end Go.Proofs.YtehneliphhgegaaDoor
