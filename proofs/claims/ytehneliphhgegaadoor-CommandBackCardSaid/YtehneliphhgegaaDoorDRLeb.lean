/- The document's Leb: walked once; the same strict decoding ('decV'). -/
import Derived.Test.YtehneliphhgegaaDoorDOf
set_option linter.unusedVariables false
set_option linter.unusedSimpArgs false
set_option maxRecDepth 100000
namespace Go.Proofs.YtehneliphhgegaaDoor
open Go.RowKit Go.Apo

theorem tup3n {a b : Int} {x y : Value} (h : a = b) (hx : x = y) : Ending.returned (.tuple #[.int .u64 a, x, .int .i64 0]) = .returned (.tuple #[.int .u64 b, y, .int .i64 0]) := by rw [h, hx]
theorem take_snoc {l : List UInt8} {j : Nat} (h : j < l.length) : l.take (j + 1) = l.take j ++ [l[j]] := by rw [List.take_add_one]; simp [h]
theorem str_ne {a b : List UInt8} (h : a ≠ b) : ((⟨a.toArray⟩ : ByteArray).toList == (⟨b.toArray⟩ : ByteArray).toList) = false := text_ne (fun e => h (by have := congrArg (fun s : ByteArray => s.data.toList) e; simpa using this))
theorem pow_u64 {j : Nat} (h : j ≤ 9) : 128 ^ j ≤ 9223372036854775808 ∧ (j ≤ 8 → 128 ^ j ≤ 72057594037927936) := by
  rcases p128 j h with ⟨h, hp⟩ | ⟨h, hp⟩ | ⟨h, hp⟩ | ⟨h, hp⟩ | ⟨h, hp⟩ | ⟨h, hp⟩ | ⟨h, hp⟩ | ⟨h, hp⟩ | ⟨h, hp⟩ | ⟨h, hp⟩ <;> rw [hp] <;> omega
set_option maxHeartbeats 8000000 in
theorem rleb_calls (A : Option Addr) (n c : Nat) (l : List UInt8) (hn : l.length = n) (hl : n ≤ 1000000) (hc : n ≤ c) (w : World) (hf : Flat w A (Lib.byteCells l)) :
    Calls Tryd.prog 99 #[.slice A n c] w fun e w' => e = .returned (lebR l) ∧ Below w.heap.size w w' := by
  have HN := Lib.hid hn; clear hn
  have HF := Lib.hid hf; clear hf
  have HNU := Lib.hid (fun (W : World) (x : Nat) (hx : x < 18446744073709551616) => rnum_calls W.heap.size 0 x hx (.slice none 0 0) [] W (World.ownsRow_nil _ _ _ _) (Nat.le_refl _) (by omega))
  unfold BytesPost at HNU
  simp only [Nat.zero_add, List.nil_append] at HNU
  go_enter Tryd.func99, Tryd.ntmps99
  go_wp2
  go_loop [7, 5, 6, 8] (fun i v un _ => ∃ (j acc u : Nat), j ≤ n ∧ j ≤ 10 ∧ acc < 18446744073709551616 ∧ u < 18446744073709551616 ∧ i = .int .i64 j ∧ v = .int .u64 acc ∧ un = .int .u64 u ∧ Hid ((j ≤ 9 → u = 128 ^ j ∧ acc < 128 ^ j ∧ Spelt j acc (l.take j)) ∧ decV l = decF j acc (l.drop j))) (fun i _ _ _ => 10 - (intOf i).toNat)
  case atStart => exact ⟨0, 0, 1, Nat.zero_le _, by omega, by omega, by omega, rfl, rfl, rfl, ⟨fun _ => ⟨rfl, by simp, by simpa using spelt_nil⟩, rfl⟩⟩
  case round =>
    obtain ⟨j, acc, u, hj, hj10, hacc, hu, rfl, rfl, rfl, hD⟩ := hrel
    by_cases hlt : j < n
    · have hlt' : j < l.length := by rw [HN.out]; exact hlt
      have g1 : decide ((j : Int) < (n : Int)) = true := by simp; omega
      by_cases h10 : j = 10
      · have hD1 := hD.out.2
        rw [drop_at hlt'] at hD1
        unfold decF at hD1
        rw [if_pos (by omega)] at hD1
        have HR := Lib.hid (lebR_none hD1)
        have g2 : decide ((j : Int) < 10) = false := by simp; omega
        clear hD1 hD
        go_wp2
        go_ret3
        exact ⟨by rw [HR.out]; rfl, Below.refl _ _⟩
      · have g2 : decide ((j : Int) < 10) = true := by simp; omega
        have hx := byteCell_at l j hlt'
        obtain ⟨q, off, rfl, hq⟩ := HF.out (by rw [Lib.byteCells_length]; omega)
        have hb := hq _ _ hx
        have hD1 := hD.out.2
        obtain ⟨hue, hacc2, hsp⟩ := hD.out.1 (by omega)
        rw [drop_at hlt'] at hD1
        unfold decF at hD1
        have hbt : l[j].toNat < 256 := l[j].toNat_lt
        have hends := hsp.ends l[j]
        have hstep := hsp.step l[j]
        rw [← take_snoc hlt'] at hends hstep
        obtain ⟨b, hbe⟩ : ∃ b, b = l[j].toNat := ⟨_, rfl⟩
        rw [← hbe] at hb hbt hD1 hends hstep
        obtain ⟨hpw, hpw8⟩ := pow_u64 (j := j) (by omega)
        have hp1 : (128 : Nat) ^ (j + 1) = 128 ^ j * 128 := rfl
        rw [← hue] at hacc2 hpw hpw8 hends hD1 hstep hp1
        clear hbe hx hq hsp
        by_cases h9 : j = 9 ∧ 1 < b
        · rw [if_pos (Or.inr h9)] at hD1
          have HR := Lib.hid (lebR_none hD1)
          clear hD1 hacc hD hends hstep hp1 hue
          obtain ⟨rfl, h9⟩ := h9
          have g4 : decide ((1 : Int) < (b : Int)) = true := by simp; omega
          go_wp2
          go_ret3
          exact ⟨by rw [HR.out]; rfl, Below.refl _ _⟩
        · rw [if_neg (by omega)] at hD1
          have hyb : b % 128 * u ≤ 127 * u ∧ (j = 9 → b % 128 * u ≤ 1 * u) := ⟨Nat.mul_le_mul_right _ (by omega), fun e => Nat.mul_le_mul_right _ (by omega)⟩
          obtain ⟨y, hy⟩ : ∃ y, y = b % 128 * u := ⟨_, rfl⟩
          have hyi : (b : Int) % 128 * (u : Int) = (y : Int) := by rw [hy]; simp
          rw [← hy] at hyb
          have hsum : acc + y < 18446744073709551616 := by
            by_cases e : j = 9
            · have := hyb.2 e; omega
            · have := hpw8 (by omega); omega
          have hy64 : y < 18446744073709551616 := by omega
          have hyw : IntKind.u64.wrap (y : Int) = (y : Int) := by rw [IntKind.wrap_u64]; omega
          have hsw : IntKind.u64.wrap ((acc : Int) + (y : Int)) = ((acc + y : Nat) : Int) := by rw [IntKind.wrap_u64]; omega
          by_cases h128 : b < 128
          · rw [if_pos h128] at hD1
            have hbm : b % 128 = b := by omega
            rw [hbm] at hy
            rw [← hy] at hD1 hends
            have g5 : decide ((b : Int) < 128) = true := by simp; omega
            have hrun := run_head .i64 (some ⟨q, off, none⟩) n c (j + 1) (by omega)
            have hrun2 : ∀ W, (Instr.slice 35 (.slice (some ⟨q, off, none⟩) n c) none (some (.int .i64 ((j : Int) + 1))) none).run Tryd.prog W = .ok (.slice (some ⟨q, off, none⟩) (j + 1) c) W := fun W => by
              have h := hrun W
              rw [run_sliceAt_slice W _ _ _ _ _ (by kernel_rfl)] at h
              exact h
            have hFT := flat_take HF.out (j + 1)
            have htk : (Lib.byteCells l).take (j + 1) = Lib.byteCells (l.take (j + 1)) := by unfold Lib.byteCells; rw [List.map_take]
            rw [htk] at hFT
            have hcv := fun W (h : Below w.heap.size w W) => run_text (some ⟨q, off, none⟩) c (l.take (j + 1)) W (hFT.below h) (j + 1) (by rw [List.length_take]; omega)
            have HCV := Lib.hid hcv
            have hcv0 := hcv w (Below.refl _ w)
            have esum : (acc : Int) + (y : Int) = ((acc + y : Nat) : Int) := by simp
            have HN1 := Lib.hid (fun W => HNU.out W (acc + y) hsum)
            rw [← esum] at HN1
            have HES := Lib.hid esum; clear esum
            have h9' : j = 9 → b ≤ 1 := by omega
            clear hcv hFT htk hrun hD hstep hue hp1 hy
            obtain ⟨S2, hS2⟩ : ∃ S2, S2 = l.take (j + 1) := ⟨_, rfl⟩
            obtain ⟨S1, hS1⟩ : ∃ S1, S1 = Lib.uvarint (acc + y) := ⟨_, rfl⟩
            rw [← hS1, ← hS2] at hends
            rw [← hS2] at HCV hcv0
            rw [← hS1] at HN1
            clear hS1 hS2
            obtain ⟨s1, hs1⟩ : ∃ s1 : ByteArray, s1 = ⟨S1.toArray⟩ := ⟨_, rfl⟩
            obtain ⟨s2, hs2⟩ : ∃ s2 : ByteArray, s2 = ⟨S2.toArray⟩ := ⟨_, rfl⟩
            rw [← hs2] at HCV hcv0
            by_cases hz : b = 0 ∧ 0 < j
            · rw [if_pos hz] at hD1
              have hne : S1 ≠ S2 := fun e => (hends h128).1 e hz
              have hne1 : (s1.toList == s2.toList) = false := by rw [hs1, hs2]; exact str_ne hne
              have hne2 : (s2.toList == s1.toList) = false := by rw [hs1, hs2]; exact str_ne (fun e => hne e.symm)
              have HC1 := Lib.hid hs1; clear hs1 hs2
              have HR := Lib.hid (lebR_none hD1)
              clear hD1 hends hne hz
              by_cases j9 : j = 9
              · have g3 : ((j : Int) == 9) = true := by simp; omega
                have g4 : decide ((1 : Int) < (b : Int)) = false := by simp; omega
                have i0 : (0 : Int) ≤ (j : Int) + 1 := by omega
                have i1 : (j : Int) + 1 ≤ (c : Int) := by omega
                have i2 : (j : Int) + 1 ≤ (n : Int) := by omega
                have ja : IntKind.i64.wrap ((j : Int) + 1) = (j : Int) + 1 := by rw [IntKind.wrap_i64]; omega
                clear j9 h9 h9' hyb hpw8 h10
                go_upto_region 11 with fail
                refine wp_region_held_drew (S := (fun w' => Below w.heap.size w w' ∧ (convert 35 9 (.slice (some ⟨q, off, none⟩) (j + 1) c)).run Tryd.prog w' = .ok (.string s2) w')) (by kernel_rfl) ?_ (fun hHeld => ?_)
                · ((try dsimp only); constructor; all_goals (first | assumption | ((repeat (first | (with_reducible exact Below.refl _ _) | (with_reducible assumption) | (with_reducible refine bel_al0 ?_ _) | (with_reducible refine bel_set ?_ (by first | (simp; done) | (simp; omega)) _) | (with_reducible refine bel_dr ?_) | (with_reducible refine bel_drn ?_ _) | (with_reducible refine bel_tr ?_ (by assumption)))); done) | exact HCV.out _ (by (repeat (first | (with_reducible exact Below.refl _ _) | (with_reducible assumption) | (with_reducible refine bel_al0 ?_ _) | (with_reducible refine bel_set ?_ (by first | (simp; done) | (simp; omega)) _) | (with_reducible refine bel_dr ?_) | (with_reducible refine bel_drn ?_ _) | (with_reducible refine bel_tr ?_ (by assumption)))))))
                refine wpAnyH_take (i := 0) (oi := _) (v := ?_) rfl (by kernel_rfl) (by kernel_rfl) (by kernel_rfl) (fun _ _ _ h => h) (Or.inl ⟨by kernel_rfl, ?_⟩) hHeld ?_
                rotate_left
                · intro W hSw; (try dsimp only at hSw); go_simp; (try with_reducible rfl)
                (try simp only [Act.put, List.setIfInBounds_toArray, List.set_cons_zero, List.set_cons_succ])
                refine wpAnyH_take (i := 3) (oi := _) (v := ?_) rfl (by kernel_rfl) (by kernel_rfl) (by kernel_rfl) (fun _ _ _ h => h) (Or.inl ⟨by kernel_rfl, ?_⟩) hHeld ?_
                rotate_left
                · intro W hSw; (try dsimp only at hSw); go_simp; (try with_reducible rfl)
                (try simp only [Act.put, List.setIfInBounds_toArray, List.set_cons_zero, List.set_cons_succ])
                refine wpAnyH_take (i := 4) (oi := _) (v := ?_) rfl (by kernel_rfl) (by kernel_rfl) (by kernel_rfl) (fun _ _ _ h => h) (Or.inl ⟨by kernel_rfl, ?_⟩) hHeld ?_
                rotate_left
                · intro W hSw; (try dsimp only at hSw); go_simp; (try with_reducible rfl)
                (try simp only [Act.put, List.setIfInBounds_toArray, List.set_cons_zero, List.set_cons_succ])
                refine wpAnyH_take (i := 5) (oi := _) (v := ?_) rfl (by kernel_rfl) (by kernel_rfl) (by kernel_rfl) (fun _ _ _ h => h) (Or.inl ⟨by kernel_rfl, ?_⟩) hHeld ?_
                rotate_left
                · intro W hSw; (try dsimp only at hSw); go_simp; (try with_reducible rfl)
                (try simp only [Act.put, List.setIfInBounds_toArray, List.set_cons_zero, List.set_cons_succ])
                refine wpAnyH_take (i := 6) (oi := _) (v := ?_) rfl (by kernel_rfl) (by kernel_rfl) (by kernel_rfl) (fun _ _ _ h => h) (Or.inl ⟨by kernel_rfl, ?_⟩) hHeld ?_
                rotate_left
                · intro W hSw; (try dsimp only at hSw); go_simp; (try with_reducible rfl)
                (try simp only [Act.put, List.setIfInBounds_toArray, List.set_cons_zero, List.set_cons_succ])
                refine wpAnyH_take (i := 7) (oi := _) (v := ?_) rfl (by kernel_rfl) (by kernel_rfl) (by kernel_rfl) (fun _ _ _ h => h) (Or.inl ⟨by kernel_rfl, ?_⟩) hHeld ?_
                rotate_left
                · intro W hSw; (try dsimp only at hSw); go_simp; (try with_reducible rfl)
                (try simp only [Act.put, List.setIfInBounds_toArray, List.set_cons_zero, List.set_cons_succ])
                refine wpAnyH_ready (rs := [1]) (by kernel_rfl) (by simp) ?_
                refine AllReadyH.cons (o := _) rfl (fun K hK => ?_) AllReadyH.nil
                go_simp
                refine (HN1.out _).mono ?_; rintro e w1 ⟨v1, rfl, ho1, hb1⟩; obtain ⟨A1, k1, rfl, _⟩ := own_form ho1; have hcv1 := run_text A1 k1 S1 w1 (own_flat ho1) _ rfl; rw [← HC1.out] at hcv1; have hcv2 := HCV.out w1 (bel_tr (by (repeat (first | (with_reducible exact Below.refl _ _) | (with_reducible assumption) | (with_reducible refine bel_al0 ?_ _) | (with_reducible refine bel_set ?_ (by first | (simp; done) | (simp; omega)) _) | (with_reducible refine bel_dr ?_) | (with_reducible refine bel_drn ?_ _) | (with_reducible refine bel_tr ?_ (by assumption))))) hb1)
                go_wp2_with fail
                refine hK.out _ _ ?_ (fun hHeld => ?_)
                · ((try dsimp only); constructor; all_goals (first | assumption | ((repeat (first | (with_reducible exact Below.refl _ _) | (with_reducible assumption) | (with_reducible refine bel_al0 ?_ _) | (with_reducible refine bel_set ?_ (by first | (simp; done) | (simp; omega)) _) | (with_reducible refine bel_dr ?_) | (with_reducible refine bel_drn ?_ _) | (with_reducible refine bel_tr ?_ (by assumption)))); done) | exact HCV.out _ (by (repeat (first | (with_reducible exact Below.refl _ _) | (with_reducible assumption) | (with_reducible refine bel_al0 ?_ _) | (with_reducible refine bel_set ?_ (by first | (simp; done) | (simp; omega)) _) | (with_reducible refine bel_dr ?_) | (with_reducible refine bel_drn ?_ _) | (with_reducible refine bel_tr ?_ (by assumption)))))))
                clear hK K
                (try simp only [Act.put, List.setIfInBounds_toArray, List.set_cons_zero, List.set_cons_succ])
                refine wpAnyH_ready (rs := [2]) (by kernel_rfl) (by simp) ?_
                refine AllReadyH.cons (o := _) rfl (fun K hK => ?_) AllReadyH.nil
                go_simp
                refine hK.out _ _ ?_ (fun hHeld => ?_)
                · ((try dsimp only); constructor; all_goals (first | assumption | ((repeat (first | (with_reducible exact Below.refl _ _) | (with_reducible assumption) | (with_reducible refine bel_al0 ?_ _) | (with_reducible refine bel_set ?_ (by first | (simp; done) | (simp; omega)) _) | (with_reducible refine bel_dr ?_) | (with_reducible refine bel_drn ?_ _) | (with_reducible refine bel_tr ?_ (by assumption)))); done) | exact HCV.out _ (by (repeat (first | (with_reducible exact Below.refl _ _) | (with_reducible assumption) | (with_reducible refine bel_al0 ?_ _) | (with_reducible refine bel_set ?_ (by first | (simp; done) | (simp; omega)) _) | (with_reducible refine bel_dr ?_) | (with_reducible refine bel_drn ?_ _) | (with_reducible refine bel_tr ?_ (by assumption)))))))
                clear hK K
                (try simp only [Act.put, List.setIfInBounds_toArray, List.set_cons_zero, List.set_cons_succ])
                refine wpAnyH_take (i := 8) (oi := _) (v := ?_) rfl (by kernel_rfl) (by kernel_rfl) (by kernel_rfl) (fun _ _ _ h => h) (Or.inl ⟨by kernel_rfl, ?_⟩) hHeld ?_
                rotate_left
                · intro W hSw; (try dsimp only at hSw); go_simp; (try with_reducible rfl)
                (try simp only [Act.put, List.setIfInBounds_toArray, List.set_cons_zero, List.set_cons_succ])
                refine wpAnyH_done (by kernel_rfl) ?_ _
                go_wp2
                go_ret3
                exact ⟨by rw [HR.out]; rfl, by first | assumption | ((repeat (first | (with_reducible exact Below.refl _ _) | (with_reducible assumption) | (with_reducible refine bel_al0 ?_ _) | (with_reducible refine bel_set ?_ (by first | (simp; done) | (simp; omega)) _) | (with_reducible refine bel_dr ?_) | (with_reducible refine bel_drn ?_ _) | (with_reducible refine bel_tr ?_ (by assumption)))))⟩
              · have g3 : ((j : Int) == 9) = false := by simp; omega
                have i0 : (0 : Int) ≤ (j : Int) + 1 := by omega
                have i1 : (j : Int) + 1 ≤ (c : Int) := by omega
                have i2 : (j : Int) + 1 ≤ (n : Int) := by omega
                have ja : IntKind.i64.wrap ((j : Int) + 1) = (j : Int) + 1 := by rw [IntKind.wrap_i64]; omega
                go_upto_region 11 with fail
                refine wp_region_held_drew (S := (fun w' => Below w.heap.size w w' ∧ (convert 35 9 (.slice (some ⟨q, off, none⟩) (j + 1) c)).run Tryd.prog w' = .ok (.string s2) w')) (by kernel_rfl) ?_ (fun hHeld => ?_)
                · ((try dsimp only); constructor; all_goals (first | assumption | ((repeat (first | (with_reducible exact Below.refl _ _) | (with_reducible assumption) | (with_reducible refine bel_al0 ?_ _) | (with_reducible refine bel_set ?_ (by first | (simp; done) | (simp; omega)) _) | (with_reducible refine bel_dr ?_) | (with_reducible refine bel_drn ?_ _) | (with_reducible refine bel_tr ?_ (by assumption)))); done) | exact HCV.out _ (by (repeat (first | (with_reducible exact Below.refl _ _) | (with_reducible assumption) | (with_reducible refine bel_al0 ?_ _) | (with_reducible refine bel_set ?_ (by first | (simp; done) | (simp; omega)) _) | (with_reducible refine bel_dr ?_) | (with_reducible refine bel_drn ?_ _) | (with_reducible refine bel_tr ?_ (by assumption)))))))
                refine wpAnyH_take (i := 0) (oi := _) (v := ?_) rfl (by kernel_rfl) (by kernel_rfl) (by kernel_rfl) (fun _ _ _ h => h) (Or.inl ⟨by kernel_rfl, ?_⟩) hHeld ?_
                rotate_left
                · intro W hSw; (try dsimp only at hSw); go_simp; (try with_reducible rfl)
                (try simp only [Act.put, List.setIfInBounds_toArray, List.set_cons_zero, List.set_cons_succ])
                refine wpAnyH_take (i := 3) (oi := _) (v := ?_) rfl (by kernel_rfl) (by kernel_rfl) (by kernel_rfl) (fun _ _ _ h => h) (Or.inl ⟨by kernel_rfl, ?_⟩) hHeld ?_
                rotate_left
                · intro W hSw; (try dsimp only at hSw); go_simp; (try with_reducible rfl)
                (try simp only [Act.put, List.setIfInBounds_toArray, List.set_cons_zero, List.set_cons_succ])
                refine wpAnyH_take (i := 4) (oi := _) (v := ?_) rfl (by kernel_rfl) (by kernel_rfl) (by kernel_rfl) (fun _ _ _ h => h) (Or.inl ⟨by kernel_rfl, ?_⟩) hHeld ?_
                rotate_left
                · intro W hSw; (try dsimp only at hSw); go_simp; (try with_reducible rfl)
                (try simp only [Act.put, List.setIfInBounds_toArray, List.set_cons_zero, List.set_cons_succ])
                refine wpAnyH_take (i := 5) (oi := _) (v := ?_) rfl (by kernel_rfl) (by kernel_rfl) (by kernel_rfl) (fun _ _ _ h => h) (Or.inl ⟨by kernel_rfl, ?_⟩) hHeld ?_
                rotate_left
                · intro W hSw; (try dsimp only at hSw); go_simp; (try with_reducible rfl)
                (try simp only [Act.put, List.setIfInBounds_toArray, List.set_cons_zero, List.set_cons_succ])
                refine wpAnyH_take (i := 6) (oi := _) (v := ?_) rfl (by kernel_rfl) (by kernel_rfl) (by kernel_rfl) (fun _ _ _ h => h) (Or.inl ⟨by kernel_rfl, ?_⟩) hHeld ?_
                rotate_left
                · intro W hSw; (try dsimp only at hSw); go_simp; (try with_reducible rfl)
                (try simp only [Act.put, List.setIfInBounds_toArray, List.set_cons_zero, List.set_cons_succ])
                refine wpAnyH_take (i := 7) (oi := _) (v := ?_) rfl (by kernel_rfl) (by kernel_rfl) (by kernel_rfl) (fun _ _ _ h => h) (Or.inl ⟨by kernel_rfl, ?_⟩) hHeld ?_
                rotate_left
                · intro W hSw; (try dsimp only at hSw); go_simp; (try with_reducible rfl)
                (try simp only [Act.put, List.setIfInBounds_toArray, List.set_cons_zero, List.set_cons_succ])
                refine wpAnyH_ready (rs := [1]) (by kernel_rfl) (by simp) ?_
                refine AllReadyH.cons (o := _) rfl (fun K hK => ?_) AllReadyH.nil
                go_simp
                refine (HN1.out _).mono ?_; rintro e w1 ⟨v1, rfl, ho1, hb1⟩; obtain ⟨A1, k1, rfl, _⟩ := own_form ho1; have hcv1 := run_text A1 k1 S1 w1 (own_flat ho1) _ rfl; rw [← HC1.out] at hcv1; have hcv2 := HCV.out w1 (bel_tr (by (repeat (first | (with_reducible exact Below.refl _ _) | (with_reducible assumption) | (with_reducible refine bel_al0 ?_ _) | (with_reducible refine bel_set ?_ (by first | (simp; done) | (simp; omega)) _) | (with_reducible refine bel_dr ?_) | (with_reducible refine bel_drn ?_ _) | (with_reducible refine bel_tr ?_ (by assumption))))) hb1)
                go_wp2_with fail
                refine hK.out _ _ ?_ (fun hHeld => ?_)
                · ((try dsimp only); constructor; all_goals (first | assumption | ((repeat (first | (with_reducible exact Below.refl _ _) | (with_reducible assumption) | (with_reducible refine bel_al0 ?_ _) | (with_reducible refine bel_set ?_ (by first | (simp; done) | (simp; omega)) _) | (with_reducible refine bel_dr ?_) | (with_reducible refine bel_drn ?_ _) | (with_reducible refine bel_tr ?_ (by assumption)))); done) | exact HCV.out _ (by (repeat (first | (with_reducible exact Below.refl _ _) | (with_reducible assumption) | (with_reducible refine bel_al0 ?_ _) | (with_reducible refine bel_set ?_ (by first | (simp; done) | (simp; omega)) _) | (with_reducible refine bel_dr ?_) | (with_reducible refine bel_drn ?_ _) | (with_reducible refine bel_tr ?_ (by assumption)))))))
                clear hK K
                (try simp only [Act.put, List.setIfInBounds_toArray, List.set_cons_zero, List.set_cons_succ])
                refine wpAnyH_ready (rs := [2]) (by kernel_rfl) (by simp) ?_
                refine AllReadyH.cons (o := _) rfl (fun K hK => ?_) AllReadyH.nil
                go_simp
                refine hK.out _ _ ?_ (fun hHeld => ?_)
                · ((try dsimp only); constructor; all_goals (first | assumption | ((repeat (first | (with_reducible exact Below.refl _ _) | (with_reducible assumption) | (with_reducible refine bel_al0 ?_ _) | (with_reducible refine bel_set ?_ (by first | (simp; done) | (simp; omega)) _) | (with_reducible refine bel_dr ?_) | (with_reducible refine bel_drn ?_ _) | (with_reducible refine bel_tr ?_ (by assumption)))); done) | exact HCV.out _ (by (repeat (first | (with_reducible exact Below.refl _ _) | (with_reducible assumption) | (with_reducible refine bel_al0 ?_ _) | (with_reducible refine bel_set ?_ (by first | (simp; done) | (simp; omega)) _) | (with_reducible refine bel_dr ?_) | (with_reducible refine bel_drn ?_ _) | (with_reducible refine bel_tr ?_ (by assumption)))))))
                clear hK K
                (try simp only [Act.put, List.setIfInBounds_toArray, List.set_cons_zero, List.set_cons_succ])
                refine wpAnyH_take (i := 8) (oi := _) (v := ?_) rfl (by kernel_rfl) (by kernel_rfl) (by kernel_rfl) (fun _ _ _ h => h) (Or.inl ⟨by kernel_rfl, ?_⟩) hHeld ?_
                rotate_left
                · intro W hSw; (try dsimp only at hSw); go_simp; (try with_reducible rfl)
                (try simp only [Act.put, List.setIfInBounds_toArray, List.set_cons_zero, List.set_cons_succ])
                refine wpAnyH_done (by kernel_rfl) ?_ _
                go_wp2
                go_ret3
                exact ⟨by rw [HR.out]; rfl, by first | assumption | ((repeat (first | (with_reducible exact Below.refl _ _) | (with_reducible assumption) | (with_reducible refine bel_al0 ?_ _) | (with_reducible refine bel_set ?_ (by first | (simp; done) | (simp; omega)) _) | (with_reducible refine bel_dr ?_) | (with_reducible refine bel_drn ?_ _) | (with_reducible refine bel_tr ?_ (by assumption)))))⟩
            · rw [if_neg hz] at hD1
              have e12 := hends h128 |>.2 hz
              rw [← e12, ← hs1] at hs2
              subst hs2
              have HC1 := Lib.hid hs1; clear hs1 e12
              have HR := Lib.hid (lebR_some hD1)
              clear hD1 hends
              by_cases j9 : j = 9
              · have g3 : ((j : Int) == 9) = true := by simp; omega
                have g4 : decide ((1 : Int) < (b : Int)) = false := by simp; omega
                have i0 : (0 : Int) ≤ (j : Int) + 1 := by omega
                have i1 : (j : Int) + 1 ≤ (c : Int) := by omega
                have i2 : (j : Int) + 1 ≤ (n : Int) := by omega
                have ja : IntKind.i64.wrap ((j : Int) + 1) = (j : Int) + 1 := by rw [IntKind.wrap_i64]; omega
                clear j9 h9 h9' hyb hpw8 h10
                go_upto_region 11 with fail
                refine wp_region_held_drew (S := (fun w' => Below w.heap.size w w' ∧ (convert 35 9 (.slice (some ⟨q, off, none⟩) (j + 1) c)).run Tryd.prog w' = .ok (.string s2) w')) (by kernel_rfl) ?_ (fun hHeld => ?_)
                · ((try dsimp only); constructor; all_goals (first | assumption | ((repeat (first | (with_reducible exact Below.refl _ _) | (with_reducible assumption) | (with_reducible refine bel_al0 ?_ _) | (with_reducible refine bel_set ?_ (by first | (simp; done) | (simp; omega)) _) | (with_reducible refine bel_dr ?_) | (with_reducible refine bel_drn ?_ _) | (with_reducible refine bel_tr ?_ (by assumption)))); done) | exact HCV.out _ (by (repeat (first | (with_reducible exact Below.refl _ _) | (with_reducible assumption) | (with_reducible refine bel_al0 ?_ _) | (with_reducible refine bel_set ?_ (by first | (simp; done) | (simp; omega)) _) | (with_reducible refine bel_dr ?_) | (with_reducible refine bel_drn ?_ _) | (with_reducible refine bel_tr ?_ (by assumption)))))))
                refine wpAnyH_take (i := 0) (oi := _) (v := ?_) rfl (by kernel_rfl) (by kernel_rfl) (by kernel_rfl) (fun _ _ _ h => h) (Or.inl ⟨by kernel_rfl, ?_⟩) hHeld ?_
                rotate_left
                · intro W hSw; (try dsimp only at hSw); go_simp; (try with_reducible rfl)
                (try simp only [Act.put, List.setIfInBounds_toArray, List.set_cons_zero, List.set_cons_succ])
                refine wpAnyH_take (i := 3) (oi := _) (v := ?_) rfl (by kernel_rfl) (by kernel_rfl) (by kernel_rfl) (fun _ _ _ h => h) (Or.inl ⟨by kernel_rfl, ?_⟩) hHeld ?_
                rotate_left
                · intro W hSw; (try dsimp only at hSw); go_simp; (try with_reducible rfl)
                (try simp only [Act.put, List.setIfInBounds_toArray, List.set_cons_zero, List.set_cons_succ])
                refine wpAnyH_take (i := 4) (oi := _) (v := ?_) rfl (by kernel_rfl) (by kernel_rfl) (by kernel_rfl) (fun _ _ _ h => h) (Or.inl ⟨by kernel_rfl, ?_⟩) hHeld ?_
                rotate_left
                · intro W hSw; (try dsimp only at hSw); go_simp; (try with_reducible rfl)
                (try simp only [Act.put, List.setIfInBounds_toArray, List.set_cons_zero, List.set_cons_succ])
                refine wpAnyH_take (i := 5) (oi := _) (v := ?_) rfl (by kernel_rfl) (by kernel_rfl) (by kernel_rfl) (fun _ _ _ h => h) (Or.inl ⟨by kernel_rfl, ?_⟩) hHeld ?_
                rotate_left
                · intro W hSw; (try dsimp only at hSw); go_simp; (try with_reducible rfl)
                (try simp only [Act.put, List.setIfInBounds_toArray, List.set_cons_zero, List.set_cons_succ])
                refine wpAnyH_take (i := 6) (oi := _) (v := ?_) rfl (by kernel_rfl) (by kernel_rfl) (by kernel_rfl) (fun _ _ _ h => h) (Or.inl ⟨by kernel_rfl, ?_⟩) hHeld ?_
                rotate_left
                · intro W hSw; (try dsimp only at hSw); go_simp; (try with_reducible rfl)
                (try simp only [Act.put, List.setIfInBounds_toArray, List.set_cons_zero, List.set_cons_succ])
                refine wpAnyH_take (i := 7) (oi := _) (v := ?_) rfl (by kernel_rfl) (by kernel_rfl) (by kernel_rfl) (fun _ _ _ h => h) (Or.inl ⟨by kernel_rfl, ?_⟩) hHeld ?_
                rotate_left
                · intro W hSw; (try dsimp only at hSw); go_simp; (try with_reducible rfl)
                (try simp only [Act.put, List.setIfInBounds_toArray, List.set_cons_zero, List.set_cons_succ])
                refine wpAnyH_ready (rs := [1]) (by kernel_rfl) (by simp) ?_
                refine AllReadyH.cons (o := _) rfl (fun K hK => ?_) AllReadyH.nil
                go_simp
                refine (HN1.out _).mono ?_; rintro e w1 ⟨v1, rfl, ho1, hb1⟩; obtain ⟨A1, k1, rfl, _⟩ := own_form ho1; have hcv1 := run_text A1 k1 S1 w1 (own_flat ho1) _ rfl; rw [← HC1.out] at hcv1; have hcv2 := HCV.out w1 (bel_tr (by (repeat (first | (with_reducible exact Below.refl _ _) | (with_reducible assumption) | (with_reducible refine bel_al0 ?_ _) | (with_reducible refine bel_set ?_ (by first | (simp; done) | (simp; omega)) _) | (with_reducible refine bel_dr ?_) | (with_reducible refine bel_drn ?_ _) | (with_reducible refine bel_tr ?_ (by assumption))))) hb1)
                go_wp2_with fail
                refine hK.out _ _ ?_ (fun hHeld => ?_)
                · ((try dsimp only); constructor; all_goals (first | assumption | ((repeat (first | (with_reducible exact Below.refl _ _) | (with_reducible assumption) | (with_reducible refine bel_al0 ?_ _) | (with_reducible refine bel_set ?_ (by first | (simp; done) | (simp; omega)) _) | (with_reducible refine bel_dr ?_) | (with_reducible refine bel_drn ?_ _) | (with_reducible refine bel_tr ?_ (by assumption)))); done) | exact HCV.out _ (by (repeat (first | (with_reducible exact Below.refl _ _) | (with_reducible assumption) | (with_reducible refine bel_al0 ?_ _) | (with_reducible refine bel_set ?_ (by first | (simp; done) | (simp; omega)) _) | (with_reducible refine bel_dr ?_) | (with_reducible refine bel_drn ?_ _) | (with_reducible refine bel_tr ?_ (by assumption)))))))
                clear hK K
                (try simp only [Act.put, List.setIfInBounds_toArray, List.set_cons_zero, List.set_cons_succ])
                refine wpAnyH_ready (rs := [2]) (by kernel_rfl) (by simp) ?_
                refine AllReadyH.cons (o := _) rfl (fun K hK => ?_) AllReadyH.nil
                go_simp
                refine hK.out _ _ ?_ (fun hHeld => ?_)
                · ((try dsimp only); constructor; all_goals (first | assumption | ((repeat (first | (with_reducible exact Below.refl _ _) | (with_reducible assumption) | (with_reducible refine bel_al0 ?_ _) | (with_reducible refine bel_set ?_ (by first | (simp; done) | (simp; omega)) _) | (with_reducible refine bel_dr ?_) | (with_reducible refine bel_drn ?_ _) | (with_reducible refine bel_tr ?_ (by assumption)))); done) | exact HCV.out _ (by (repeat (first | (with_reducible exact Below.refl _ _) | (with_reducible assumption) | (with_reducible refine bel_al0 ?_ _) | (with_reducible refine bel_set ?_ (by first | (simp; done) | (simp; omega)) _) | (with_reducible refine bel_dr ?_) | (with_reducible refine bel_drn ?_ _) | (with_reducible refine bel_tr ?_ (by assumption)))))))
                clear hK K
                (try simp only [Act.put, List.setIfInBounds_toArray, List.set_cons_zero, List.set_cons_succ])
                refine wpAnyH_take (i := 8) (oi := _) (v := ?_) rfl (by kernel_rfl) (by kernel_rfl) (by kernel_rfl) (fun _ _ _ h => h) (Or.inl ⟨by kernel_rfl, ?_⟩) hHeld ?_
                rotate_left
                · intro W hSw; (try dsimp only at hSw); go_simp; (try with_reducible rfl)
                (try simp only [Act.put, List.setIfInBounds_toArray, List.set_cons_zero, List.set_cons_succ])
                refine wpAnyH_done (by kernel_rfl) ?_ _
                go_wp2
                go_ret3
                exact ⟨by rw [HR.out]; exact tup3n HES.out rfl, by first | assumption | ((repeat (first | (with_reducible exact Below.refl _ _) | (with_reducible assumption) | (with_reducible refine bel_al0 ?_ _) | (with_reducible refine bel_set ?_ (by first | (simp; done) | (simp; omega)) _) | (with_reducible refine bel_dr ?_) | (with_reducible refine bel_drn ?_ _) | (with_reducible refine bel_tr ?_ (by assumption)))))⟩
              · have g3 : ((j : Int) == 9) = false := by simp; omega
                have i0 : (0 : Int) ≤ (j : Int) + 1 := by omega
                have i1 : (j : Int) + 1 ≤ (c : Int) := by omega
                have i2 : (j : Int) + 1 ≤ (n : Int) := by omega
                have ja : IntKind.i64.wrap ((j : Int) + 1) = (j : Int) + 1 := by rw [IntKind.wrap_i64]; omega
                go_upto_region 11 with fail
                refine wp_region_held_drew (S := (fun w' => Below w.heap.size w w' ∧ (convert 35 9 (.slice (some ⟨q, off, none⟩) (j + 1) c)).run Tryd.prog w' = .ok (.string s2) w')) (by kernel_rfl) ?_ (fun hHeld => ?_)
                · ((try dsimp only); constructor; all_goals (first | assumption | ((repeat (first | (with_reducible exact Below.refl _ _) | (with_reducible assumption) | (with_reducible refine bel_al0 ?_ _) | (with_reducible refine bel_set ?_ (by first | (simp; done) | (simp; omega)) _) | (with_reducible refine bel_dr ?_) | (with_reducible refine bel_drn ?_ _) | (with_reducible refine bel_tr ?_ (by assumption)))); done) | exact HCV.out _ (by (repeat (first | (with_reducible exact Below.refl _ _) | (with_reducible assumption) | (with_reducible refine bel_al0 ?_ _) | (with_reducible refine bel_set ?_ (by first | (simp; done) | (simp; omega)) _) | (with_reducible refine bel_dr ?_) | (with_reducible refine bel_drn ?_ _) | (with_reducible refine bel_tr ?_ (by assumption)))))))
                refine wpAnyH_take (i := 0) (oi := _) (v := ?_) rfl (by kernel_rfl) (by kernel_rfl) (by kernel_rfl) (fun _ _ _ h => h) (Or.inl ⟨by kernel_rfl, ?_⟩) hHeld ?_
                rotate_left
                · intro W hSw; (try dsimp only at hSw); go_simp; (try with_reducible rfl)
                (try simp only [Act.put, List.setIfInBounds_toArray, List.set_cons_zero, List.set_cons_succ])
                refine wpAnyH_take (i := 3) (oi := _) (v := ?_) rfl (by kernel_rfl) (by kernel_rfl) (by kernel_rfl) (fun _ _ _ h => h) (Or.inl ⟨by kernel_rfl, ?_⟩) hHeld ?_
                rotate_left
                · intro W hSw; (try dsimp only at hSw); go_simp; (try with_reducible rfl)
                (try simp only [Act.put, List.setIfInBounds_toArray, List.set_cons_zero, List.set_cons_succ])
                refine wpAnyH_take (i := 4) (oi := _) (v := ?_) rfl (by kernel_rfl) (by kernel_rfl) (by kernel_rfl) (fun _ _ _ h => h) (Or.inl ⟨by kernel_rfl, ?_⟩) hHeld ?_
                rotate_left
                · intro W hSw; (try dsimp only at hSw); go_simp; (try with_reducible rfl)
                (try simp only [Act.put, List.setIfInBounds_toArray, List.set_cons_zero, List.set_cons_succ])
                refine wpAnyH_take (i := 5) (oi := _) (v := ?_) rfl (by kernel_rfl) (by kernel_rfl) (by kernel_rfl) (fun _ _ _ h => h) (Or.inl ⟨by kernel_rfl, ?_⟩) hHeld ?_
                rotate_left
                · intro W hSw; (try dsimp only at hSw); go_simp; (try with_reducible rfl)
                (try simp only [Act.put, List.setIfInBounds_toArray, List.set_cons_zero, List.set_cons_succ])
                refine wpAnyH_take (i := 6) (oi := _) (v := ?_) rfl (by kernel_rfl) (by kernel_rfl) (by kernel_rfl) (fun _ _ _ h => h) (Or.inl ⟨by kernel_rfl, ?_⟩) hHeld ?_
                rotate_left
                · intro W hSw; (try dsimp only at hSw); go_simp; (try with_reducible rfl)
                (try simp only [Act.put, List.setIfInBounds_toArray, List.set_cons_zero, List.set_cons_succ])
                refine wpAnyH_take (i := 7) (oi := _) (v := ?_) rfl (by kernel_rfl) (by kernel_rfl) (by kernel_rfl) (fun _ _ _ h => h) (Or.inl ⟨by kernel_rfl, ?_⟩) hHeld ?_
                rotate_left
                · intro W hSw; (try dsimp only at hSw); go_simp; (try with_reducible rfl)
                (try simp only [Act.put, List.setIfInBounds_toArray, List.set_cons_zero, List.set_cons_succ])
                refine wpAnyH_ready (rs := [1]) (by kernel_rfl) (by simp) ?_
                refine AllReadyH.cons (o := _) rfl (fun K hK => ?_) AllReadyH.nil
                go_simp
                refine (HN1.out _).mono ?_; rintro e w1 ⟨v1, rfl, ho1, hb1⟩; obtain ⟨A1, k1, rfl, _⟩ := own_form ho1; have hcv1 := run_text A1 k1 S1 w1 (own_flat ho1) _ rfl; rw [← HC1.out] at hcv1; have hcv2 := HCV.out w1 (bel_tr (by (repeat (first | (with_reducible exact Below.refl _ _) | (with_reducible assumption) | (with_reducible refine bel_al0 ?_ _) | (with_reducible refine bel_set ?_ (by first | (simp; done) | (simp; omega)) _) | (with_reducible refine bel_dr ?_) | (with_reducible refine bel_drn ?_ _) | (with_reducible refine bel_tr ?_ (by assumption))))) hb1)
                go_wp2_with fail
                refine hK.out _ _ ?_ (fun hHeld => ?_)
                · ((try dsimp only); constructor; all_goals (first | assumption | ((repeat (first | (with_reducible exact Below.refl _ _) | (with_reducible assumption) | (with_reducible refine bel_al0 ?_ _) | (with_reducible refine bel_set ?_ (by first | (simp; done) | (simp; omega)) _) | (with_reducible refine bel_dr ?_) | (with_reducible refine bel_drn ?_ _) | (with_reducible refine bel_tr ?_ (by assumption)))); done) | exact HCV.out _ (by (repeat (first | (with_reducible exact Below.refl _ _) | (with_reducible assumption) | (with_reducible refine bel_al0 ?_ _) | (with_reducible refine bel_set ?_ (by first | (simp; done) | (simp; omega)) _) | (with_reducible refine bel_dr ?_) | (with_reducible refine bel_drn ?_ _) | (with_reducible refine bel_tr ?_ (by assumption)))))))
                clear hK K
                (try simp only [Act.put, List.setIfInBounds_toArray, List.set_cons_zero, List.set_cons_succ])
                refine wpAnyH_ready (rs := [2]) (by kernel_rfl) (by simp) ?_
                refine AllReadyH.cons (o := _) rfl (fun K hK => ?_) AllReadyH.nil
                go_simp
                refine hK.out _ _ ?_ (fun hHeld => ?_)
                · ((try dsimp only); constructor; all_goals (first | assumption | ((repeat (first | (with_reducible exact Below.refl _ _) | (with_reducible assumption) | (with_reducible refine bel_al0 ?_ _) | (with_reducible refine bel_set ?_ (by first | (simp; done) | (simp; omega)) _) | (with_reducible refine bel_dr ?_) | (with_reducible refine bel_drn ?_ _) | (with_reducible refine bel_tr ?_ (by assumption)))); done) | exact HCV.out _ (by (repeat (first | (with_reducible exact Below.refl _ _) | (with_reducible assumption) | (with_reducible refine bel_al0 ?_ _) | (with_reducible refine bel_set ?_ (by first | (simp; done) | (simp; omega)) _) | (with_reducible refine bel_dr ?_) | (with_reducible refine bel_drn ?_ _) | (with_reducible refine bel_tr ?_ (by assumption)))))))
                clear hK K
                (try simp only [Act.put, List.setIfInBounds_toArray, List.set_cons_zero, List.set_cons_succ])
                refine wpAnyH_take (i := 8) (oi := _) (v := ?_) rfl (by kernel_rfl) (by kernel_rfl) (by kernel_rfl) (fun _ _ _ h => h) (Or.inl ⟨by kernel_rfl, ?_⟩) hHeld ?_
                rotate_left
                · intro W hSw; (try dsimp only at hSw); go_simp; (try with_reducible rfl)
                (try simp only [Act.put, List.setIfInBounds_toArray, List.set_cons_zero, List.set_cons_succ])
                refine wpAnyH_done (by kernel_rfl) ?_ _
                go_wp2
                go_ret3
                exact ⟨by rw [HR.out]; exact tup3n HES.out rfl, by first | assumption | ((repeat (first | (with_reducible exact Below.refl _ _) | (with_reducible assumption) | (with_reducible refine bel_al0 ?_ _) | (with_reducible refine bel_set ?_ (by first | (simp; done) | (simp; omega)) _) | (with_reducible refine bel_dr ?_) | (with_reducible refine bel_drn ?_ _) | (with_reducible refine bel_tr ?_ (by assumption)))))⟩
          · rw [if_neg h128] at hD1
            rw [← hy] at hD1 hstep
            have g5 : decide ((b : Int) < 128) = false := by simp; omega
            have HD : Hid ((j + 1 ≤ 9 → u * 128 = 128 ^ (j + 1) ∧ acc + y < 128 ^ (j + 1) ∧ Spelt (j + 1) (acc + y) (l.take (j + 1))) ∧ decV l = decF (j + 1) (acc + y) (l.drop (j + 1))) := by
              refine ⟨fun hj9 => ⟨hp1.symm, ?_, hstep (by omega)⟩, hD1⟩
              rw [hp1]; omega
            have hj8 : j ≤ 8 := by omega
            have hu8 := hpw8 hj8
            clear hD1 hD hends hstep hp1 hue hy
            have g3 : ((j : Int) == 9) = false := by simp; omega
            have huw : IntKind.u64.wrap ((u : Int) * 128) = ((u * 128 : Nat) : Int) := by rw [IntKind.wrap_u64]; omega
            go_wp2
            go_round
            case rel => exact ⟨j + 1, acc + y, u * 128, by omega, by omega, by omega, by omega, by go_num, rfl, rfl, HD.out⟩
            case measure => simp [intOf]; omega
    · have hD1 := hD.out.2
      rw [List.drop_of_length_le (by rw [HN.out]; omega)] at hD1
      have HR := Lib.hid (lebR_none hD1)
      have g1 : decide ((j : Int) < (n : Int)) = false := by simp; omega
      clear hD1 hD
      go_wp2
      go_ret3
      exact ⟨by rw [HR.out]; rfl, Below.refl _ _⟩
end Go.Proofs.YtehneliphhgegaaDoor
