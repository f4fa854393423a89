/- The law CommandPuts: walked; bytes that are read as data. -/
import Derived.Test.YtehneliphhgegaaDoorDLawC
import Derived.Test.YtehneliphhgegaaDoorDROf
import Derived.Test.YtehneliphhgegaaDoorDPut3
set_option linter.unusedVariables false
set_option linter.unusedSimpArgs false
set_option maxRecDepth 100000
namespace Go.Proofs.YtehneliphhgegaaDoor
open Go.RowKit Go.Apo

/-- an argument that is bytes -/
structure BIn (w : World) (A : Option Addr) (n c : Nat) (l : List UInt8) : Prop where
  len : l.length = n
  cap : n ≤ c
  flat : Flat w A (Lib.byteCells l)
  nil : A = none → l = []
  top : n ≤ 140737488351232
section
variable {H : Type} {enc : TypeId × Value → H} {w : World}
theorem cells_u8' : Tryd.prog.cellsOf 5 = 1 := by kernel_rfl
theorem byteRow_of {A : Option Addr} {n c : Nat} (h : G enc Tryd.prog w 35 [.slice A n c]) (hs : n * 1 ≤ 140737488351232) : ∃ l, BIn w A n c l := by
  obtain ⟨a, len, cap, e, hlc, _, hx⟩ := h.slice Tryd.underlying35 (by rw [cells_u8']; omega)
  simp only [Value.slice.injEq] at e
  obtain ⟨rfl, rfl, rfl⟩ := e
  rcases Nat.eq_zero_or_pos n with rfl | h0
  · exact ⟨[], rfl, hlc, Flat.nil _ _, fun _ => rfl, by omega⟩
  obtain ⟨b, off, rfl, hx2⟩ := hx h0
  obtain ⟨l, h1, h2⟩ := choose_list (p := fun i (x : UInt8) => w.cell? ⟨b, off + i, none⟩ = some (.int .u8 (x.toNat : Int))) n (fun i hi => by
    obtain ⟨cs, _, hg, hc⟩ := hx2 i hi
    obtain ⟨x, rfl, hw⟩ := hg.int Tryd.underlying5
    have hlo : IntKind.u8.min = 0 := by decide +kernel
    have hm : IntKind.u8.max = 255 := by decide +kernel
    simp only [Lit.wf, Bool.and_eq_true, decide_eq_true_eq] at hw
    rw [hlo, hm] at hw
    have h3 := hc 0 _ rfl
    rw [cells_u8', Nat.mul_one, Nat.add_zero] at h3
    refine ⟨x.toNat.toUInt8, ?_⟩
    rw [h3, toU8 (by omega)]
    congr 2
    omega)
  refine ⟨l, h1, hlc, fun _ => ⟨b, off, rfl, fun j u hj => ?_⟩, (by rintro ⟨⟩), by omega⟩
  have hjl : j < l.length := by have := (List.getElem?_eq_some_iff.1 hj).1; rwa [Lib.byteCells_length] at this
  have h3 := h2 j l[j] (List.getElem?_eq_getElem hjl)
  rw [byteCell_at l j hjl] at hj
  rw [h3, ← hj]
theorem cmd_cells2 {cs : Array Value} (h : G enc Tryd.prog w 30 cs.toList) : ∃ k nm ot ky vl n, cs = #[.int .i64 k, .string nm, .string ot, .string ky, .string vl, .int .i64 n] ∧ (-9223372036854775808 ≤ k ∧ k ≤ 9223372036854775807 ∧ -9223372036854775808 ≤ n ∧ n ≤ 9223372036854775807) := by
  obtain ⟨a, b, c, d, e, f, hl⟩ := list6 ((h.len Tryd.underlying30).trans cells_cmd)
  rw [hl] at h
  have f0 := h.field Tryd.underlying30 0 3 0 1 rfl cells_int'
  have f1 := h.field Tryd.underlying30 1 9 1 1 rfl cells_str'
  have f2 := h.field Tryd.underlying30 2 9 2 1 rfl cells_str'
  have f3 := h.field Tryd.underlying30 3 9 3 1 rfl cells_str'
  have f4 := h.field Tryd.underlying30 4 9 4 1 rfl cells_str'
  have f5 := h.field Tryd.underlying30 5 3 5 1 rfl cells_int'
  simp only [List.drop_zero, List.drop_succ_cons, List.take_succ_cons, List.take_zero] at f0 f1 f2 f3 f4 f5
  obtain ⟨k, e0, wk⟩ := f0.int Tryd.underlying3
  obtain ⟨s1, e1, _⟩ := f1.string Tryd.underlying9
  obtain ⟨s2, e2, _⟩ := f2.string Tryd.underlying9
  obtain ⟨s3, e3, _⟩ := f3.string Tryd.underlying9
  obtain ⟨s4, e4, _⟩ := f4.string Tryd.underlying9
  obtain ⟨n, e5, wn⟩ := f5.int Tryd.underlying3
  simp only [List.cons.injEq, and_true] at e0 e1 e2 e3 e4 e5
  subst e0 e1 e2 e3 e4 e5
  refine ⟨k, s1, s2, s3, s4, n, ?_, ?_⟩
  · cases cs; simp_all
  · have hm : IntKind.i64.max = 9223372036854775807 := by decide +kernel
    have hlo : IntKind.i64.min = -9223372036854775808 := by decide +kernel
    simp only [Lit.wf, Bool.and_eq_true, decide_eq_true_eq] at wn wk
    omega
end
theorem ofR_form (l : List UInt8) : ∃ k nm ot ky vl n e, ofR l = .tuple #[.agg #[.int .i64 k, .string nm, .string ot, .string ky, .string vl, .int .i64 n], .int .i64 e] := by
  unfold ofR ofV ofB
  split
  · exact ⟨_, _, _, _, _, _, _, rfl⟩
  · exact ⟨_, _, _, _, _, _, _, rfl⟩
set_option maxHeartbeats 8000000 in
theorem commandPuts_calls (k : Int) (nm ot ky vl : ByteArray) (m : Int) (hm : -9223372036854775808 ≤ k ∧ k ≤ 9223372036854775807 ∧ -9223372036854775808 ≤ m ∧ m ≤ 9223372036854775807) (A : Option Addr) (n c : Nat) (l : List UInt8) (w : World) (hB : BIn w A n c l) (hv : VarsOk w) :
    Calls Tryd.prog 6 #[.agg #[.int .i64 k, .string nm, .string ot, .string ky, .string vl, .int .i64 m], .slice A n c] w fun e w' => e = .returned (.bool true) ∧ Below w.heap.size w w' := by
  have hW0 := bel_al0 (Below.refl w.heap.size w) (.cells #[.int .i64 k, .string nm, .string ot, .string ky, .string vl, .int .i64 m] 30)
  have HBX := Lib.hid (blk_new w #[.int .i64 k, .string nm, .string ot, .string ky, .string vl, .int .i64 m] 30)
  have HA := Lib.hid (fun W (hW : Below w.heap.size w W) => awake19_calls W (hv.below hW))
  have HL := Lib.hid (fun W => light_calls k nm ot ky vl m W)
  by_cases hl : lightV nm ot ky vl = true
  · obtain ⟨s1, s2, s3, s4⟩ := lightV_out hl
    rw [hl] at HL
    by_cases h500 : 500 < n
    · clear hl s1 s2 s3 s4 hB hv
      have g1 : decide ((500 : Int) < (n : Int)) = true := by simp; omega
      go_enter Tryd.func6, Tryd.ntmps6
      go_wp2_with (first
        | (go_at_call 12; refine (HA.out _ hW0).mono ?_; rintro e w1 ⟨rfl, hb1⟩; obtain ⟨x0, x1, x2, x3, x4, x5, xf⟩ := blk_six (HBX.out.below hb1); have hl0 := cell_lt x0)
        | (go_at_call 16; refine (HL.out _).mono ?_; rintro e w2 ⟨rfl, hb2⟩))
      go_ret
      exact ⟨rfl, bel_tr hW0 (bel_tr hb1 hb2)⟩
    · have HOF := Lib.hid (fun W (hW : Below w.heap.size w W) => cof_calls W A n c l hB.len.symm (by have := hB.len; omega) (hB.flat.below hW) hB.nil (hv.below hW))
      have HRO := Lib.hid (fun W (hW : Below w.heap.size w W) => rof_calls W A n c l hB.len.symm (by have := hB.len; omega) (hB.flat.below hW) hB.cap)
      obtain ⟨k', nm', ot', ky', vl', m', e', hR⟩ := ofR_form l
      rw [hR] at HOF HRO
      have HP := Lib.hid (fun W => cput_calls k nm ot ky vl m (by omega) (by omega) (by omega) (by omega) hm.2.2.1 hm.2.2.2 W)
      have HRP := Lib.hid (fun W => rput_calls k nm ot ky vl m (by omega) (by omega) (by omega) (by omega) hm.2.2.1 hm.2.2.2 W)
      obtain ⟨B, hBB⟩ : ∃ B, B = putL k nm ot ky vl m := ⟨_, rfl⟩
      rw [← hBB] at HP HRP
      have g1 : decide ((500 : Int) < (n : Int)) = false := by simp; omega
      clear hl s1 s2 s3 s4 hB hv hBB hm hR
      go_enter Tryd.func6, Tryd.ntmps6
      go_upto_region 7 with (first
        | (go_at_call 12; refine (HA.out _ hW0).mono ?_; rintro e w1 ⟨rfl, hb1⟩; obtain ⟨x0, x1, x2, x3, x4, x5, xf⟩ := blk_six (HBX.out.below hb1); have hl0 := cell_lt x0)
        | (go_at_call 16; refine (HL.out _).mono ?_; rintro e w2 ⟨rfl, hb2⟩; have hB2 := bel_tr hW0 (bel_tr hb1 hb2))
        | (go_at_call 21; refine (HOF.out _ hB2).mono ?_; rintro e w3 ⟨rfl, hb3⟩; have hB3 := bel_al0 (bel_tr hB2 hb3) (.cells #[.int .i64 k', .string nm', .string ot', .string ky', .string vl', .int .i64 m'] 30))
        | (go_at_call 22; refine (HRO.out _ hB3).mono ?_; rintro e w4 ⟨rfl, hb4⟩))
      have HBa := Lib.hid (((((HBX.out.below hb1).below hb2).below hb3).al (.cells #[.int .i64 k', .string nm', .string ot', .string ky', .string vl', .int .i64 m'] 30)).below hb4 |>.al (.cells #[.int .i64 k', .string nm', .string ot', .string ky', .string vl', .int .i64 m'] 30))
      have HBb := Lib.hid (((blk_new w3 #[.int .i64 k', .string nm', .string ot', .string ky', .string vl', .int .i64 m'] 30).below hb4).al (.cells #[.int .i64 k', .string nm', .string ot', .string ky', .string vl', .int .i64 m'] 30))
      have HBc := Lib.hid (blk_new w4 #[.int .i64 k', .string nm', .string ot', .string ky', .string vl', .int .i64 m'] 30)
      have hB5 := bel_al0 (bel_tr hB3 hb4) (.cells #[.int .i64 k', .string nm', .string ot', .string ky', .string vl', .int .i64 m'] 30)
      obtain ⟨w5, hw5⟩ : ∃ w5, w5 = w4.alloc (.cells #[.int .i64 k', .string nm', .string ot', .string ky', .string vl', .int .i64 m'] 30) := ⟨_, rfl⟩
      obtain ⟨q2, hq2⟩ : ∃ q, q = w.heap.size := ⟨_, rfl⟩
      obtain ⟨q5, hq5⟩ : ∃ q, q = w3.heap.size := ⟨_, rfl⟩
      obtain ⟨q7, hq7⟩ : ∃ q, q = w4.heap.size := ⟨_, rfl⟩
      rw [← hw5] at HBa HBb HBc hB5 ⊢
      rw [← hq2] at HBa
      rw [← hq5] at HBb
      rw [← hq7] at HBc
      have HQ2 := Lib.hid hq2
      rw [← hq2, ← hq5, ← hq7]
      clear hw5 hq2 hq5 hq7 x0 x1 x2 x3 x4 x5 xf hl0 hb1 hb2 hb3 hb4 hB2 hB3 hW0 HBX HA HL HOF HRO
      obtain ⟨p0, p1, p2, p3, p4, p5, _⟩ := blk_six HBa.out
      obtain ⟨r0, r1, r2, r3, r4, r5, _⟩ := blk_six HBb.out
      obtain ⟨t0, t1, t2, t3, t4, t5, _⟩ := blk_six HBc.out
      refine wp_region_held_drew (S := (fun w' => Below w5.heap.size w5 w' ∧ w'.cell? ⟨q2, 0, none⟩ = some (.int .i64 k) ∧ w'.cell? ⟨q2, 1, none⟩ = some (.string nm) ∧ w'.cell? ⟨q2, 2, none⟩ = some (.string ot) ∧ w'.cell? ⟨q2, 3, none⟩ = some (.string ky) ∧ w'.cell? ⟨q2, 4, none⟩ = some (.string vl) ∧ w'.cell? ⟨q2, 5, none⟩ = some (.int .i64 m) ∧ w'.cell? ⟨q5, 0, none⟩ = some (.int .i64 k') ∧ w'.cell? ⟨q5, 1, none⟩ = some (.string nm') ∧ w'.cell? ⟨q5, 2, none⟩ = some (.string ot') ∧ w'.cell? ⟨q5, 3, none⟩ = some (.string ky') ∧ w'.cell? ⟨q5, 4, none⟩ = some (.string vl') ∧ w'.cell? ⟨q5, 5, none⟩ = some (.int .i64 m') ∧ w'.cell? ⟨q7, 0, none⟩ = some (.int .i64 k') ∧ w'.cell? ⟨q7, 1, none⟩ = some (.string nm') ∧ w'.cell? ⟨q7, 2, none⟩ = some (.string ot') ∧ w'.cell? ⟨q7, 3, none⟩ = some (.string ky') ∧ w'.cell? ⟨q7, 4, none⟩ = some (.string vl') ∧ w'.cell? ⟨q7, 5, none⟩ = some (.int .i64 m'))) (by kernel_rfl) ?_ (fun hHeld => ?_)
      · (((try dsimp only); (repeat' apply And.intro); all_goals (first | assumption | ((repeat (first | (with_reducible exact Below.refl _ _) | (with_reducible assumption) | (with_reducible refine bel_al0 ?_ _) | (with_reducible refine bel_set ?_ (by first | (simp; done) | (simp; omega)) _) | (with_reducible refine bel_dr ?_) | (with_reducible refine bel_drn ?_ _) | (with_reducible refine bel_tr ?_ (by assumption)))); done) | go_keep)))
      refine wpAnyH_take (i := 0) (oi := _) (v := ?_) rfl (by kernel_rfl) (by kernel_rfl) (by kernel_rfl) (fun _ _ _ h => h) (Or.inl ⟨by kernel_rfl, ?_⟩) hHeld ?_
      rotate_left
      · intro W hSw; (try dsimp only at hSw); go_simp; (try with_reducible rfl)
      (try simp only [Act.put, List.setIfInBounds_toArray, List.set_cons_zero, List.set_cons_succ])
      refine wpAnyH_take (i := 3) (oi := _) (v := ?_) rfl (by kernel_rfl) (by kernel_rfl) (by kernel_rfl) (fun _ _ _ h => h) (Or.inl ⟨by kernel_rfl, ?_⟩) hHeld ?_
      rotate_left
      · intro W hSw; (try dsimp only at hSw); go_simp; (try with_reducible rfl)
      (try simp only [Act.put, List.setIfInBounds_toArray, List.set_cons_zero, List.set_cons_succ])
      refine wpAnyH_ready (rs := [1]) (by kernel_rfl) (by simp) ?_
      refine AllReadyH.cons (o := _) rfl (fun K hK => ?_) AllReadyH.nil
      go_simp
      refine (HP.out _).mono ?_; rintro e w6 ⟨v6, rfl, ho6, hb6⟩; have hbb6 : Below w5.heap.size w5 w6 := bel_tr (by (repeat (first | (with_reducible exact Below.refl _ _) | (with_reducible assumption) | (with_reducible refine bel_al0 ?_ _) | (with_reducible refine bel_set ?_ (by first | (simp; done) | (simp; omega)) _) | (with_reducible refine bel_dr ?_) | (with_reducible refine bel_drn ?_ _) | (with_reducible refine bel_tr ?_ (by assumption))))) hb6; obtain ⟨A6, k6, rfl, _⟩ := own_form ho6; have hcv6 := run_text A6 k6 B w6 (own_flat ho6) _ rfl; have HF6 := Lib.hid (own_flat ho6); obtain ⟨c6a0, c6a1, c6a2, c6a3, c6a4, c6a5, _⟩ := blk_six (HBa.out.below hbb6); obtain ⟨c6b0, c6b1, c6b2, c6b3, c6b4, c6b5, _⟩ := blk_six (HBb.out.below hbb6); obtain ⟨c6c0, c6c1, c6c2, c6c3, c6c4, c6c5, _⟩ := blk_six (HBc.out.below hbb6)
      go_wp2_with fail
      refine hK.out _ _ ?_ (fun hHeld => ?_)
      · (((try dsimp only); (repeat' apply And.intro); all_goals (first | assumption | ((repeat (first | (with_reducible exact Below.refl _ _) | (with_reducible assumption) | (with_reducible refine bel_al0 ?_ _) | (with_reducible refine bel_set ?_ (by first | (simp; done) | (simp; omega)) _) | (with_reducible refine bel_dr ?_) | (with_reducible refine bel_drn ?_ _) | (with_reducible refine bel_tr ?_ (by assumption)))); done) | go_keep)))
      clear hK K
      (try simp only [Act.put, List.setIfInBounds_toArray, List.set_cons_zero, List.set_cons_succ])
      refine wpAnyH_ready (rs := [2, 4]) (by kernel_rfl) (by simp) ?_
      refine AllReadyH.cons (o := _) rfl (fun K hK => ?_) ?_
      · go_simp
        refine hK.out _ _ ?_ (fun hHeld => ?_)
        · (((try dsimp only); (repeat' apply And.intro); all_goals (first | assumption | ((repeat (first | (with_reducible exact Below.refl _ _) | (with_reducible assumption) | (with_reducible refine bel_al0 ?_ _) | (with_reducible refine bel_set ?_ (by first | (simp; done) | (simp; omega)) _) | (with_reducible refine bel_dr ?_) | (with_reducible refine bel_drn ?_ _) | (with_reducible refine bel_tr ?_ (by assumption)))); done) | go_keep)))
        clear hK K
        (try simp only [Act.put, List.setIfInBounds_toArray, List.set_cons_zero, List.set_cons_succ])
        refine wpAnyH_ready (rs := [4]) (by kernel_rfl) (by simp) ?_
        refine AllReadyH.cons (o := _) rfl (fun K hK => ?_) AllReadyH.nil
        go_simp
        refine (HRP.out _).mono ?_; rintro e w8 ⟨v8, rfl, ho8, hb8⟩; have hbb8 : Below w5.heap.size w5 w8 := bel_tr (by (repeat (first | (with_reducible exact Below.refl _ _) | (with_reducible assumption) | (with_reducible refine bel_al0 ?_ _) | (with_reducible refine bel_set ?_ (by first | (simp; done) | (simp; omega)) _) | (with_reducible refine bel_dr ?_) | (with_reducible refine bel_drn ?_ _) | (with_reducible refine bel_tr ?_ (by assumption))))) hb8; obtain ⟨A8, k8, rfl, _⟩ := own_form ho8; have hcv8 := run_text A8 k8 B w8 (own_flat ho8) _ rfl; have HF8 := Lib.hid (own_flat ho8); obtain ⟨c8a0, c8a1, c8a2, c8a3, c8a4, c8a5, _⟩ := blk_six (HBa.out.below hbb8); obtain ⟨c8b0, c8b1, c8b2, c8b3, c8b4, c8b5, _⟩ := blk_six (HBb.out.below hbb8); obtain ⟨c8c0, c8c1, c8c2, c8c3, c8c4, c8c5, _⟩ := blk_six (HBc.out.below hbb8) ; have hcx8 := run_text A6 k6 B w8 (HF6.out.below (by first | exact hb8 | exact bel_tr (by (repeat (first | (with_reducible exact Below.refl _ _) | (with_reducible assumption) | (with_reducible refine bel_al0 ?_ _) | (with_reducible refine bel_set ?_ (by first | (simp; done) | (simp; omega)) _) | (with_reducible refine bel_dr ?_) | (with_reducible refine bel_drn ?_ _) | (with_reducible refine bel_tr ?_ (by assumption))))) hb8)) _ rfl
        go_wp2_with fail
        refine hK.out _ _ ?_ (fun hHeld => ?_)
        · (((try dsimp only); (repeat' apply And.intro); all_goals (first | assumption | ((repeat (first | (with_reducible exact Below.refl _ _) | (with_reducible assumption) | (with_reducible refine bel_al0 ?_ _) | (with_reducible refine bel_set ?_ (by first | (simp; done) | (simp; omega)) _) | (with_reducible refine bel_dr ?_) | (with_reducible refine bel_drn ?_ _) | (with_reducible refine bel_tr ?_ (by assumption)))); done) | go_keep)))
        clear hK K
        (try simp only [Act.put, List.setIfInBounds_toArray, List.set_cons_zero, List.set_cons_succ])
        refine wpAnyH_ready (rs := [5]) (by kernel_rfl) (by simp) ?_
        refine AllReadyH.cons (o := _) rfl (fun K hK => ?_) AllReadyH.nil
        go_simp
        refine hK.out _ _ ?_ (fun hHeld => ?_)
        · (((try dsimp only); (repeat' apply And.intro); all_goals (first | assumption | ((repeat (first | (with_reducible exact Below.refl _ _) | (with_reducible assumption) | (with_reducible refine bel_al0 ?_ _) | (with_reducible refine bel_set ?_ (by first | (simp; done) | (simp; omega)) _) | (with_reducible refine bel_dr ?_) | (with_reducible refine bel_drn ?_ _) | (with_reducible refine bel_tr ?_ (by assumption)))); done) | go_keep)))
        clear hK K
        (try simp only [Act.put, List.setIfInBounds_toArray, List.set_cons_zero, List.set_cons_succ])
        refine wpAnyH_take (i := 6) (oi := _) (v := ?_) rfl (by kernel_rfl) (by kernel_rfl) (by kernel_rfl) (fun _ _ _ h => h) (Or.inl ⟨by kernel_rfl, ?_⟩) hHeld ?_
        rotate_left
        · intro W hSw; (try dsimp only at hSw); go_simp; (try with_reducible rfl)
        (try simp only [Act.put, List.setIfInBounds_toArray, List.set_cons_zero, List.set_cons_succ])
        refine wpAnyH_take (i := 7) (oi := _) (v := ?_) rfl (by kernel_rfl) (by kernel_rfl) (by kernel_rfl) (fun _ _ _ h => h) (Or.inl ⟨by kernel_rfl, ?_⟩) hHeld ?_
        rotate_left
        · intro W hSw; (try dsimp only at hSw); go_simp; (try with_reducible rfl)
        (try simp only [Act.put, List.setIfInBounds_toArray, List.set_cons_zero, List.set_cons_succ])
        refine wpAnyH_take (i := 8) (oi := _) (v := ?_) rfl (by kernel_rfl) (by kernel_rfl) (by kernel_rfl) (fun _ _ _ h => h) (Or.inl ⟨by kernel_rfl, ?_⟩) hHeld ?_
        rotate_left
        · intro W hSw; (try dsimp only at hSw); go_simp; (try with_reducible rfl)
        (try simp only [Act.put, List.setIfInBounds_toArray, List.set_cons_zero, List.set_cons_succ])
        refine wpAnyH_take (i := 9) (oi := _) (v := ?_) rfl (by kernel_rfl) (by kernel_rfl) (by kernel_rfl) (fun _ _ _ h => h) (Or.inl ⟨by kernel_rfl, ?_⟩) hHeld ?_
        rotate_left
        · intro W hSw; (try dsimp only at hSw); go_simp; (try with_reducible rfl)
        (try simp only [Act.put, List.setIfInBounds_toArray, List.set_cons_zero, List.set_cons_succ])
        refine wpAnyH_take (i := 10) (oi := _) (v := ?_) rfl (by kernel_rfl) (by kernel_rfl) (by kernel_rfl) (fun _ _ _ h => h) (Or.inl ⟨by kernel_rfl, ?_⟩) hHeld ?_
        rotate_left
        · intro W hSw; (try dsimp only at hSw); go_simp; (try with_reducible rfl)
        (try simp only [Act.put, List.setIfInBounds_toArray, List.set_cons_zero, List.set_cons_succ])
        refine wpAnyH_take (i := 11) (oi := _) (v := ?_) rfl (by kernel_rfl) (by kernel_rfl) (by kernel_rfl) (fun _ _ _ h => h) (Or.inl ⟨by kernel_rfl, ?_⟩) hHeld ?_
        rotate_left
        · intro W hSw; (try dsimp only at hSw); go_simp; (try with_reducible rfl)
        (try simp only [Act.put, List.setIfInBounds_toArray, List.set_cons_zero, List.set_cons_succ])
        refine wpAnyH_take (i := 12) (oi := _) (v := ?_) rfl (by kernel_rfl) (by kernel_rfl) (by kernel_rfl) (fun _ _ _ h => h) (Or.inl ⟨by kernel_rfl, ?_⟩) hHeld ?_
        rotate_left
        · intro W hSw; (try dsimp only at hSw); go_simp; (try with_reducible rfl)
        (try simp only [Act.put, List.setIfInBounds_toArray, List.set_cons_zero, List.set_cons_succ])
        refine wpAnyH_take (i := 13) (oi := _) (v := ?_) rfl (by kernel_rfl) (by kernel_rfl) (by kernel_rfl) (fun _ _ _ h => h) (Or.inl ⟨by kernel_rfl, ?_⟩) hHeld ?_
        rotate_left
        · intro W hSw; (try dsimp only at hSw); go_simp; (try with_reducible rfl)
        (try simp only [Act.put, List.setIfInBounds_toArray, List.set_cons_zero, List.set_cons_succ])
        refine wpAnyH_take (i := 14) (oi := _) (v := ?_) rfl (by kernel_rfl) (by kernel_rfl) (by kernel_rfl) (fun _ _ _ h => h) (Or.inl ⟨by kernel_rfl, ?_⟩) hHeld ?_
        rotate_left
        · intro W hSw; (try dsimp only at hSw); go_simp; (try with_reducible rfl)
        (try simp only [Act.put, List.setIfInBounds_toArray, List.set_cons_zero, List.set_cons_succ])
        refine wpAnyH_take (i := 15) (oi := _) (v := ?_) rfl (by kernel_rfl) (by kernel_rfl) (by kernel_rfl) (fun _ _ _ h => h) (Or.inl ⟨by kernel_rfl, ?_⟩) hHeld ?_
        rotate_left
        · intro W hSw; (try dsimp only at hSw); go_simp; (try with_reducible rfl)
        (try simp only [Act.put, List.setIfInBounds_toArray, List.set_cons_zero, List.set_cons_succ])
        refine wpAnyH_take (i := 16) (oi := _) (v := ?_) rfl (by kernel_rfl) (by kernel_rfl) (by kernel_rfl) (fun _ _ _ h => h) (Or.inl ⟨by kernel_rfl, ?_⟩) hHeld ?_
        rotate_left
        · intro W hSw; (try dsimp only at hSw); go_simp; (try with_reducible rfl)
        (try simp only [Act.put, List.setIfInBounds_toArray, List.set_cons_zero, List.set_cons_succ])
        refine wpAnyH_ready (rs := [17]) (by kernel_rfl) (by simp) ?_
        refine AllReadyH.cons (o := _) rfl (fun K hK => ?_) AllReadyH.nil
        go_simp
        refine hK.out _ _ ?_ (fun hHeld => ?_)
        · (((try dsimp only); (repeat' apply And.intro); all_goals (first | assumption | ((repeat (first | (with_reducible exact Below.refl _ _) | (with_reducible assumption) | (with_reducible refine bel_al0 ?_ _) | (with_reducible refine bel_set ?_ (by first | (simp; done) | (simp; omega)) _) | (with_reducible refine bel_dr ?_) | (with_reducible refine bel_drn ?_ _) | (with_reducible refine bel_tr ?_ (by assumption)))); done) | go_keep)))
        clear hK K
        (try simp only [Act.put, List.setIfInBounds_toArray, List.set_cons_zero, List.set_cons_succ])
        refine wpAnyH_done (by kernel_rfl) ?_ _
        go_wp2
        go_ret
        exact ⟨rfl, bel_tr hB5 (by first | assumption | ((repeat (first | (with_reducible exact Below.refl _ _) | (with_reducible assumption) | (with_reducible refine bel_al0 ?_ _) | (with_reducible refine bel_set ?_ (by first | (simp; done) | (simp; omega)) _) | (with_reducible refine bel_dr ?_) | (with_reducible refine bel_drn ?_ _) | (with_reducible refine bel_tr ?_ (by assumption))))))⟩
      refine AllReadyH.cons (o := _) rfl (fun K hK => ?_) AllReadyH.nil
      go_simp
      refine (HRP.out _).mono ?_; rintro e w8 ⟨v8, rfl, ho8, hb8⟩; have hbb8 : Below w5.heap.size w5 w8 := bel_tr (by (repeat (first | (with_reducible exact Below.refl _ _) | (with_reducible assumption) | (with_reducible refine bel_al0 ?_ _) | (with_reducible refine bel_set ?_ (by first | (simp; done) | (simp; omega)) _) | (with_reducible refine bel_dr ?_) | (with_reducible refine bel_drn ?_ _) | (with_reducible refine bel_tr ?_ (by assumption))))) hb8; obtain ⟨A8, k8, rfl, _⟩ := own_form ho8; have hcv8 := run_text A8 k8 B w8 (own_flat ho8) _ rfl; have HF8 := Lib.hid (own_flat ho8); obtain ⟨c8a0, c8a1, c8a2, c8a3, c8a4, c8a5, _⟩ := blk_six (HBa.out.below hbb8); obtain ⟨c8b0, c8b1, c8b2, c8b3, c8b4, c8b5, _⟩ := blk_six (HBb.out.below hbb8); obtain ⟨c8c0, c8c1, c8c2, c8c3, c8c4, c8c5, _⟩ := blk_six (HBc.out.below hbb8) ; have hcx8 := run_text A6 k6 B w8 (HF6.out.below (by first | exact hb8 | exact bel_tr (by (repeat (first | (with_reducible exact Below.refl _ _) | (with_reducible assumption) | (with_reducible refine bel_al0 ?_ _) | (with_reducible refine bel_set ?_ (by first | (simp; done) | (simp; omega)) _) | (with_reducible refine bel_dr ?_) | (with_reducible refine bel_drn ?_ _) | (with_reducible refine bel_tr ?_ (by assumption))))) hb8)) _ rfl
      go_wp2_with fail
      refine hK.out _ _ ?_ (fun hHeld => ?_)
      · (((try dsimp only); (repeat' apply And.intro); all_goals (first | assumption | ((repeat (first | (with_reducible exact Below.refl _ _) | (with_reducible assumption) | (with_reducible refine bel_al0 ?_ _) | (with_reducible refine bel_set ?_ (by first | (simp; done) | (simp; omega)) _) | (with_reducible refine bel_dr ?_) | (with_reducible refine bel_drn ?_ _) | (with_reducible refine bel_tr ?_ (by assumption)))); done) | go_keep)))
      clear hK K
      (try simp only [Act.put, List.setIfInBounds_toArray, List.set_cons_zero, List.set_cons_succ])
      refine wpAnyH_ready (rs := [2, 5]) (by kernel_rfl) (by simp) ?_
      refine AllReadyH.cons (o := _) rfl (fun K hK => ?_) ?_
      · go_simp
        refine hK.out _ _ ?_ (fun hHeld => ?_)
        · (((try dsimp only); (repeat' apply And.intro); all_goals (first | assumption | ((repeat (first | (with_reducible exact Below.refl _ _) | (with_reducible assumption) | (with_reducible refine bel_al0 ?_ _) | (with_reducible refine bel_set ?_ (by first | (simp; done) | (simp; omega)) _) | (with_reducible refine bel_dr ?_) | (with_reducible refine bel_drn ?_ _) | (with_reducible refine bel_tr ?_ (by assumption)))); done) | go_keep)))
        clear hK K
        (try simp only [Act.put, List.setIfInBounds_toArray, List.set_cons_zero, List.set_cons_succ])
        refine wpAnyH_ready (rs := [5]) (by kernel_rfl) (by simp) ?_
        refine AllReadyH.cons (o := _) rfl (fun K hK => ?_) AllReadyH.nil
        go_simp
        refine hK.out _ _ ?_ (fun hHeld => ?_)
        · (((try dsimp only); (repeat' apply And.intro); all_goals (first | assumption | ((repeat (first | (with_reducible exact Below.refl _ _) | (with_reducible assumption) | (with_reducible refine bel_al0 ?_ _) | (with_reducible refine bel_set ?_ (by first | (simp; done) | (simp; omega)) _) | (with_reducible refine bel_dr ?_) | (with_reducible refine bel_drn ?_ _) | (with_reducible refine bel_tr ?_ (by assumption)))); done) | go_keep)))
        clear hK K
        (try simp only [Act.put, List.setIfInBounds_toArray, List.set_cons_zero, List.set_cons_succ])
        refine wpAnyH_take (i := 6) (oi := _) (v := ?_) rfl (by kernel_rfl) (by kernel_rfl) (by kernel_rfl) (fun _ _ _ h => h) (Or.inl ⟨by kernel_rfl, ?_⟩) hHeld ?_
        rotate_left
        · intro W hSw; (try dsimp only at hSw); go_simp; (try with_reducible rfl)
        (try simp only [Act.put, List.setIfInBounds_toArray, List.set_cons_zero, List.set_cons_succ])
        refine wpAnyH_take (i := 7) (oi := _) (v := ?_) rfl (by kernel_rfl) (by kernel_rfl) (by kernel_rfl) (fun _ _ _ h => h) (Or.inl ⟨by kernel_rfl, ?_⟩) hHeld ?_
        rotate_left
        · intro W hSw; (try dsimp only at hSw); go_simp; (try with_reducible rfl)
        (try simp only [Act.put, List.setIfInBounds_toArray, List.set_cons_zero, List.set_cons_succ])
        refine wpAnyH_take (i := 8) (oi := _) (v := ?_) rfl (by kernel_rfl) (by kernel_rfl) (by kernel_rfl) (fun _ _ _ h => h) (Or.inl ⟨by kernel_rfl, ?_⟩) hHeld ?_
        rotate_left
        · intro W hSw; (try dsimp only at hSw); go_simp; (try with_reducible rfl)
        (try simp only [Act.put, List.setIfInBounds_toArray, List.set_cons_zero, List.set_cons_succ])
        refine wpAnyH_take (i := 9) (oi := _) (v := ?_) rfl (by kernel_rfl) (by kernel_rfl) (by kernel_rfl) (fun _ _ _ h => h) (Or.inl ⟨by kernel_rfl, ?_⟩) hHeld ?_
        rotate_left
        · intro W hSw; (try dsimp only at hSw); go_simp; (try with_reducible rfl)
        (try simp only [Act.put, List.setIfInBounds_toArray, List.set_cons_zero, List.set_cons_succ])
        refine wpAnyH_take (i := 10) (oi := _) (v := ?_) rfl (by kernel_rfl) (by kernel_rfl) (by kernel_rfl) (fun _ _ _ h => h) (Or.inl ⟨by kernel_rfl, ?_⟩) hHeld ?_
        rotate_left
        · intro W hSw; (try dsimp only at hSw); go_simp; (try with_reducible rfl)
        (try simp only [Act.put, List.setIfInBounds_toArray, List.set_cons_zero, List.set_cons_succ])
        refine wpAnyH_take (i := 11) (oi := _) (v := ?_) rfl (by kernel_rfl) (by kernel_rfl) (by kernel_rfl) (fun _ _ _ h => h) (Or.inl ⟨by kernel_rfl, ?_⟩) hHeld ?_
        rotate_left
        · intro W hSw; (try dsimp only at hSw); go_simp; (try with_reducible rfl)
        (try simp only [Act.put, List.setIfInBounds_toArray, List.set_cons_zero, List.set_cons_succ])
        refine wpAnyH_take (i := 12) (oi := _) (v := ?_) rfl (by kernel_rfl) (by kernel_rfl) (by kernel_rfl) (fun _ _ _ h => h) (Or.inl ⟨by kernel_rfl, ?_⟩) hHeld ?_
        rotate_left
        · intro W hSw; (try dsimp only at hSw); go_simp; (try with_reducible rfl)
        (try simp only [Act.put, List.setIfInBounds_toArray, List.set_cons_zero, List.set_cons_succ])
        refine wpAnyH_take (i := 13) (oi := _) (v := ?_) rfl (by kernel_rfl) (by kernel_rfl) (by kernel_rfl) (fun _ _ _ h => h) (Or.inl ⟨by kernel_rfl, ?_⟩) hHeld ?_
        rotate_left
        · intro W hSw; (try dsimp only at hSw); go_simp; (try with_reducible rfl)
        (try simp only [Act.put, List.setIfInBounds_toArray, List.set_cons_zero, List.set_cons_succ])
        refine wpAnyH_take (i := 14) (oi := _) (v := ?_) rfl (by kernel_rfl) (by kernel_rfl) (by kernel_rfl) (fun _ _ _ h => h) (Or.inl ⟨by kernel_rfl, ?_⟩) hHeld ?_
        rotate_left
        · intro W hSw; (try dsimp only at hSw); go_simp; (try with_reducible rfl)
        (try simp only [Act.put, List.setIfInBounds_toArray, List.set_cons_zero, List.set_cons_succ])
        refine wpAnyH_take (i := 15) (oi := _) (v := ?_) rfl (by kernel_rfl) (by kernel_rfl) (by kernel_rfl) (fun _ _ _ h => h) (Or.inl ⟨by kernel_rfl, ?_⟩) hHeld ?_
        rotate_left
        · intro W hSw; (try dsimp only at hSw); go_simp; (try with_reducible rfl)
        (try simp only [Act.put, List.setIfInBounds_toArray, List.set_cons_zero, List.set_cons_succ])
        refine wpAnyH_take (i := 16) (oi := _) (v := ?_) rfl (by kernel_rfl) (by kernel_rfl) (by kernel_rfl) (fun _ _ _ h => h) (Or.inl ⟨by kernel_rfl, ?_⟩) hHeld ?_
        rotate_left
        · intro W hSw; (try dsimp only at hSw); go_simp; (try with_reducible rfl)
        (try simp only [Act.put, List.setIfInBounds_toArray, List.set_cons_zero, List.set_cons_succ])
        refine wpAnyH_ready (rs := [17]) (by kernel_rfl) (by simp) ?_
        refine AllReadyH.cons (o := _) rfl (fun K hK => ?_) AllReadyH.nil
        go_simp
        refine hK.out _ _ ?_ (fun hHeld => ?_)
        · (((try dsimp only); (repeat' apply And.intro); all_goals (first | assumption | ((repeat (first | (with_reducible exact Below.refl _ _) | (with_reducible assumption) | (with_reducible refine bel_al0 ?_ _) | (with_reducible refine bel_set ?_ (by first | (simp; done) | (simp; omega)) _) | (with_reducible refine bel_dr ?_) | (with_reducible refine bel_drn ?_ _) | (with_reducible refine bel_tr ?_ (by assumption)))); done) | go_keep)))
        clear hK K
        (try simp only [Act.put, List.setIfInBounds_toArray, List.set_cons_zero, List.set_cons_succ])
        refine wpAnyH_done (by kernel_rfl) ?_ _
        go_wp2
        go_ret
        exact ⟨rfl, bel_tr hB5 (by first | assumption | ((repeat (first | (with_reducible exact Below.refl _ _) | (with_reducible assumption) | (with_reducible refine bel_al0 ?_ _) | (with_reducible refine bel_set ?_ (by first | (simp; done) | (simp; omega)) _) | (with_reducible refine bel_dr ?_) | (with_reducible refine bel_drn ?_ _) | (with_reducible refine bel_tr ?_ (by assumption))))))⟩
      refine AllReadyH.cons (o := _) rfl (fun K hK => ?_) AllReadyH.nil
      go_simp
      refine hK.out _ _ ?_ (fun hHeld => ?_)
      · (((try dsimp only); (repeat' apply And.intro); all_goals (first | assumption | ((repeat (first | (with_reducible exact Below.refl _ _) | (with_reducible assumption) | (with_reducible refine bel_al0 ?_ _) | (with_reducible refine bel_set ?_ (by first | (simp; done) | (simp; omega)) _) | (with_reducible refine bel_dr ?_) | (with_reducible refine bel_drn ?_ _) | (with_reducible refine bel_tr ?_ (by assumption)))); done) | go_keep)))
      clear hK K
      (try simp only [Act.put, List.setIfInBounds_toArray, List.set_cons_zero, List.set_cons_succ])
      refine wpAnyH_ready (rs := [2]) (by kernel_rfl) (by simp) ?_
      refine AllReadyH.cons (o := _) rfl (fun K hK => ?_) AllReadyH.nil
      go_simp
      refine hK.out _ _ ?_ (fun hHeld => ?_)
      · (((try dsimp only); (repeat' apply And.intro); all_goals (first | assumption | ((repeat (first | (with_reducible exact Below.refl _ _) | (with_reducible assumption) | (with_reducible refine bel_al0 ?_ _) | (with_reducible refine bel_set ?_ (by first | (simp; done) | (simp; omega)) _) | (with_reducible refine bel_dr ?_) | (with_reducible refine bel_drn ?_ _) | (with_reducible refine bel_tr ?_ (by assumption)))); done) | go_keep)))
      clear hK K
      (try simp only [Act.put, List.setIfInBounds_toArray, List.set_cons_zero, List.set_cons_succ])
      refine wpAnyH_take (i := 6) (oi := _) (v := ?_) rfl (by kernel_rfl) (by kernel_rfl) (by kernel_rfl) (fun _ _ _ h => h) (Or.inl ⟨by kernel_rfl, ?_⟩) hHeld ?_
      rotate_left
      · intro W hSw; (try dsimp only at hSw); go_simp; (try with_reducible rfl)
      (try simp only [Act.put, List.setIfInBounds_toArray, List.set_cons_zero, List.set_cons_succ])
      refine wpAnyH_take (i := 7) (oi := _) (v := ?_) rfl (by kernel_rfl) (by kernel_rfl) (by kernel_rfl) (fun _ _ _ h => h) (Or.inl ⟨by kernel_rfl, ?_⟩) hHeld ?_
      rotate_left
      · intro W hSw; (try dsimp only at hSw); go_simp; (try with_reducible rfl)
      (try simp only [Act.put, List.setIfInBounds_toArray, List.set_cons_zero, List.set_cons_succ])
      refine wpAnyH_take (i := 8) (oi := _) (v := ?_) rfl (by kernel_rfl) (by kernel_rfl) (by kernel_rfl) (fun _ _ _ h => h) (Or.inl ⟨by kernel_rfl, ?_⟩) hHeld ?_
      rotate_left
      · intro W hSw; (try dsimp only at hSw); go_simp; (try with_reducible rfl)
      (try simp only [Act.put, List.setIfInBounds_toArray, List.set_cons_zero, List.set_cons_succ])
      refine wpAnyH_take (i := 9) (oi := _) (v := ?_) rfl (by kernel_rfl) (by kernel_rfl) (by kernel_rfl) (fun _ _ _ h => h) (Or.inl ⟨by kernel_rfl, ?_⟩) hHeld ?_
      rotate_left
      · intro W hSw; (try dsimp only at hSw); go_simp; (try with_reducible rfl)
      (try simp only [Act.put, List.setIfInBounds_toArray, List.set_cons_zero, List.set_cons_succ])
      refine wpAnyH_take (i := 10) (oi := _) (v := ?_) rfl (by kernel_rfl) (by kernel_rfl) (by kernel_rfl) (fun _ _ _ h => h) (Or.inl ⟨by kernel_rfl, ?_⟩) hHeld ?_
      rotate_left
      · intro W hSw; (try dsimp only at hSw); go_simp; (try with_reducible rfl)
      (try simp only [Act.put, List.setIfInBounds_toArray, List.set_cons_zero, List.set_cons_succ])
      refine wpAnyH_take (i := 11) (oi := _) (v := ?_) rfl (by kernel_rfl) (by kernel_rfl) (by kernel_rfl) (fun _ _ _ h => h) (Or.inl ⟨by kernel_rfl, ?_⟩) hHeld ?_
      rotate_left
      · intro W hSw; (try dsimp only at hSw); go_simp; (try with_reducible rfl)
      (try simp only [Act.put, List.setIfInBounds_toArray, List.set_cons_zero, List.set_cons_succ])
      refine wpAnyH_take (i := 12) (oi := _) (v := ?_) rfl (by kernel_rfl) (by kernel_rfl) (by kernel_rfl) (fun _ _ _ h => h) (Or.inl ⟨by kernel_rfl, ?_⟩) hHeld ?_
      rotate_left
      · intro W hSw; (try dsimp only at hSw); go_simp; (try with_reducible rfl)
      (try simp only [Act.put, List.setIfInBounds_toArray, List.set_cons_zero, List.set_cons_succ])
      refine wpAnyH_take (i := 13) (oi := _) (v := ?_) rfl (by kernel_rfl) (by kernel_rfl) (by kernel_rfl) (fun _ _ _ h => h) (Or.inl ⟨by kernel_rfl, ?_⟩) hHeld ?_
      rotate_left
      · intro W hSw; (try dsimp only at hSw); go_simp; (try with_reducible rfl)
      (try simp only [Act.put, List.setIfInBounds_toArray, List.set_cons_zero, List.set_cons_succ])
      refine wpAnyH_take (i := 14) (oi := _) (v := ?_) rfl (by kernel_rfl) (by kernel_rfl) (by kernel_rfl) (fun _ _ _ h => h) (Or.inl ⟨by kernel_rfl, ?_⟩) hHeld ?_
      rotate_left
      · intro W hSw; (try dsimp only at hSw); go_simp; (try with_reducible rfl)
      (try simp only [Act.put, List.setIfInBounds_toArray, List.set_cons_zero, List.set_cons_succ])
      refine wpAnyH_take (i := 15) (oi := _) (v := ?_) rfl (by kernel_rfl) (by kernel_rfl) (by kernel_rfl) (fun _ _ _ h => h) (Or.inl ⟨by kernel_rfl, ?_⟩) hHeld ?_
      rotate_left
      · intro W hSw; (try dsimp only at hSw); go_simp; (try with_reducible rfl)
      (try simp only [Act.put, List.setIfInBounds_toArray, List.set_cons_zero, List.set_cons_succ])
      refine wpAnyH_take (i := 16) (oi := _) (v := ?_) rfl (by kernel_rfl) (by kernel_rfl) (by kernel_rfl) (fun _ _ _ h => h) (Or.inl ⟨by kernel_rfl, ?_⟩) hHeld ?_
      rotate_left
      · intro W hSw; (try dsimp only at hSw); go_simp; (try with_reducible rfl)
      (try simp only [Act.put, List.setIfInBounds_toArray, List.set_cons_zero, List.set_cons_succ])
      refine wpAnyH_ready (rs := [17]) (by kernel_rfl) (by simp) ?_
      refine AllReadyH.cons (o := _) rfl (fun K hK => ?_) AllReadyH.nil
      go_simp
      refine hK.out _ _ ?_ (fun hHeld => ?_)
      · (((try dsimp only); (repeat' apply And.intro); all_goals (first | assumption | ((repeat (first | (with_reducible exact Below.refl _ _) | (with_reducible assumption) | (with_reducible refine bel_al0 ?_ _) | (with_reducible refine bel_set ?_ (by first | (simp; done) | (simp; omega)) _) | (with_reducible refine bel_dr ?_) | (with_reducible refine bel_drn ?_ _) | (with_reducible refine bel_tr ?_ (by assumption)))); done) | go_keep)))
      clear hK K
      (try simp only [Act.put, List.setIfInBounds_toArray, List.set_cons_zero, List.set_cons_succ])
      refine wpAnyH_done (by kernel_rfl) ?_ _
      go_wp2
      go_ret
      exact ⟨rfl, bel_tr hB5 (by first | assumption | ((repeat (first | (with_reducible exact Below.refl _ _) | (with_reducible assumption) | (with_reducible refine bel_al0 ?_ _) | (with_reducible refine bel_set ?_ (by first | (simp; done) | (simp; omega)) _) | (with_reducible refine bel_dr ?_) | (with_reducible refine bel_drn ?_ _) | (with_reducible refine bel_tr ?_ (by assumption))))))⟩
  · have hl' : lightV nm ot ky vl = false := by simpa using hl
    rw [hl'] at HL
    clear hl hl' hB hv
    go_enter Tryd.func6, Tryd.ntmps6
    go_wp2_with (first
      | (go_at_call 12; refine (HA.out _ hW0).mono ?_; rintro e w1 ⟨rfl, hb1⟩; obtain ⟨x0, x1, x2, x3, x4, x5, xf⟩ := blk_six (HBX.out.below hb1); have hl0 := cell_lt x0)
      | (go_at_call 16; refine (HL.out _).mono ?_; rintro e w2 ⟨rfl, hb2⟩))
    go_ret
    exact ⟨rfl, bel_tr hW0 (bel_tr hb1 hb2)⟩
theorem commandPuts_all (w : World) (k : Int) (nm ot ky vl : ByteArray) (m : Int) (hm : -9223372036854775808 ≤ k ∧ k ≤ 9223372036854775807 ∧ -9223372036854775808 ≤ m ∧ m ≤ 9223372036854775807) (A : Option Addr) (n c : Nat) (l : List UInt8) (hB : BIn w A n c l) (hv : VarsOk w) :
    Calls Tryd.prog 6 #[.agg #[.int .i64 k, .string nm, .string ot, .string ky, .string vl, .int .i64 m], .slice A n c] w fun e w' => e = .returned (.bool true) ∧ Below w.heap.size w w' := commandPuts_calls k nm ot ky vl m hm A n c l w hB hv
end Go.Proofs.YtehneliphhgegaaDoor
