/- The law NameSteps, walked. -/
import Derived.Test.YtehneliphhgegaaDoorDLawN
set_option linter.unusedVariables false
set_option linter.unusedSimpArgs false
set_option maxRecDepth 100000
namespace Go.Proofs.YtehneliphhgegaaDoor
open Go.RowKit Go.Apo

set_option maxHeartbeats 16000000 in
theorem nameSteps_calls (w : World) (A : Option Addr) (n k : Nat) (l : List CommitD) (h : CIn w A n l) (A2 : Option Addr) (n2 k2 : Nat) (rs : List RefD) (h2 : RefRow w A2 n2 rs) (X : Int) (hv : VarsOk w) :
    Calls Tryd.prog 11 #[.slice A n k, .slice A2 n2 k2, .int .i64 X] w fun e w' => e = .returned (.bool true) ∧ Below w.heap.size w w' := by
  have HA := Lib.hid (awake33_calls w hv)
  have HF := Lib.hid (fun W (hW : Below w.heap.size w W) => few15_calls W A n k l (h.below hW))
  have HF2 := Lib.hid (fun W (hW : Below w.heap.size w W) => few16_calls W A2 n2 k2 rs (h2.below hW))
  by_cases hfew : few l = true
  case neg =>
    have e2 : few l = false := by simpa using hfew
    rw [e2] at HF
    clear h h2 hfew e2
    go_enter Tryd.func11, Tryd.ntmps11
    go_wp2_with (first | (go_at_call 25; refine HA.out.mono ?_; rintro e w1 ⟨rfl, hb1⟩) | (go_at_call 28; refine (HF.out _ hb1).mono ?_; rintro e w2 ⟨rfl, hb2⟩; have d2 := bel_tr hb1 hb2))
    go_ret
    exact ⟨rfl, d2⟩
  rw [hfew] at HF
  by_cases hfew2 : fewB rs = true
  case neg =>
    have e2 : fewB rs = false := by simpa using hfew2
    rw [e2] at HF2
    clear h h2 hfew hfew2 e2
    go_enter Tryd.func11, Tryd.ntmps11
    go_wp2_with (first | (go_at_call 25; refine HA.out.mono ?_; rintro e w1 ⟨rfl, hb1⟩) | (go_at_call 28; refine (HF.out _ hb1).mono ?_; rintro e w2 ⟨rfl, hb2⟩; have d2 := bel_tr hb1 hb2) | (go_at_call 29; refine (HF2.out _ d2).mono ?_; rintro e w3 ⟨rfl, hb3⟩; have d3 := bel_tr d2 hb3))
    go_ret
    exact ⟨rfl, d3⟩
  rw [hfew2] at HF2
  by_cases hX0 : X < 0
  case pos =>
    have g1 : decide (X < 0) = true := by simpa using hX0
    clear h h2 hfew hfew2
    go_enter Tryd.func11, Tryd.ntmps11
    go_wp2_with (first | (go_at_call 25; refine HA.out.mono ?_; rintro e w1 ⟨rfl, hb1⟩) | (go_at_call 28; refine (HF.out _ hb1).mono ?_; rintro e w2 ⟨rfl, hb2⟩; have d2 := bel_tr hb1 hb2) | (go_at_call 29; refine (HF2.out _ d2).mono ?_; rintro e w3 ⟨rfl, hb3⟩; have d3 := bel_tr d2 hb3))
    go_ret
    exact ⟨rfl, d3⟩
  have g1 : decide (X < 0) = false := by simpa using hX0
  by_cases hX1 : 1000 < X
  case pos =>
    have g2 : decide (1000 < X) = true := by simpa using hX1
    clear h h2 hfew hfew2
    go_enter Tryd.func11, Tryd.ntmps11
    go_wp2_with (first | (go_at_call 25; refine HA.out.mono ?_; rintro e w1 ⟨rfl, hb1⟩) | (go_at_call 28; refine (HF.out _ hb1).mono ?_; rintro e w2 ⟨rfl, hb2⟩; have d2 := bel_tr hb1 hb2) | (go_at_call 29; refine (HF2.out _ d2).mono ?_; rintro e w3 ⟨rfl, hb3⟩; have d3 := bel_tr d2 hb3))
    go_ret
    exact ⟨rfl, d3⟩
  obtain ⟨xN, rfl⟩ : ∃ xN : Nat, X = xN := ⟨X.toNat, by omega⟩
  have hx1000 : xN ≤ 1000 := by omega
  have g1 : decide (((xN : Nat) : Int) < 0) = false := by simp
  have g2 : decide ((1000 : Int) < ((xN : Nat) : Int)) = false := by simp; omega
  by_cases hn0 : n2 = 0
  case pos =>
    subst hn0
    clear h h2 hfew hfew2 hX0 hX1
    go_enter Tryd.func11, Tryd.ntmps11
    go_wp2_with (first | (go_at_call 25; refine HA.out.mono ?_; rintro e w1 ⟨rfl, hb1⟩) | (go_at_call 28; refine (HF.out _ hb1).mono ?_; rintro e w2 ⟨rfl, hb2⟩; have d2 := bel_tr hb1 hb2) | (go_at_call 29; refine (HF2.out _ d2).mono ?_; rintro e w3 ⟨rfl, hb3⟩; have d3 := bel_tr d2 hb3))
    go_ret
    exact ⟨rfl, d3⟩
  have g3 : (((n2 : Nat) : Int) == 0) = false := by simp; omega
  have h0n : 0 < n2 := by omega
  have hg := graphN h hfew
  have hn2 : n2 ≤ 45 := by have := fewB_len hfew2; have := h2.len; omega
  have hsz := fewB_size hfew2
  obtain ⟨r0, hr0⟩ : ∃ r0, rs[0]? = some r0 := ⟨_, List.getElem?_eq_getElem (by rw [h2.len]; omega)⟩
  have hf40 := hsz r0 (List.mem_of_getElem? hr0)
  have hdz := dec_size (u := xN) (by omega)
  have HM := Lib.hid (fun W (hW : Below w.heap.size w W) => made_calls W A n k l (h.below hW) hfew)
  unfold MadePost at HM
  have HC := Lib.hid (fun W (hW : Below w.heap.size w W) p m (hG : GraphAt W p m (madeL l)) s (hs : s.size ≤ 1000) => cfind_calls W (some ⟨p, 0, none⟩) (madeL l) (Or.inl ⟨p, m, rfl, hG⟩) hg.falls hg.line A2 n2 k2 rs (h2.below hW) (by omega) s (by omega) (hv.below hW))
  have HC1 := Lib.hid (fun W hW p m hG => HC.out W hW p m hG r0.name (by omega))
  have HC2 := Lib.hid (fun W hW p m hG => HC.out W hW p m hG (r0.name ++ ⟨#[126]⟩ ++ dec xN) (by rw [ByteArray.size_append, ByteArray.size_append]; show r0.name.size + 1 + (dec xN).size ≤ 1000; omega))
  have HL := Lib.hid (fun W (hW : Below w.heap.size w W) x (hG : RGraphAt W x (madeR l)) => rline_calls W x (madeL l) (madeR l) hG hg.sync hg.falls hg.nz (by have := hg.rlen; omega) r0.id)
  unfold NumsOwn at HL
  have HD := Lib.hid (fun W => decimal_calls xN (by omega) W)
  have HS := Lib.hid (fun W => rsplit_calls r0.name (by omega) W)
  have HSE := Lib.hid (fun h1 h2 h3 h4 => @find_self (madeL l) rs r0 hr0 h1 h2 h3 h4)
  obtain ⟨b, off, rfl, hcell⟩ := h2.at_ (by omega)
  obtain ⟨c0, _, c2⟩ := hcell 0 r0 hr0
  simp only [Nat.zero_mul, Nat.add_zero] at c0 c2
  have hll := hg.line r0.id
  have e1 : IntKind.u64.wrap ((xN : Nat) : Int) = (xN : Int) := by rw [IntKind.wrap_u64]; omega
  have HNE : Hid ((splitV r0.name).2.2 = true → r0.name ≠ ⟨#[]⟩) := fun h e => by
    rw [e] at h
    revert h
    have h1 : cutV ⟨#[]⟩ = (⟨#[]⟩, ⟨#[]⟩, false) := cutV_no (tildeI_none fun k hk => absurd hk (Nat.not_lt_zero _))
    have h2 : (refV ⟨#[]⟩).2.2 = false := by
      unfold refV
      rw [nameB_no (Or.inl (by decide)), if_neg (by simp), if_pos (Or.inl (by decide))]
      rfl
    rw [split_no h1 h2]
    simp [splitBad]
  obtain ⟨V1, hV1⟩ : ∃ V1, V1 = findO (madeL l) rs r0.name := ⟨_, rfl⟩
  rw [← hV1] at HC1 HSE
  obtain ⟨V2, hV2⟩ : ∃ V2, V2 = findO (madeL l) rs (r0.name ++ ⟨#[126]⟩ ++ dec xN) := ⟨_, rfl⟩
  rw [← hV2] at HC2
  have HSE2 : Hid (r0.name ≠ ⟨#[]⟩ → byteAt r0.name 0 ≠ 64 → (∀ k, k < r0.name.size → byteAt r0.name k ≠ 126) → (splitV r0.name).2.2 = true → V1 = (lineL (madeL l) r0.id)[0]? ∧ V2 = (lineL (madeL l) r0.id)[xN]?) := fun h1 h2 h3 h4 => by
    obtain ⟨q1, q2⟩ := HSE.out h1 h2 h3 h4
    exact ⟨q1, by rw [hV2]; exact q2 xN (by omega)⟩
  obtain ⟨LN, hLN⟩ : ∃ LN, LN = lineL (madeL l) r0.id := ⟨_, rfl⟩
  rw [← hLN] at HL hll HSE2
  obtain ⟨SPV, hSPV⟩ : ∃ SPV, SPV = splitV r0.name := ⟨_, rfl⟩
  rw [← hSPV] at HS HNE HSE2
  obtain ⟨fr, hfr⟩ : ∃ fr, fr = r0.name := ⟨_, rfl⟩
  rw [← hfr] at c0 HC1 HC2 HS HNE HSE2 hf40
  obtain ⟨ri, hri⟩ : ∃ ri, ri = r0.id := ⟨_, rfl⟩
  rw [← hri] at c2 HL
  clear hV1 hV2 hLN hSPV hfr hri HC HSE hg hsz hfew hfew2 h h2 hr0 hcell hX0 hX1 hn0 hn2
  obtain ⟨sf, sk, ok⟩ := SPV
  unfold splitT at HS
  simp only at HS HNE HSE2
  have HIX : Hid (∀ q, q < LN.length → ∃ x, LN[q]? = some x) := fun q hq => ⟨_, List.getElem?_eq_getElem hq⟩
  have HNO : Hid (∀ q, LN.length ≤ q → LN[q]? = none) := fun q hq => List.getElem?_eq_none hq
  obtain ⟨ll, hll2⟩ : ∃ ll, ll = LN.length := ⟨_, rfl⟩
  rw [← hll2] at HL hll HIX HNO
  clear hll2
  obtain ⟨p1, hp1⟩ : ∃ p1, p1 = namedV V1 := ⟨_, rfl⟩
  obtain ⟨p2, hp2⟩ : ∃ p2, p2 = namedV V2 := ⟨_, rfl⟩
  rw [← hp1] at HC1
  rw [← hp2] at HC2
  obtain ⟨i1, b1⟩ := p1
  obtain ⟨i2, b2⟩ := p2
  unfold idT at HC1 HC2
  simp only at HC1 HC2
  have HP1 := Lib.hid hp1.symm
  have HP2 := Lib.hid hp2.symm
  clear hp1 hp2
  have hbl := cell_lt c0
  cases ok with
  | false =>
    go_enter Tryd.func11, Tryd.ntmps11
    go_wp2_with (first | (go_at_call 25; refine HA.out.mono ?_; rintro e w1 ⟨rfl, hb1⟩) | (go_at_call 28; refine (HF.out _ hb1).mono ?_; rintro e w2 ⟨rfl, hb2⟩; have d2 := bel_tr hb1 hb2) | (go_at_call 29; refine (HF2.out _ d2).mono ?_; rintro e w3 ⟨rfl, hb3⟩; have d3 := bel_tr d2 hb3) | (go_at_call 30; refine (HM.out _ d3).mono ?_; rintro e w4 ⟨p, m, x, rfl, hg4, hr4, hb4, _, _, _⟩; have d4 := bel_tr d3 hb4; have HG4 := Lib.hid hg4; have HR4 := Lib.hid hr4; clear hg4 hr4; have e0 := cell_bel c0 d4) | (go_at_call 31; with_reducible refine (HC1.out _ d4 p m HG4.out).mono ?_; rintro e w5 ⟨rfl, hb5⟩; have d5 := bel_tr d4 hb5) | (go_at_call 35; refine (HD.out _).mono ?_; rintro e w6 ⟨rfl, hb6⟩; have d6 := bel_tr d5 hb6; have b46 := bel_tr hb5 hb6) | (go_at_call 31; with_reducible refine (HC2.out _ d6 p m (HG4.out.below b46)).mono ?_; rintro e w7 ⟨rfl, hb7⟩; have d7 := bel_tr d6 hb7; have b47 := bel_tr b46 hb7; have e2 := cell_bel c2 d7) | (go_at_call 36; refine (HL.out _ d7 x (HR4.out.below b47)).mono ?_; rintro e w8 ⟨v8, rfl, ho8, hb8⟩; obtain ⟨A8, c8, rfl, hc8⟩ := own_form ho8; have HFL := Lib.hid (own_flat ho8); clear ho8; have d8 := bel_tr d7 hb8) | (go_at_call 27; refine (HS.out _).mono ?_; rintro e w9 ⟨rfl, hb9⟩; have d9 := bel_tr d8 hb9))
    go_ret
    exact ⟨rfl, d9⟩
  | true =>
    have hne := HNE.out rfl
    have hE2 : ¬ fr.toList = [] := fun e => hne (by
      have := ByteArray.toList_eq (bs := fr)
      apply ByteArray.ext
      rw [e] at this
      apply Array.ext'
      rw [← this])
    have hE3 : (fr.toList == []) = false := by simpa using hE2
    have hE4 : (fr.toList == (⟨#[]⟩ : ByteArray).toList) = false := text_ne hne
    have hfz : 0 < fr.size := by
      rcases Nat.eq_zero_or_pos fr.size with h0 | h0
      · exact absurd (ByteArray.ext (Array.eq_empty_of_size_eq_zero h0)) hne
      · exact h0
    have hx0 := byteAt_get fr 0 hfz
    by_cases h64 : byteAt fr 0 = 64
    · rw [h64] at hx0
      clear hne
      go_enter Tryd.func11, Tryd.ntmps11
      go_wp2_with (first | (go_at_call 25; refine HA.out.mono ?_; rintro e w1 ⟨rfl, hb1⟩) | (go_at_call 28; refine (HF.out _ hb1).mono ?_; rintro e w2 ⟨rfl, hb2⟩; have d2 := bel_tr hb1 hb2) | (go_at_call 29; refine (HF2.out _ d2).mono ?_; rintro e w3 ⟨rfl, hb3⟩; have d3 := bel_tr d2 hb3) | (go_at_call 30; refine (HM.out _ d3).mono ?_; rintro e w4 ⟨p, m, x, rfl, hg4, hr4, hb4, _, _, _⟩; have d4 := bel_tr d3 hb4; have HG4 := Lib.hid hg4; have HR4 := Lib.hid hr4; clear hg4 hr4; have e0 := cell_bel c0 d4) | (go_at_call 31; with_reducible refine (HC1.out _ d4 p m HG4.out).mono ?_; rintro e w5 ⟨rfl, hb5⟩; have d5 := bel_tr d4 hb5) | (go_at_call 35; refine (HD.out _).mono ?_; rintro e w6 ⟨rfl, hb6⟩; have d6 := bel_tr d5 hb6; have b46 := bel_tr hb5 hb6) | (go_at_call 31; with_reducible refine (HC2.out _ d6 p m (HG4.out.below b46)).mono ?_; rintro e w7 ⟨rfl, hb7⟩; have d7 := bel_tr d6 hb7; have b47 := bel_tr b46 hb7; have e2 := cell_bel c2 d7) | (go_at_call 36; refine (HL.out _ d7 x (HR4.out.below b47)).mono ?_; rintro e w8 ⟨v8, rfl, ho8, hb8⟩; obtain ⟨A8, c8, rfl, hc8⟩ := own_form ho8; have HFL := Lib.hid (own_flat ho8); clear ho8; have d8 := bel_tr d7 hb8) | (go_at_call 27; refine (HS.out _).mono ?_; rintro e w9 ⟨rfl, hb9⟩; have d9 := bel_tr d8 hb9))
      go_ret
      exact ⟨rfl, d9⟩
    · have g4 : (((fr[0]).toNat : Int) == 64) = false := by rw [hx0]; simp; omega
      have HX64 := Lib.hid h64
      have HNE2 := Lib.hid hne
      clear hne h64 hx0
      by_cases hl0 : ll = 0
      · subst hl0
        go_enter Tryd.func11, Tryd.ntmps11
        go_wp2_with (first | (go_at_call 25; refine HA.out.mono ?_; rintro e w1 ⟨rfl, hb1⟩) | (go_at_call 28; refine (HF.out _ hb1).mono ?_; rintro e w2 ⟨rfl, hb2⟩; have d2 := bel_tr hb1 hb2) | (go_at_call 29; refine (HF2.out _ d2).mono ?_; rintro e w3 ⟨rfl, hb3⟩; have d3 := bel_tr d2 hb3) | (go_at_call 30; refine (HM.out _ d3).mono ?_; rintro e w4 ⟨p, m, x, rfl, hg4, hr4, hb4, _, _, _⟩; have d4 := bel_tr d3 hb4; have HG4 := Lib.hid hg4; have HR4 := Lib.hid hr4; clear hg4 hr4; have e0 := cell_bel c0 d4) | (go_at_call 31; with_reducible refine (HC1.out _ d4 p m HG4.out).mono ?_; rintro e w5 ⟨rfl, hb5⟩; have d5 := bel_tr d4 hb5) | (go_at_call 35; refine (HD.out _).mono ?_; rintro e w6 ⟨rfl, hb6⟩; have d6 := bel_tr d5 hb6; have b46 := bel_tr hb5 hb6) | (go_at_call 31; with_reducible refine (HC2.out _ d6 p m (HG4.out.below b46)).mono ?_; rintro e w7 ⟨rfl, hb7⟩; have d7 := bel_tr d6 hb7; have b47 := bel_tr b46 hb7; have e2 := cell_bel c2 d7) | (go_at_call 36; refine (HL.out _ d7 x (HR4.out.below b47)).mono ?_; rintro e w8 ⟨v8, rfl, ho8, hb8⟩; obtain ⟨A8, c8, rfl, hc8⟩ := own_form ho8; have HFL := Lib.hid (own_flat ho8); clear ho8; have d8 := bel_tr d7 hb8) | (go_at_call 27; refine (HS.out _).mono ?_; rintro e w9 ⟨rfl, hb9⟩; have d9 := bel_tr d8 hb9))
        go_ret
        exact ⟨rfl, d9⟩
      · have g5 : (((ll : Nat) : Int) == 0) = false := by simp; omega
        go_enter Tryd.func11, Tryd.ntmps11
        go_wp2_with (first | (go_at_call 25; refine HA.out.mono ?_; rintro e w1 ⟨rfl, hb1⟩) | (go_at_call 28; refine (HF.out _ hb1).mono ?_; rintro e w2 ⟨rfl, hb2⟩; have d2 := bel_tr hb1 hb2) | (go_at_call 29; refine (HF2.out _ d2).mono ?_; rintro e w3 ⟨rfl, hb3⟩; have d3 := bel_tr d2 hb3) | (go_at_call 30; refine (HM.out _ d3).mono ?_; rintro e w4 ⟨p, m, x, rfl, hg4, hr4, hb4, _, _, _⟩; have d4 := bel_tr d3 hb4; have HG4 := Lib.hid hg4; have HR4 := Lib.hid hr4; clear hg4 hr4; have e0 := cell_bel c0 d4) | (go_at_call 31; with_reducible refine (HC1.out _ d4 p m HG4.out).mono ?_; rintro e w5 ⟨rfl, hb5⟩; have d5 := bel_tr d4 hb5) | (go_at_call 35; refine (HD.out _).mono ?_; rintro e w6 ⟨rfl, hb6⟩; have d6 := bel_tr d5 hb6; have b46 := bel_tr hb5 hb6) | (go_at_call 31; with_reducible refine (HC2.out _ d6 p m (HG4.out.below b46)).mono ?_; rintro e w7 ⟨rfl, hb7⟩; have d7 := bel_tr d6 hb7; have b47 := bel_tr b46 hb7; have e2 := cell_bel c2 d7) | (go_at_call 36; refine (HL.out _ d7 x (HR4.out.below b47)).mono ?_; rintro e w8 ⟨v8, rfl, ho8, hb8⟩; obtain ⟨A8, c8, rfl, hc8⟩ := own_form ho8; have HFL := Lib.hid (own_flat ho8); clear ho8; have d8 := bel_tr d7 hb8) | (go_at_call 27; refine (HS.out _).mono ?_; rintro e w9 ⟨rfl, hb9⟩; have d9 := bel_tr d8 hb9; obtain ⟨w10, c10, hrun, hb10, hz10, hcell⟩ := bytes_row (P := Tryd.prog) w9 9 35 5 fr Tryd.underlying9 Tryd.underlying35 Tryd.underlying5; have HCE := Lib.hid hcell; have d10 := bel_tr d9 hb10; have b910 := hb9; clear hcell hz10))
        have hcl : b < w10.heap.size := by have := d10.size; omega
        go_loopw [105, 20] (fun v _ wq => ∃ q : Nat, q ≤ fr.size ∧ v = .int .i64 q ∧ Hid (∀ j, j < q → byteAt fr j ≠ 126) ∧ Below w10.heap.size w10 wq) (fun v _ _ => fr.size - (intOf v).toNat)
        case atStart => exact ⟨0, Nat.zero_le _, rfl, fun j hj => absurd hj (Nat.not_lt_zero _), by (repeat (first | (with_reducible exact Below.refl _ _) | (with_reducible assumption) | (with_reducible refine bel_al0 ?_ _) | (with_reducible refine bel_set ?_ (by first | (simp; done) | (simp; omega)) _) | (with_reducible refine bel_dr ?_) | (with_reducible refine bel_drn ?_ _) | (with_reducible refine bel_tr ?_ (by assumption))))⟩
        case round =>
          obtain ⟨q, hq, rfl, hno, hQ⟩ := hrel
          by_cases hlt : q < fr.size
          · have cq := cell_bel (HCE.out q hlt) hQ
            have hql := cell_lt cq
            obtain ⟨y, hy⟩ : ∃ y, y = byteAt fr q := ⟨_, rfl⟩
            rw [← hy] at cq
            by_cases h126 : y = 126
            · subst h126
              clear hy
              go_wp2
              go_ret
              exact ⟨rfl, bel_tr d10 hQ⟩
            · have g6 : (((y : Nat) : Int) == 126) = false := by simp; omega
              have HNQ : Hid (∀ j, j < q + 1 → byteAt fr j ≠ 126) := fun j hj => by
                rcases Nat.lt_succ_iff_lt_or_eq.1 hj with h | h
                · exact hno.out j h
                · rw [h, ← hy]; exact h126
              clear h126 hy
              go_wp2
              go_roundw
              case rel => exact ⟨q + 1, by omega, by go_num, HNQ.out, by (repeat (first | (with_reducible exact Below.refl _ _) | (with_reducible assumption) | (with_reducible refine bel_al0 ?_ _) | (with_reducible refine bel_set ?_ (by first | (simp; done) | (simp; omega)) _) | (with_reducible refine bel_dr ?_) | (with_reducible refine bel_drn ?_ _) | (with_reducible refine bel_tr ?_ (by assumption))))⟩
              case measure => simp [intOf]; omega
          · obtain ⟨v1, v2⟩ := HSE2.out HNE2.out HX64.out (fun j hj => hno.out j (by omega)) (by first | trivial | rfl)
            obtain ⟨x0, hx0⟩ := HIX.out 0 (by omega)
            have hp1 := HP1.out
            rw [v1, hx0] at hp1
            obtain ⟨rfl, rfl⟩ : x0 = i1 ∧ true = b1 := by simpa [namedV] using hp1
            obtain ⟨bl, ol, rfl, k0⟩ := HFL.out.at_ (nums_at hx0)
            have d810 := bel_tr b910 hb10
            replace k0 := cell_bel (cell_bel k0 d810) hQ
            have hkl := cell_lt k0
            simp only [Nat.add_zero] at k0
            by_cases hxl : xN < ll
            · obtain ⟨xn, hxn⟩ := HIX.out xN hxl
              have hp2 := HP2.out
              rw [v2, hxn] at hp2
              obtain ⟨rfl, rfl⟩ : xn = i2 ∧ true = b2 := by simpa [namedV] using hp2
              obtain ⟨_, _, e, kn⟩ := HFL.out.at_ (nums_at hxn)
              cases e
              replace kn := cell_bel (cell_bel kn d810) hQ
              have g6 : decide (((xN : Nat) : Int) < ((ll : Nat) : Int)) = true := by simp; omega
              have h0l : 0 < ll := by omega
              clear hp1 hp2 v1 v2 hx0 hxn
              go_wp2
              go_ret
              exact ⟨rfl, bel_tr d10 hQ⟩
            · have hp2 := HP2.out
              rw [v2, HNO.out xN (by omega)] at hp2
              obtain ⟨rfl, rfl⟩ : (0 : Int) = i2 ∧ false = b2 := by simpa [namedV] using hp2
              have g6 : decide (((xN : Nat) : Int) < ((ll : Nat) : Int)) = false := by simp; omega
              have h0l : 0 < ll := by omega
              clear hp1 hp2 v1 v2 hx0
              go_wp2
              go_ret
              exact ⟨rfl, bel_tr d10 hQ⟩
theorem nameSteps_all (w : World) (A : Option Addr) (n k : Nat) (l : List CommitD) (h : CIn w A n l) (A2 : Option Addr) (n2 k2 : Nat) (rs : List RefD) (h2 : RefRow w A2 n2 rs) (X : Int) (_ : (Lit.int .i64 X).wf = true) (hv : VarsOk w) :
    Calls Tryd.prog 11 #[.slice A n k, .slice A2 n2 k2, .int .i64 X] w fun e w' => e = .returned (.bool true) ∧ Below w.heap.size w w' := nameSteps_calls w A n k l h A2 n2 k2 rs h2 X hv
#print axioms nameSteps_all
end Go.Proofs.YtehneliphhgegaaDoor
