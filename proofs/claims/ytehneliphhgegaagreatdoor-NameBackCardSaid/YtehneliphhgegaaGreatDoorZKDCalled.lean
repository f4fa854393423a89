/- What a commit is called: the document's Called, walked once. -/
import Derived.Test.YtehneliphhgegaaGreatDoorZKDOfN
import Derived.Test.YtehneliphhgegaaGreatDoorBase
import Derived.Test.YtehneliphhgegaaGreatDoorDDec
import Derived.Test.YtehneliphhgegaaGreatDoorDFmt
import Derived.Test.YtehneliphhgegaaGreatDoorDName
import Derived.Test.YtehneliphhgegaaGreatDoorDRead
import Derived.Test.YtehneliphhgegaaGreatDoorRows2
import Derived.Test.YtehneliphhgegaaGreatDoorZGGraphAll
import Derived.Test.YtehneliphhgegaaGreatDoorZGMadeAll
import Derived.Test.YtehneliphhgegaaGreatDoorZGRefGraphAll
import Derived.Test.YtehneliphhgegaaGreatDoorZGRest
import Derived.Test.YtehneliphhgegaaGreatDoorZKDNameV
import Derived.Test.YtehneliphhgegaaGreatDoorZKDNamed
import Derived.Deep.QuietTactic
import Derived.BigQuiet
set_option linter.unusedVariables false
set_option linter.unusedSimpArgs false
set_option maxRecDepth 100000
namespace Go.Proofs.YtehneliphhgegaaGreatDoor
open Go.RowKit Go.Apo

def leastW : Option Way → Nat
  | none => 1000001
  | some a => a.2
def nameW : Option Way → ByteArray
  | none => ⟨#[]⟩
  | some a => a.1
/-- whether a way is better than the best so far, as the document asks -/
def condW (B : Option Way) (n : ByteArray) (q : Nat) : Bool := decide (q < leastW B) || (decide (q = leastW B) && Op.bytesLess n.toList (nameW B).toList)
theorem step_cond {B : Option Way} {n : ByteArray} {q : Nat} (hq : q ≤ 1000000) : stepW B (n, q) = if condW B n q = true then some (n, q) else B := by
  cases B with
  | none =>
    have : condW none n q = true := by unfold condW leastW; simp; omega
    rw [this]
    rfl
  | some b =>
    have : wayLess (n, q) b = condW (some b) n q := by
      unfold wayLess condW leastW nameW
      simp only
      by_cases h : q = b.2
      · rw [if_pos h]
        simp [h]
      · rw [if_neg h]
        simp [h]
    show (if wayLess (n, q) b = true then some (n, q) else some b) = _
    rw [this]
/-- the best so far, some of a line having been gone through -/
def onLine (LN : List Int) (id : Int) (n : ByteArray) (B : Option Way) (q : Nat) (B' : Option Way) : Prop :=
  ((∀ (p : Nat) y, p < q → LN[p]? = some y → y ≠ id) ∧ B' = B) ∨ ∃ p, p < q ∧ LN[p]? = some id ∧ (∀ (p' : Nat) y, p' < p → LN[p']? = some y → y ≠ id) ∧ B' = stepW B (n, p)
theorem onLine_end {LN : List Int} {id : Int} {n : ByteArray} {B B' : Option Way} (h : onLine LN id n B LN.length B') : (idxN LN id = none ∧ B' = B) ∨ ∃ p, idxN LN id = some p ∧ B' = stepW B (n, p) := by
  rcases h with ⟨h1, h2⟩ | ⟨p, h1, h2, h3, h4⟩
  · exact Or.inl ⟨idxN_no fun p y hp => h1 p y (List.getElem?_eq_some_iff.1 hp).1 hp, h2⟩
  · exact Or.inr ⟨p, idxN_at h2 h3, h4⟩
theorem onLine_no {LN : List Int} {id : Int} {n : ByteArray} {B B' : Option Way} {q : Nat} {y : Int} (h : onLine LN id n B q B') (hy : LN[q]? = some y) (hne : y ≠ id) : onLine LN id n B (q + 1) B' := by
  rcases h with ⟨h1, h2⟩ | ⟨p, h1, h2⟩
  · refine Or.inl ⟨fun p z hp hz => ?_, h2⟩
    rcases Nat.lt_succ_iff_lt_or_eq.1 hp with h' | rfl
    · exact h1 p z h' hz
    · rw [hy] at hz; cases hz; exact hne
  · exact Or.inr ⟨p, by omega, h2⟩
theorem onLine_yes {LN : List Int} {id : Int} {n : ByteArray} {B B' : Option Way} {q : Nat} (h : onLine LN id n B q B') (hy : LN[q]? = some id) (h1 : ∀ p, LN[p]? = some id → p = q) : B' = B ∧ onLine LN id n B (q + 1) (stepW B (n, q)) := by
  rcases h with ⟨h2, h3⟩ | ⟨p, h2, h3, _⟩
  · exact ⟨h3, Or.inr ⟨q, by omega, hy, h2, rfl⟩⟩
  · have := h1 p h3; omega
theorem cond_true {B : Option Way} {n : ByteArray} {q : Nat} (h : condW B n q = true) : q < leastW B ∨ (q = leastW B ∧ Op.bytesLess n.toList (nameW B).toList = true) := by
  unfold condW at h
  rcases Bool.or_eq_true _ _ ▸ h with h1 | h1
  · exact Or.inl (by simpa using h1)
  · rw [Bool.and_eq_true] at h1
    exact Or.inr ⟨by simpa using h1.1, h1.2⟩
theorem cond_false {B : Option Way} {n : ByteArray} {q : Nat} (h : ¬ condW B n q = true) : leastW B < q ∨ (q = leastW B ∧ Op.bytesLess n.toList (nameW B).toList = false) := by
  unfold condW at h
  rw [Bool.or_eq_true, not_or, Bool.and_eq_true, not_and] at h
  obtain ⟨h1, h2⟩ := h
  have h1' : ¬ q < leastW B := by simpa using h1
  by_cases h3 : q = leastW B
  · exact Or.inr ⟨h3, by simpa using h2 (by simpa using h3)⟩
  · exact Or.inl (by omega)
theorem best_next {WSn WSm : List Way} {WO : Option Way} {B B' : Option Way} (h : WSm = WSn ++ WO.toList) (hB : B = bestW WSn) (h2 : (WO = none ∧ B' = B) ∨ ∃ a, WO = some a ∧ B' = stepW B a) : B' = bestW WSm := by
  subst h
  rcases h2 with ⟨rfl, rfl⟩ | ⟨a, rfl, rfl⟩
  · simpa using hB
  · rw [hB]
    show _ = bestW (WSn ++ [a])
    rw [bestW_snoc]
set_option maxHeartbeats 8000000 in
theorem rcalled_calls (w : World) (x : Nat) (L : List (Int × CommitD)) (R : List CommitD) (hg : RGraphAt w x R) (hsy : Sync L R) (hF : Falls L) (hz0 : mget L 0 = none) (hR : R.length ≤ 90000) (hbig : ∀ i, (lineL L i).length ≤ 25) (A : Option Addr) (n c : Nat) (l : List RefD) (h : RefRow w A n l) (hn : n ≤ 1000) (hsz : ∀ r ∈ l, r.name.size ≤ 1000) (id : Int) (hid : u64ok id) :
    Calls Tryz.prog 11 #[.pointer (some ⟨x, 0, none⟩), .slice A n c, .int .u64 id] w fun e w' => e = .returned (.string (ofV L l id)) ∧ Below w.heap.size w w' := by
  obtain ⟨iN, rfl⟩ : ∃ iN : Nat, id = iN := ⟨id.toNat, by unfold u64ok at hid; omega⟩
  have hi64 : iN < 18446744073709551616 := by unfold u64ok at hid; omega
  have HNM := Lib.hid (fun W (hW : Below w.heap.size w W) s => rnamed_calls W A n c l (h.below hW) (by omega) s)
  have HLN := Lib.hid (fun W (hW : Below w.heap.size w W) i => rline_calls W x L R (hg.below hW) hsy hF hz0 hR i)
  have HDC := Lib.hid (fun u (hu : u < 18446744073709551616) W => decimal_calls u hu W)
  unfold NumsOwn at HLN
  have HBG := Lib.hid hbig
  have HON := Lib.hid (fun i j k => @line_once L hF i (iN : Int) j k)
  have HWS := Lib.hid (fun k r (hk : l[k]? = some r) => ways_snoc L l (iN : Int) k hk)
  have HLEN := Lib.hid h.len
  have HAT := Lib.hid h.at_
  have HSZ := Lib.hid hsz
  have HFP := Lib.hid (fun i r (hi : l[i]? = some r) => freshB_pos hi)
  have HRES := Lib.hid (show ofV L l (iN : Int) = textW iN (bestW (waysL L l (iN : Int) n)) from by unfold ofV; rw [h.len]; rfl)
  obtain ⟨RES, hRES⟩ : ∃ RES, RES = ofV L l (iN : Int) := ⟨_, rfl⟩
  rw [← hRES] at HRES ⊢
  clear hRES h hg hbig hid hsy hF hz0 hR hsz
  have HWO := Lib.hid (fun j r => And.intro (@wayOf_bad L l (iN : Int) j r) (And.intro (@wayOf_twice L l (iN : Int) j r) (@wayOf_yes L l (iN : Int) j r)))
  obtain ⟨WS, hWS⟩ : ∃ WS, WS = waysL L l (iN : Int) := ⟨_, rfl⟩
  have HW0 := Lib.hid (show WS 0 = [] from by rw [hWS]; rfl)
  rw [← hWS] at HWS HRES
  clear hWS
  have hdz := dec_size hi64
  have HD0 := Lib.hid (HDC.out iN hi64)
  go_enter Tryz.func11, Tryz.ntmps11
  go_wp2_with (go_at_call 13; refine (HD0.out _).mono ?_; rintro e w1 ⟨rfl, hb1⟩)
  go_loopw [19, 7, 8, 9, 10, 11, 12, 13] (fun v v7 v8 v9 _ _ _ _ wr => ∃ (j : Nat) (B : Option Way), j ≤ n ∧ v = .int .i64 j ∧ v7 = .string (textW iN B) ∧ v8 = .int .i64 (leastW B : Nat) ∧ v9 = .string (nameW B) ∧ Hid (B = bestW (WS j)) ∧ Below w.heap.size w wr) (fun v _ _ _ _ _ _ _ _ => n - (intOf v).toNat)
  case atStart => exact ⟨0, none, Nat.zero_le _, rfl, rfl, rfl, rfl, by show none = _; rw [HW0.out]; rfl, by (repeat (first | (with_reducible exact Below.refl _ _) | (with_reducible assumption) | (with_reducible refine bel_al0 ?_ _) | (with_reducible refine bel_set ?_ (by first | (simp; done) | (simp; omega)) _) | (with_reducible refine bel_dr ?_) | (with_reducible refine bel_drn ?_ _) | (with_reducible refine bel_tr ?_ (by assumption))))⟩
  case round =>
    obtain ⟨j, B, hj, rfl, rfl, rfl, rfl, hBW, hB⟩ := hrel
    have hz := hB.size
    obtain ⟨wr0, rfl⟩ : ∃ wr0, wr0 = wr := ⟨_, rfl⟩
    by_cases hlt : j < n
    · obtain ⟨r, hr⟩ : ∃ r, l[j]? = some r := ⟨_, List.getElem?_eq_getElem (by rw [HLEN.out]; exact hlt)⟩
      obtain ⟨b, off, rfl, hcell⟩ := HAT.out (by omega)
      obtain ⟨c0, c1, c2⟩ := hcell j r hr
      replace c0 := cell_bel c0 hB
      replace c1 := cell_bel c1 hB
      replace c2 := cell_bel c2 hB
      clear hcell HAT
      have hn1000 := HSZ.out r (List.mem_of_getElem? hr)
      have HN1 := Lib.hid (fun W hW => HNM.out W hW r.name)
      have HL1 := Lib.hid (fun W hW => HLN.out W hW r.id)
      have hbg := HBG.out r.id
      have HON1 := Lib.hid (fun j k => HON.out r.id j k)
      have HNA := Lib.hid (fun W => rname_calls r.name (by omega) W)
      have hws := HWS.out j r hr
      have hfp := HFP.out j r hr
      obtain ⟨o1, o2, o3⟩ := HWO.out j r
      obtain ⟨NB, hNB⟩ : ∃ NB, NB = nameB r.name := ⟨_, rfl⟩
      rw [← hNB] at HNA o1 o3
      obtain ⟨FB, hFB⟩ : ∃ FB, FB = freshB l j r.name := ⟨_, rfl⟩
      rw [← hFB] at hfp o2 o3
      obtain ⟨PR, hPR⟩ : ∃ PR, PR = posR l r.name := ⟨_, rfl⟩
      rw [← hPR] at hfp HN1
      obtain ⟨WO, hWO⟩ : ∃ WO, WO = wayOf L l (iN : Int) j r := ⟨_, rfl⟩
      rw [← hWO] at hws o1 o2 o3
      obtain ⟨LN, hLN⟩ : ∃ LN, LN = lineL L r.id := ⟨_, rfl⟩
      rw [← hLN] at HL1 hbg o3 HON1
      clear hNB hFB hPR hWO hLN hr HNM HWS HLN HBG HSZ HFP HWO HON
      obtain ⟨nm, tg, ri⟩ := r
      simp only at c0 c1 c2 HN1 HNA HL1 o3 hn1000
      have hBw : Below w.heap.size w (wr0.alloc (.cells #[.string nm, .bool tg, .int .u64 ri] 48)) := bel_al0 hB _
      have HY := Lib.hid (blk_new wr0 #[.string nm, .bool tg, .int .u64 ri] 48)
      cases NB with
      | false =>
        have hw := o1 rfl
        clear o1 o2 o3
        subst hw
        have HBE := Lib.hid (best_next hws hBW.out (Or.inl ⟨rfl, rfl⟩))
        clear hws hfp
        go_wp2_with (go_at_call 24; refine (HNA.out _).mono ?_; rintro e w5 ⟨rfl, rfl⟩)
        go_roundw
        case rel => exact ⟨j + 1, B, by omega, by go_num, rfl, rfl, rfl, HBE.out, hBw⟩
        case measure => simp [intOf]; omega
      | true =>
        cases FB with
        | false =>
          have hw := o2 rfl
          clear o1 o2 o3
          subst hw
          have HBE := Lib.hid (best_next hws hBW.out (Or.inl ⟨rfl, rfl⟩))
          have hpr : (PR == (j : Int)) = false := by
            have : ¬ PR = (j : Int) := of_decide_eq_false hfp.symm
            simpa using this
          clear hws hfp
          go_wp2_with (first | (go_at_call 24; refine (HNA.out _).mono ?_; rintro e w5 ⟨rfl, rfl⟩) | (go_at_call 25; refine (HN1.out _ hBw).mono ?_; rintro e w6 ⟨rfl, hb6⟩))
          go_roundw
          case rel => exact ⟨j + 1, B, by omega, by go_num, rfl, rfl, rfl, HBE.out, bel_tr hBw hb6⟩
          case measure => simp [intOf]; omega
        | true =>
          have hw := o3 rfl rfl
          obtain rfl : PR = (j : Int) := of_decide_eq_true hfp.symm
          clear o1 o2 o3 hfp
          have HBE : Hid (∀ B', onLine LN (iN : Int) nm B LN.length B' → B' = bestW (WS (j + 1))) := fun B' h => by
            refine best_next hws hBW.out ?_
            rcases onLine_end h with ⟨h1, h2⟩ | ⟨p, h1, h2⟩
            · exact Or.inl ⟨by rw [hw, h1]; rfl, h2⟩
            · exact Or.inr ⟨(nm, p), by rw [hw, h1]; rfl, h2⟩
          clear hws hw
          have HLI := Lib.hid (fun q (hq : q < LN.length) => List.getElem?_eq_getElem hq)
          obtain ⟨ll, hll⟩ : ∃ ll, ll = LN.length := ⟨_, rfl⟩
          rw [← hll] at HL1 hbg HBE
          have HLL := Lib.hid hll; clear hll
          go_wp2_with (first | (go_at_call 24; refine (HNA.out _).mono ?_; rintro e w5 ⟨rfl, rfl⟩) | (go_at_call 25; refine (HN1.out _ hBw).mono ?_; rintro e w6 ⟨rfl, hb6⟩; have hx6 := HY.out.below hb6; obtain ⟨z0, z1, z2⟩ : w6.cell? ⟨wr0.heap.size, 0, none⟩ = some (.string nm) ∧ w6.cell? ⟨wr0.heap.size, 1, none⟩ = some (.bool tg) ∧ w6.cell? ⟨wr0.heap.size, 2, none⟩ = some (.int .u64 ri) := ⟨hx6.cell rfl, hx6.cell rfl, hx6.cell rfl⟩; have HX6 := Lib.hid hx6; clear hx6; have hB6 := bel_tr hBw hb6) | (go_at_call 26; refine (HL1.out _ hB6).mono ?_; rintro e w7 ⟨v7, rfl, ho7, hb7⟩; obtain ⟨A7, c7, rfl, hc7⟩ := own_form ho7; have HF7 := Lib.hid (own_flat ho7); clear ho7; have hx7 := HX6.out.below hb7; have hB7 := bel_tr hB6 hb7; have y0 : w7.cell? ⟨wr0.heap.size, 0, none⟩ = some (.string nm) := hx7.cell rfl; clear hx7))
          clear z0 z1 z2 c0 c1 c2
          go_loopw [41, 7, 8, 9, 12, 13] (fun v v7 v8 v9 _ _ wq => ∃ (q : Nat) (B' : Option Way), q ≤ ll ∧ v = .int .i64 q ∧ v7 = .string (textW iN B') ∧ v8 = .int .i64 (leastW B' : Nat) ∧ v9 = .string (nameW B') ∧ Hid (onLine LN (iN : Int) nm B q B') ∧ Below w7.heap.size w7 wq) (fun v _ _ _ _ _ _ => ll - (intOf v).toNat)
          case atStart => exact ⟨0, B, Nat.zero_le _, rfl, rfl, rfl, rfl, Or.inl ⟨fun p y hp => absurd hp (Nat.not_lt_zero _), rfl⟩, by (repeat (first | (with_reducible exact Below.refl _ _) | (with_reducible assumption) | (with_reducible refine bel_al0 ?_ _) | (with_reducible refine bel_set ?_ (by first | (simp; done) | (simp; omega)) _) | (with_reducible refine bel_dr ?_) | (with_reducible refine bel_drn ?_ _) | (with_reducible refine bel_tr ?_ (by assumption))))⟩
          case round =>
            obtain ⟨q, B', hq, rfl, rfl, rfl, rfl, hOL, hQ⟩ := hrel
            by_cases hql : q < ll
            · obtain ⟨y, hy⟩ : ∃ y, LN[q]? = some y := ⟨_, HLI.out q (by rw [← HLL.out]; exact hql)⟩
              obtain ⟨b7, off7, rfl, cy⟩ := HF7.out.at_ (nums_at hy)
              replace cy := cell_bel cy hQ
              have hyl := cell_lt cy
              have z0 := cell_bel y0 hQ
              have hzl := cell_lt z0
              by_cases he : y = (iN : Int)
              · subst he
                obtain ⟨rfl, hol⟩ := onLine_yes hOL.out hy (fun p hp => HON1.out p q hp hy)
                rw [step_cond (by omega)] at hol
                clear hy
                by_cases hC : condW B' nm q = true
                · rw [if_pos hC] at hol
                  have HOL2 := Lib.hid hol; clear hol
                  have hcs := cond_true hC
                  clear hC
                  rcases hcs with g0 | ⟨g0, g3⟩
                  · have g1 : decide ((q : Int) < ((leastW B' : Nat) : Int)) = true := by simpa using g0
                    have hqz : decide ((0 : Int) < ((q : Nat) : Int)) = decide (0 < q) := by simp
                    by_cases hq0 : 0 < q
                    · have g5 : decide ((0 : Int) < ((q : Nat) : Int)) = true := by simpa using hq0
                      have hq64 : q < 18446744073709551616 := by omega
                      have HT : Hid (textW iN (some (nm, q)) = nm ++ ⟨#[126]⟩ ++ dec (q)) := by show textW iN (some (nm, q)) = _; unfold textW; simp only; rw [if_neg (by omega)]
                      have HD1 := Lib.hid (HDC.out (q) hq64)
                      have hdq := dec_size hq64
                      have e1 : IntKind.u64.wrap (((q : Nat)) : Int) = ((q : Nat) : Int) := by rw [IntKind.wrap_u64]; omega
                      go_wp2
                      go_quiet (fail)
                      go_wp2
                      have hQ2 : Below w7.heap.size w7 (wr.drewN nq) := bel_drn hQ _
                      have z0' : (wr.drewN nq).cell? ⟨wr0.heap.size, 0, none⟩ = some (.string nm) := z0
                      clear hQ z0 cy
                      generalize wr.drewN nq = W5 at *
                      have hQ3 : Below w7.heap.size w7 W5.drew := bel_dr hQ2
                      have z1 : W5.drew.cell? ⟨wr0.heap.size, 0, none⟩ = some (.string nm) := z0'
                      go_region_with (go_at_call 13; refine (HD1.out _).mono ?_; rintro e w8 ⟨rfl, hb8⟩; have d0 := cell_bel z1 hb8)
                      all_goals (
                        go_wp2
                        go_roundw
                        case rel => exact ⟨q + 1, some (nm, q), by omega, by go_num, by rw [HT.out], rfl, rfl, HOL2.out, bel_tr hQ3 hb8⟩
                        case measure => simp [intOf]; omega)
                    · have g5 : decide ((0 : Int) < ((q : Nat) : Int)) = false := by simpa using hq0
                      have hz0 : q = 0 := by omega
                      have HT : Hid (textW iN (some (nm, q)) = nm) := by show textW iN (some (nm, q)) = nm; rw [hz0]; rfl
                      clear hz0 hqz
                      go_wp2
                      go_quiet (fail)
                      go_wp2
                      go_roundw
                      case rel => exact ⟨q + 1, some (nm, q), by omega, by go_num, by rw [HT.out], rfl, rfl, HOL2.out, by (repeat (first | (with_reducible exact Below.refl _ _) | (with_reducible assumption) | (with_reducible refine bel_al0 ?_ _) | (with_reducible refine bel_set ?_ (by first | (simp; done) | (simp; omega)) _) | (with_reducible refine bel_dr ?_) | (with_reducible refine bel_drn ?_ _) | (with_reducible refine bel_tr ?_ (by assumption))))⟩
                      case measure => simp [intOf]; omega
                  · subst g0
                    have hqz : decide ((0 : Int) < ((leastW B' : Nat) : Int)) = decide (0 < leastW B') := by simp
                    by_cases hq0 : 0 < leastW B'
                    · have g5 : decide ((0 : Int) < ((leastW B' : Nat) : Int)) = true := by simpa using hq0
                      have hq64 : leastW B' < 18446744073709551616 := by omega
                      have HT : Hid (textW iN (some (nm, leastW B')) = nm ++ ⟨#[126]⟩ ++ dec (leastW B')) := by show textW iN (some (nm, leastW B')) = _; unfold textW; simp only; rw [if_neg (by omega)]
                      have HD1 := Lib.hid (HDC.out (leastW B') hq64)
                      have hdq := dec_size hq64
                      have e1 : IntKind.u64.wrap (((leastW B' : Nat)) : Int) = ((leastW B' : Nat) : Int) := by rw [IntKind.wrap_u64]; omega
                      go_wp2
                      go_quiet (fail)
                      go_wp2
                      have hQ2 : Below w7.heap.size w7 (wr.drewN nq) := bel_drn hQ _
                      have z0' : (wr.drewN nq).cell? ⟨wr0.heap.size, 0, none⟩ = some (.string nm) := z0
                      clear hQ z0 cy
                      generalize wr.drewN nq = W5 at *
                      have hQ3 : Below w7.heap.size w7 W5.drew := bel_dr hQ2
                      have z1 : W5.drew.cell? ⟨wr0.heap.size, 0, none⟩ = some (.string nm) := z0'
                      go_region_with (go_at_call 13; refine (HD1.out _).mono ?_; rintro e w8 ⟨rfl, hb8⟩; have d0 := cell_bel z1 hb8)
                      all_goals (
                        go_wp2
                        go_roundw
                        case rel => exact ⟨leastW B' + 1, some (nm, leastW B'), by omega, by go_num, by rw [HT.out], rfl, rfl, HOL2.out, bel_tr hQ3 hb8⟩
                        case measure => simp [intOf]; omega)
                    · have g5 : decide ((0 : Int) < ((leastW B' : Nat) : Int)) = false := by simpa using hq0
                      have hz0 : leastW B' = 0 := by omega
                      have HT : Hid (textW iN (some (nm, leastW B')) = nm) := by show textW iN (some (nm, leastW B')) = nm; rw [hz0]; rfl
                      clear hz0 hqz
                      go_wp2
                      go_quiet (fail)
                      go_wp2
                      go_roundw
                      case rel => exact ⟨leastW B' + 1, some (nm, leastW B'), by omega, by go_num, by rw [HT.out], rfl, rfl, HOL2.out, by (repeat (first | (with_reducible exact Below.refl _ _) | (with_reducible assumption) | (with_reducible refine bel_al0 ?_ _) | (with_reducible refine bel_set ?_ (by first | (simp; done) | (simp; omega)) _) | (with_reducible refine bel_dr ?_) | (with_reducible refine bel_drn ?_ _) | (with_reducible refine bel_tr ?_ (by assumption))))⟩
                      case measure => simp [intOf]; omega
                · rw [if_neg hC] at hol
                  have HOL2 := Lib.hid hol; clear hol
                  rcases cond_false hC with g0 | ⟨g0, g3⟩
                  · have g1 : decide ((q : Int) < ((leastW B' : Nat) : Int)) = false := by simp; omega
                    have g2 : ((q : Int) == ((leastW B' : Nat) : Int)) = false := by simp; omega
                    clear hC
                    go_wp2
                    go_roundw
                    case rel => exact ⟨q + 1, B', by omega, by go_num, rfl, rfl, rfl, HOL2.out, by (repeat (first | (with_reducible exact Below.refl _ _) | (with_reducible assumption) | (with_reducible refine bel_al0 ?_ _) | (with_reducible refine bel_set ?_ (by first | (simp; done) | (simp; omega)) _) | (with_reducible refine bel_dr ?_) | (with_reducible refine bel_drn ?_ _) | (with_reducible refine bel_tr ?_ (by assumption))))⟩
                    case measure => simp [intOf]; omega
                  · subst g0
                    clear hC
                    go_wp2
                    go_roundw
                    case rel => exact ⟨leastW B' + 1, B', by omega, by go_num, rfl, rfl, rfl, HOL2.out, by (repeat (first | (with_reducible exact Below.refl _ _) | (with_reducible assumption) | (with_reducible refine bel_al0 ?_ _) | (with_reducible refine bel_set ?_ (by first | (simp; done) | (simp; omega)) _) | (with_reducible refine bel_dr ?_) | (with_reducible refine bel_drn ?_ _) | (with_reducible refine bel_tr ?_ (by assumption))))⟩
                    case measure => simp [intOf]; omega
              · have g1 : (y == (iN : Int)) = false := by simpa using he
                have HOL2 := Lib.hid (onLine_no hOL.out hy he)
                clear he hy
                go_wp2
                go_roundw
                case rel => exact ⟨q + 1, B', by omega, by go_num, rfl, rfl, rfl, HOL2.out, by (repeat (first | (with_reducible exact Below.refl _ _) | (with_reducible assumption) | (with_reducible refine bel_al0 ?_ _) | (with_reducible refine bel_set ?_ (by first | (simp; done) | (simp; omega)) _) | (with_reducible refine bel_dr ?_) | (with_reducible refine bel_drn ?_ _) | (with_reducible refine bel_tr ?_ (by assumption))))⟩
                case measure => simp [intOf]; omega
            · obtain rfl : q = ll := by omega
              go_wp2
              go_roundw
              case rel => exact ⟨j + 1, B', by omega, by go_num, rfl, rfl, rfl, HBE.out B' hOL.out, bel_tr hB7 hQ⟩
              case measure => simp [intOf]; omega
    · obtain rfl : j = n := by omega
      go_wp2
      go_ret
      exact ⟨by rw [HRES.out, ← hBW.out]; rfl, hB⟩
end Go.Proofs.YtehneliphhgegaaGreatDoor
