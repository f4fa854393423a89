/- The commit of a name: the code's Find and the document's, walked once. -/
import Derived.Test.YtehneliphhgegaaGreatDoorZKDNamed
import Derived.Test.YtehneliphhgegaaGreatDoorZKDSplit
import Derived.Test.YtehneliphhgegaaGreatDoorBase
import Derived.Test.YtehneliphhgegaaGreatDoorDFmt
import Derived.Test.YtehneliphhgegaaGreatDoorDRead
import Derived.Test.YtehneliphhgegaaGreatDoorRows2
import Derived.Test.YtehneliphhgegaaGreatDoorZGGraphAll
import Derived.Test.YtehneliphhgegaaGreatDoorZGMadeAll
import Derived.Test.YtehneliphhgegaaGreatDoorZGRefGraphAll
import Derived.Test.YtehneliphhgegaaGreatDoorZGRest
import Derived.Test.YtehneliphhgegaaGreatDoorZKDRef
import Derived.Test.YtehneliphhgegaaGreatDoorZKDCRef
import Derived.Test.YtehneliphhgegaaGreatDoorZKDNameV
set_option linter.unusedVariables false
set_option linter.unusedSimpArgs false
set_option maxRecDepth 100000
namespace Go.Proofs.YtehneliphhgegaaGreatDoor
open Go.RowKit Go.Apo

theorem atO_no {L : List (Int × CommitD)} {i : Int} {k : Nat} (h : (lineL L i).length ≤ k) : atO L k (some i) = none := by
  unfold atO
  exact List.getElem?_eq_none h
theorem findO_bad {L : List (Int × CommitD)} {l : List RefD} {s : ByteArray} (h : (splitV s).2.2 = false) : findO L l s = none := by
  unfold findO
  rw [if_pos h]
theorem findO_ok {L : List (Int × CommitD)} {l : List RefD} {s : ByteArray} (h : (splitV s).2.2 = true) : findO L l s = atO L (splitV s).2.1 (startO l (refV (splitV s).1)) := by
  unfold findO
  rw [if_neg (by simp [h])]
theorem startO_id {l : List RefD} {v : ByteArray × Nat × Bool} (h : v.1 = ⟨#[]⟩) : startO l v = some (v.2.1 : Int) := by
  unfold startO
  rw [if_pos h]
theorem startO_name {l : List RefD} {v : ByteArray × Nat × Bool} (h : v.1 ≠ ⟨#[]⟩) : startO l v = namedO l v.1 := by
  unfold startO
  rw [if_neg h]

set_option maxHeartbeats 8000000 in
theorem cfind_calls (w : World) (gq : Option Addr) (L : List (Int × CommitD)) (hg : GP w gq L) (hF : Falls L) (hbig : ∀ i, (lineL L i).length ≤ 25) (A : Option Addr) (n c : Nat) (l : List RefD) (h : RefRow w A n l) (hn : n ≤ 100000) (s : ByteArray) (hs : s.size ≤ 1000000) (hv : VarsOk w) :
    Calls Tryz.prog 10 #[.pointer gq, .slice A n c, .string s] w fun e w' => e = .returned (idT (namedV (findO L l s))) ∧ Below w.heap.size w w' := by
  have HSP := Lib.hid (csplit_calls s hs w hv)
  have hsz := split_size s
  have HRC := Lib.hid (fun W (hW : Below w.heap.size w W) => cref_calls (splitV s).1 (by omega) W (hv.below hW))
  have HNM := Lib.hid (fun W (hW : Below w.heap.size w W) s => named_calls W A n c l (h.below hW) hn s)
  have HLN := Lib.hid (fun W (hW : Below w.heap.size w W) i => line_calls W gq L (hg.below hW) hF i (by have := hbig i; omega))
  have HROW := Lib.hid h.len
  unfold NumsOwn at HLN
  have HBG := Lib.hid hbig
  have hk6 := @split_steps s
  have hb0 := @findO_bad L l s
  have hb1 := @findO_ok L l s
  have HLEN := Lib.hid h.len
  have HAT := Lib.hid h.at_
  obtain ⟨RES, hRES⟩ : ∃ RES, RES = findO L l s := ⟨_, rfl⟩
  rw [← hRES] at hb0 hb1 ⊢
  clear hRES
  obtain ⟨SP, hSP⟩ : ∃ SP, SP = splitV s := ⟨_, rfl⟩
  rw [← hSP] at HSP HRC hb0 hb1 hk6
  clear hSP hsz h hg hbig
  obtain ⟨f, k, ok⟩ := SP
  unfold splitT at HSP
  unfold refT at HRC
  simp only at HSP HRC hb0 hb1 hk6
  have hs0 := @startO_id l (refV f)
  have hs1 := @startO_name l (refV f)
  obtain ⟨RV, hRV⟩ : ∃ RV, RV = refV f := ⟨_, rfl⟩
  rw [← hRV] at HRC hb1 hs0 hs1
  clear hRV
  obtain ⟨nm, id, ok2⟩ := RV
  simp only at HRC hs0 hs1
  cases ok with
  | false =>
    rw [hb0 rfl]
    clear hb0 hb1 hs0 hs1 HAT HLEN HROW HNM HLN HBG HRC
    unfold namedV idT
    go_enter Tryz.func10, Tryz.ntmps10
    go_wp2_with (go_at_call 20; refine HSP.out.mono ?_; rintro e w1 ⟨rfl, hb1⟩)
    go_ret2
    exact ⟨rfl, hb1⟩
  | true =>
    replace hb1 := hb1 rfl
    clear hb0
    by_cases hnm : nm = ⟨#[]⟩
    · rw [hs0 hnm] at hb1
      subst hnm
      clear hs0 hs1 HAT HROW
      have HL1 := Lib.hid (fun W hW => HLN.out W hW ((id : Nat) : Int))
      have hbg := HBG.out ((id : Nat) : Int)
      have hat := @atO_no L ((id : Nat) : Int) k
      have hat2 : atO L k (some ((id : Nat) : Int)) = (lineL L ((id : Nat) : Int))[k]? := rfl
      rw [hat2] at hat hb1
      obtain ⟨LN, hLN⟩ : ∃ LN, LN = lineL L ((id : Nat) : Int) := ⟨_, rfl⟩
      rw [← hLN] at HL1 hbg hat hb1
      clear hLN hat2 HLN HBG HNM HLEN
      by_cases hk : k < LN.length
      · obtain ⟨x5, hx⟩ : ∃ x, LN[k]? = some x := ⟨_, List.getElem?_eq_getElem hk⟩
        rw [hx] at hb1
        have HX := Lib.hid hx; clear hx hat
        obtain ⟨ll, hll⟩ : ∃ ll, ll = LN.length := ⟨_, rfl⟩
        rw [← hll] at hk hbg HL1
        clear hll
        have g5 : decide ((ll : Int) ≤ (k : Int)) = false := by simp; omega
        rw [hb1]
        clear hb1
        unfold namedV idT
        go_enter Tryz.func10, Tryz.ntmps10
        go_wp2_with (first | (go_at_call 20; refine HSP.out.mono ?_; rintro e w1 ⟨rfl, hb1⟩) | (go_at_call 21; refine (HRC.out _ hb1).mono ?_; rintro e w2 ⟨rfl, hb2⟩; have hB2 := bel_tr hb1 hb2) | (go_at_call 23; refine (HL1.out _ hB2).mono ?_; rintro e w5 ⟨v5, rfl, ho5, hb5⟩; obtain ⟨A5, c5, rfl, hc5⟩ := own_form ho5; obtain ⟨b5, off5, rfl, cp5⟩ := (own_flat ho5).at_ (nums_at HX.out); clear ho5; have hl5 := cell_lt cp5))
        go_ret2
        exact ⟨rfl, bel_tr hB2 hb5⟩
      · rw [hat (by omega)] at hb1
        clear hat
        obtain ⟨ll, hll⟩ : ∃ ll, ll = LN.length := ⟨_, rfl⟩
        rw [← hll] at hk hbg HL1
        clear hll
        have g5 : decide ((ll : Int) ≤ (k : Int)) = true := by simp; omega
        rw [hb1]
        clear hb1
        unfold namedV idT
        go_enter Tryz.func10, Tryz.ntmps10
        go_wp2_with (first | (go_at_call 20; refine HSP.out.mono ?_; rintro e w1 ⟨rfl, hb1⟩) | (go_at_call 21; refine (HRC.out _ hb1).mono ?_; rintro e w2 ⟨rfl, hb2⟩; have hB2 := bel_tr hb1 hb2) | (go_at_call 23; refine (HL1.out _ hB2).mono ?_; rintro e w5 ⟨v5, rfl, ho5, hb5⟩; obtain ⟨A5, c5, rfl, hc5⟩ := own_form ho5; clear ho5))
        go_ret2
        exact ⟨rfl, bel_tr hB2 hb5⟩
    · rw [hs1 hnm] at hb1
      have htb := text_beq nm ⟨#[]⟩
      rw [decide_eq_false hnm] at htb
      have htb2 : (!nm.toList == (⟨#[]⟩ : ByteArray).toList) = true := by rw [htb]; rfl
      have hE2 : ¬ nm.toList = [] := fun e => by rw [e] at htb; revert htb; simp [ByteArray.toList_eq]
      have hE3 : (nm.toList == []) = false := by simpa using hE2
      have HN1 := Lib.hid (fun W hW => HNM.out W hW nm)
      clear hnm htb hs0 hs1
      obtain ⟨q, hq⟩ : ∃ q, q = namedO l nm := ⟨_, rfl⟩
      rw [← hq] at HN1 hb1
      clear hq HAT HROW
      cases q with
      | none =>
        have hb1 : RES = none := hb1
        rw [hb1]
        unfold namedV idT at HN1 ⊢
        clear HLN HBG HNM HLEN hb1
        go_enter Tryz.func10, Tryz.ntmps10
        go_wp2_with (first | (go_at_call 20; refine HSP.out.mono ?_; rintro e w1 ⟨rfl, hb1⟩) | (go_at_call 21; refine (HRC.out _ hb1).mono ?_; rintro e w2 ⟨rfl, hb2⟩; have hB2 := bel_tr hb1 hb2) | (go_at_call 22; refine (HN1.out _ hB2).mono ?_; rintro e w3 ⟨rfl, hb3⟩; have hB3 := bel_tr hB2 hb3))
        go_ret2
        exact ⟨rfl, hB3⟩
      | some i =>
        unfold namedV idT at HN1
        have HL1 := Lib.hid (fun W hW => HLN.out W hW i)
        have hbg := HBG.out i
        have hat := @atO_no L i k
        have hat2 : atO L k (some i) = (lineL L i)[k]? := rfl
        rw [hat2] at hat hb1
        obtain ⟨LN, hLN⟩ : ∃ LN, LN = lineL L i := ⟨_, rfl⟩
        rw [← hLN] at HL1 hbg hat hb1
        clear hLN hat2 HLN HBG HNM HLEN
        by_cases hk : k < LN.length
        · obtain ⟨x5, hx⟩ : ∃ x, LN[k]? = some x := ⟨_, List.getElem?_eq_getElem hk⟩
          rw [hx] at hb1
          have HX := Lib.hid hx; clear hx hat
          obtain ⟨ll, hll⟩ : ∃ ll, ll = LN.length := ⟨_, rfl⟩
          rw [← hll] at hk hbg HL1
          clear hll
          have g5 : decide ((ll : Int) ≤ (k : Int)) = false := by simp; omega
          rw [hb1]
          clear hb1
          unfold namedV idT
          go_enter Tryz.func10, Tryz.ntmps10
          go_wp2_with (first | (go_at_call 20; refine HSP.out.mono ?_; rintro e w1 ⟨rfl, hb1⟩) | (go_at_call 21; refine (HRC.out _ hb1).mono ?_; rintro e w2 ⟨rfl, hb2⟩; have hB2 := bel_tr hb1 hb2) | (go_at_call 22; refine (HN1.out _ hB2).mono ?_; rintro e w3 ⟨rfl, hb3⟩; have hB3 := bel_tr hB2 hb3) | (go_at_call 23; refine (HL1.out _ hB3).mono ?_; rintro e w5 ⟨v5, rfl, ho5, hb5⟩; obtain ⟨A5, c5, rfl, hc5⟩ := own_form ho5; obtain ⟨b5, off5, rfl, cp5⟩ := (own_flat ho5).at_ (nums_at HX.out); clear ho5; have hl5 := cell_lt cp5))
          go_ret2
          exact ⟨rfl, bel_tr hB3 hb5⟩
        · rw [hat (by omega)] at hb1
          clear hat
          obtain ⟨ll, hll⟩ : ∃ ll, ll = LN.length := ⟨_, rfl⟩
          rw [← hll] at hk hbg HL1
          clear hll
          have g5 : decide ((ll : Int) ≤ (k : Int)) = true := by simp; omega
          rw [hb1]
          clear hb1
          unfold namedV idT
          go_enter Tryz.func10, Tryz.ntmps10
          go_wp2_with (first | (go_at_call 20; refine HSP.out.mono ?_; rintro e w1 ⟨rfl, hb1⟩) | (go_at_call 21; refine (HRC.out _ hb1).mono ?_; rintro e w2 ⟨rfl, hb2⟩; have hB2 := bel_tr hb1 hb2) | (go_at_call 22; refine (HN1.out _ hB2).mono ?_; rintro e w3 ⟨rfl, hb3⟩; have hB3 := bel_tr hB2 hb3) | (go_at_call 23; refine (HL1.out _ hB3).mono ?_; rintro e w5 ⟨v5, rfl, ho5, hb5⟩; obtain ⟨A5, c5, rfl, hc5⟩ := own_form ho5; clear ho5))
          go_ret2
          exact ⟨rfl, bel_tr hB3 hb5⟩
end Go.Proofs.YtehneliphhgegaaGreatDoor
