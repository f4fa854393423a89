/- The document's ancestors of some commits: walked once. · The document's ancestors are the graph's: in plain Lean. -/
import Derived.Test.YtehneliphhgegaaRefKidsAll
import Derived.Test.YtehneliphhgegaaPlainSteps
section
set_option linter.unusedVariables false
set_option linter.unusedSimpArgs false
set_option maxRecDepth 100000
namespace Go.Proofs.Ytehneliphhgegaa
open Go.RowKit Go.Apo

def rhit (R : List CommitD) (ids met : List Int) (x : Int) : Bool := decide (x ∈ ids) || met.any fun m => decide (x ∈ rPar R m)
def rstep (R : List CommitD) (ids : List Int) (c : CommitD) (met : List Int) : List Int := if rhit R ids met c.id then met ++ [c.id] else met
def rmet (R : List CommitD) (ids : List Int) (k : Nat) : List Int := (R.drop k).foldr (rstep R ids) []
theorem rmet_on {R : List CommitD} {ids : List Int} {k : Nat} {c : CommitD} (h : R[k]? = some c) : rmet R ids k = rstep R ids c (rmet R ids (k + 1)) := by
  obtain ⟨hk, hc⟩ := List.getElem?_eq_some_iff.1 h
  unfold rmet
  rw [List.drop_eq_getElem_cons hk, List.foldr_cons, hc]
theorem rmet_end {R : List CommitD} {ids : List Int} {k : Nat} (h : R.length ≤ k) : rmet R ids k = [] := by
  unfold rmet; rw [List.drop_of_length_le h]; rfl
theorem rmet_len (R : List CommitD) (ids : List Int) (k : Nat) : (rmet R ids k).length ≤ R.length := by
  have : ∀ l : List CommitD, (l.foldr (rstep R ids) []).length ≤ l.length := by
    intro l
    induction l with
    | nil => simp
    | cons c l ih =>
      rw [List.foldr_cons]
      unfold rstep
      split
      · simp; exact ih
      · simp; exact Nat.le_succ_of_le ih
  refine Nat.le_trans (this _) ?_
  rw [List.length_drop]; omega
def rreach (R : List CommitD) (ids : List Int) : List Int := (rmet R ids 0).reverse

set_option maxHeartbeats 8000000 in
theorem rreach_calls (w : World) (x : Nat) (R : List CommitD) (h : RGraphAt w x R) (hR : R.length ≤ 100000) (h2 : ∀ i, (rPar R i).length ≤ 2) (hpar : ∀ c ∈ R, c.par.length ≤ 2) (A : Option Addr) (n k : Nat) (ids : List Int) (hn : ids.length = n) (hf : Flat w A (nums ids)) (hn2 : n ≤ 100000) :
    Calls Try.prog 60 #[.pointer (some ⟨x, 0, none⟩), .slice A n k] w (NumsOwn w (rreach R ids)) := by
  have HRG := Lib.hid h
  obtain ⟨A0, k0, hblk, hrow, hA, _⟩ := h
  have hc := hblk.one.1; clear hblk
  unfold NumsOwn
  obtain ⟨N, hN⟩ : ∃ N, N = R.length := ⟨_, rfl⟩
  rw [← hN] at hc hR
  have HROW := Lib.hid hrow; clear hrow
  have HN := Lib.hid hN; clear hN hA
  have HF := Lib.hid hf; clear hf
  have HH := Lib.hid (fun W (hW : Below w.heap.size w W) y => has_calls W A n k ids hn (HF.out.below hW) (by omega) y)
  have HGE := Lib.hid (fun W (hW : Below w.heap.size w W) i => rget_calls w W x R HRG.out hW (by have := HN.out; omega) i)
  have H2 := Lib.hid h2; clear h2
  have HPA := Lib.hid hpar; clear hpar hn
  have hxl := cell_lt hc
  have hL0 : Hid ((rreach R ids).length ≤ N) := by show _ ≤ _; unfold rreach; rw [List.length_reverse, HN.out]; exact rmet_len R ids 0
  go_enter Try.func60, Try.ntmps60
  go_wp2
  go_loopw [6, 5] (fun v v5 wr => ∃ iz : Int, -1 ≤ iz ∧ iz < N ∧ v = .int .i64 iz ∧ Hid (wr.ownsRow w.heap.size 24 1 v5 (rmet R ids (iz + 1).toNat).length (nums (rmet R ids (iz + 1).toNat))) ∧ Below w.heap.size w wr) (fun v _ _ => (intOf v + 1).toNat)
  case atStart =>
    refine ⟨(N : Int) - 1, by omega, by omega, by first | rfl | (congr 1; omega), ?_, by (repeat (first | (with_reducible exact Below.refl _ _) | (with_reducible assumption) | (with_reducible refine bel_al0 ?_ _) | (with_reducible refine bel_set ?_ (by first | (simp; done) | (simp; omega)) _) | (with_reducible refine bel_dr ?_) | (with_reducible refine bel_drn ?_ _) | (with_reducible refine bel_tr ?_ (by assumption))))⟩
    show World.ownsRow _ _ _ _ _ _ _
    rw [rmet_end (by have := HN.out; omega)]
    exact World.ownsRow_nil _ _ _ _
  case round =>
    obtain ⟨iz, hz0, hz1, rfl, ho, hB⟩ := hrel
    obtain ⟨wo, rfl⟩ : ∃ wo : World, wo = wr := ⟨_, rfl⟩
    by_cases hge : 0 ≤ iz
    · obtain ⟨j, rfl⟩ : ∃ j : Nat, iz = (j : Int) := ⟨iz.toNat, by omega⟩
      have hlt : j < N := by omega
      obtain ⟨c, hcj⟩ : ∃ c, R[j]? = some c := ⟨_, List.getElem?_eq_getElem (by rw [← HN.out]; exact hlt)⟩
      obtain ⟨b, off, A', k', rfl, c0, c1, c2, c3, c4, _, _⟩ := HROW.out.at_ hcj
      have hcx := cell_bel hc hB
      have hcl := cell_lt hcx
      replace c0 := cell_bel c0 hB
      replace c1 := cell_bel c1 hB
      replace c2 := cell_bel c2 hB
      replace c3 := cell_bel c3 hB
      replace c4 := cell_bel c4 hB
      have hon := rmet_on (ids := ids) hcj
      have hlm := rmet_len R ids (j + 1)
      rw [show ((j : Int) + 1).toNat = j + 1 by omega] at ho
      obtain ⟨met, hmet⟩ : ∃ met, met = rmet R ids (j + 1) := ⟨_, rfl⟩
      rw [← hmet] at ho hon hlm
      have HON := Lib.hid hon
      rw [← HN.out] at hlm
      obtain ⟨nm, hnm⟩ : ∃ nm, nm = met.length := ⟨_, rfl⟩
      rw [← hnm] at ho hlm
      have HNM := Lib.hid hnm
      clear hon hmet hcj hnm
      have HHc := Lib.hid (fun W (hW : Below wo.heap.size wo W) => HH.out W (bel_tr hB hW) c.id)
      obtain ⟨s0, hs0⟩ : ∃ s0, s0 = decide (c.id ∈ ids) := ⟨_, rfl⟩
      rw [← hs0] at HHc
      have HS0 := Lib.hid hs0; clear hs0
      obtain ⟨np, hnp⟩ : ∃ np, np = c.par.length := ⟨_, rfl⟩
      rw [← hnp] at c1
      clear hnp
      obtain ⟨Am, km, hvm, _⟩ := own_form ho.out
      rw [hvm] at ho ⊢
      have hrm := own_row_ge ho.out
      clear hvm
      have HFM := Lib.hid (own_flat ho.out)
      go_wp2_with (go_at_call 79; refine (HHc.out _ (by (repeat (first | (with_reducible exact Below.refl _ _) | (with_reducible assumption) | (with_reducible refine bel_al0 ?_ _) | (with_reducible refine bel_set ?_ (by first | (simp; done) | (simp; omega)) _) | (with_reducible refine bel_dr ?_) | (with_reducible refine bel_drn ?_ _) | (with_reducible refine bel_tr ?_ (by assumption)))))).mono ?_; rintro e w' ⟨rfl, rfl⟩)
      obtain ⟨w8, hw8⟩ : ∃ w8, w8 = wo.alloc (.cells #[.int .u64 c.id, .slice A' np k', .int .u64 c.gen, .int .u64 c.root, .string c.text] 69) := ⟨_, rfl⟩
      have hbk := blk_new wo #[.int .u64 c.id, .slice A' np k', .int .u64 c.gen, .int .u64 c.root, .string c.text] 69
      rw [← hw8] at hbk ⊢
      have hb8 : Below wo.heap.size wo w8 := by rw [hw8]; (repeat (first | (with_reducible exact Below.refl _ _) | (with_reducible assumption) | (with_reducible refine bel_al0 ?_ _) | (with_reducible refine bel_set ?_ (by first | (simp; done) | (simp; omega)) _) | (with_reducible refine bel_dr ?_) | (with_reducible refine bel_drn ?_ _) | (with_reducible refine bel_tr ?_ (by assumption))))
      have hz8 : w8.heap.size = wo.heap.size + 1 := by rw [hw8]; simp
      clear hw8 c0 c1 c2 c3 c4 HHc
      have HBK := Lib.hid hbk; clear hbk
      obtain ⟨bc, hbc⟩ : ∃ bc, bc = wo.heap.size := ⟨_, rfl⟩
      rw [← hbc] at HBK hz8 ⊢
      have HBC := Lib.hid hbc; clear hbc
      go_loopw [38, 8] (fun v s w' => ∃ q : Nat, ∃ sb : Bool, q ≤ nm ∧ v = .int .i64 q ∧ s = .bool sb ∧ Hid (sb = (decide (c.id ∈ ids) || (met.take q).any fun m => decide (c.id ∈ rPar R m))) ∧ Below w8.heap.size w8 w') (fun v _ _ => nm - (intOf v).toNat)
      case atStart => exact ⟨0, s0, Nat.zero_le _, rfl, rfl, by show _ = _; rw [HS0.out]; simp, Below.refl _ _⟩
      case round =>
        obtain ⟨q, sb, hq, rfl, rfl, hsb, hBq⟩ := hrel
        have HBr := Lib.hid (HBK.out.below hBq)
        obtain ⟨x0, x1, x2, x3, x4, xf⟩ := HBr.out.five
        clear x1 x2 x3 x4 xf
        have hbl : bc < wr.heap.size := cell_lt x0
        have hbwr : Below w.heap.size w wr := bel_tr hB (bel_tr hb8 hBq)
        by_cases hlq : q < nm
        · obtain ⟨y, hy⟩ : ∃ y, met[q]? = some y := ⟨_, List.getElem?_eq_getElem (by rw [← HNM.out]; exact hlq)⟩
          obtain ⟨bm, om, rfl, cm⟩ := HFM.out.at_ (nums_at hy)
          replace cm := cell_bel cm (bel_tr hb8 hBq)
          have hbm := cell_lt cm
          have hnew : Hid ((sb || decide (c.id ∈ rPar R y)) = (decide (c.id ∈ ids) || (met.take (q + 1)).any fun m => decide (c.id ∈ rPar R m))) := by
            show _ = _
            rw [List.take_add_one, hy, Option.toList_some, List.any_append, hsb.out]
            simp [Bool.or_assoc]
          have HGy := Lib.hid (HGE.out wr hbwr y)
          have h2y := H2.out y
          unfold GetPost at HGy
          have hpy : ((rFind R y).getD CommitD.zero).par = rPar R y := rfl
          obtain ⟨d, hd⟩ : ∃ d, d = (rFind R y).getD CommitD.zero := ⟨_, rfl⟩
          rw [← hd] at HGy hpy
          rw [← hpy] at hnew h2y
          clear hd hpy hy
          obtain ⟨nd, hnd⟩ : ∃ nd, nd = d.par.length := ⟨_, rfl⟩
          rw [← hnd] at HGy h2y
          have HND := Lib.hid hnd; clear hnd
          cases sb with
          | true =>
            rw [Bool.true_or] at hnew
            go_wp2_with (go_at_call 45; refine HGy.out.mono ?_; rintro e w9 ⟨A9, k9, rfl, hf9, _, hb9⟩; clear hf9)
            go_roundw
            case rel => exact ⟨q + 1, true, by omega, by go_num, rfl, hnew, by (repeat (first | (with_reducible exact Below.refl _ _) | (with_reducible assumption) | (with_reducible refine bel_al0 ?_ _) | (with_reducible refine bel_set ?_ (by first | (simp; done) | (simp; omega)) _) | (with_reducible refine bel_dr ?_) | (with_reducible refine bel_drn ?_ _) | (with_reducible refine bel_tr ?_ (by assumption))))⟩
            case measure => first | (simp [intOf]; done) | (simp [intOf]; omega)
          | false =>
            obtain ⟨r, hr⟩ : ∃ r, r = decide (c.id ∈ d.par) := ⟨_, rfl⟩
            rw [Bool.false_or, ← hr] at hnew
            have HR := Lib.hid hr; clear hr
            go_wp2_with (first | (go_at_call 45; refine HGy.out.mono ?_; rintro e w9 ⟨A9, k9, rfl, hf9, _, hb9⟩; have HF9 := Lib.hid ((hf9.below hbwr).below hb9); clear hf9; replace x0 := cell_bel x0 hb9; have hbl9 : bc < w9.heap.size := cell_lt x0) | (go_at_call 79; refine (has_calls _ A9 nd k9 d.par HND.out.symm (HF9.out.below (by (repeat (first | (with_reducible exact Below.refl _ _) | (with_reducible assumption) | (with_reducible refine bel_al0 ?_ _) | (with_reducible refine bel_set ?_ (by first | (simp; done) | (simp; omega)) _) | (with_reducible refine bel_dr ?_) | (with_reducible refine bel_drn ?_ _) | (with_reducible refine bel_tr ?_ (by assumption)))))) (by omega) c.id).mono ?_; rw [← HR.out]; rintro e w' ⟨rfl, rfl⟩))
            go_roundw
            case rel => exact ⟨q + 1, r, by omega, by go_num, rfl, hnew, by (repeat (first | (with_reducible exact Below.refl _ _) | (with_reducible assumption) | (with_reducible refine bel_al0 ?_ _) | (with_reducible refine bel_set ?_ (by first | (simp; done) | (simp; omega)) _) | (with_reducible refine bel_dr ?_) | (with_reducible refine bel_drn ?_ _) | (with_reducible refine bel_tr ?_ (by assumption))))⟩
            case measure => first | (simp [intOf]; done) | (simp [intOf]; omega)
        · have hq' : q = nm := by omega
          have htk : met.take q = met := by rw [List.take_of_length_le]; have := HNM.out; omega
          have hst := hsb.out
          rw [htk] at hst
          have hhit : rhit R ids met c.id = sb := by unfold rhit; rw [hst]
          have hon := HON.out
          unfold rstep at hon
          rw [hhit] at hon
          clear hsb htk hst hhit HFM
          have HOM := Lib.hid (own_below (own_below ho.out hb8) hBq)
          have hwz : w.heap.size ≤ wr.heap.size := hbwr.size
          cases sb with
          | false =>
            have HON2 := Lib.hid (show rmet R ids j = met from by simpa using hon)
            clear hon
            go_wp2_with fail
            go_roundw
            case rel =>
              refine ⟨(j : Int) - 1, by omega, by omega, rfl, ?_, hbwr⟩
              show World.ownsRow _ _ _ _ _ _ _
              rw [show ((j : Int) - 1 + 1).toNat = j by omega, HON2.out, ← HNM.out]
              exact HOM.out
            case measure => first | (simp [intOf]; done) | (simp [intOf]; omega)
          | true =>
            have HON2 := Lib.hid (show rmet R ids j = met ++ [c.id] from by simpa using hon)
            clear hon
            go_wp2_with (at_builtin; refine wpl_append rfl _ _ 50 rfl w.heap.size 24 _ 1 8 Try.underlying50 infoU64 rfl (by decide) _ nm (nums met) rfl (own_below HOM.out (bel_al0 (Below.refl _ _) _)) (some ⟨wr.heap.size, 0, none⟩) 1 1 (nums [c.id]) rfl rfl (flat_one wr c.id) (nums_one _) (by unfold maxLen; omega) (by omega) (by simp; omega) ?_; intro v' w6 ho6 hg6 hat6)
            have hb6 : Below w.heap.size w w6 := grown_bel (bel_al0 hbwr _) (Nat.le_refl _) hg6 (own_row_ge ho.out)
            go_roundw
            case rel =>
              refine ⟨(j : Int) - 1, by omega, by omega, rfl, ?_, hb6⟩
              show World.ownsRow _ _ _ _ _ _ _
              rw [show ((j : Int) - 1 + 1).toNat = j by omega, HON2.out, nums_app, List.length_append, ← HNM.out]
              exact ho6
            case measure => first | (simp [intOf]; done) | (simp [intOf]; omega)
    · have hiz : iz = -1 := by omega
      subst hiz
      have ho' := ho.out
      rw [show ((-1 : Int) + 1).toNat = 0 by rfl] at ho'
      have hlm := rmet_len R ids 0
      have hrr : Hid (rreach R ids = (rmet R ids 0).reverse) := rfl
      obtain ⟨met, hmet⟩ : ∃ met, met = rmet R ids 0 := ⟨_, rfl⟩
      rw [← hmet] at ho' hlm hrr
      rw [← HN.out] at hlm
      obtain ⟨nm, hnm⟩ : ∃ nm, nm = met.length := ⟨_, rfl⟩
      rw [← hnm] at ho' hlm
      have HNM := Lib.hid hnm
      clear hmet hnm ho hge
      obtain ⟨Am, km, hvm, _⟩ := own_form ho'
      rw [hvm] at ho' ⊢
      clear hvm
      have HFM := Lib.hid (own_flat ho'); clear ho'
      go_wp2_with fail
      go_loopw [14, 13] (fun v v13 w' => ∃ iz : Int, -1 ≤ iz ∧ iz < nm ∧ v = .int .i64 iz ∧ Hid (w'.ownsRow wo.heap.size 24 1 v13 (met.drop (iz + 1).toNat).length (nums (met.drop (iz + 1).toNat).reverse)) ∧ Below wo.heap.size wo w') (fun v _ _ => (intOf v + 1).toNat)
      case atStart =>
        refine ⟨(nm : Int) - 1, by omega, by omega, by first | rfl | (congr 1; omega), ?_, by (repeat (first | (with_reducible exact Below.refl _ _) | (with_reducible assumption) | (with_reducible refine bel_al0 ?_ _) | (with_reducible refine bel_set ?_ (by first | (simp; done) | (simp; omega)) _) | (with_reducible refine bel_dr ?_) | (with_reducible refine bel_drn ?_ _) | (with_reducible refine bel_tr ?_ (by assumption))))⟩
        show World.ownsRow _ _ _ _ _ _ _
        rw [List.drop_of_length_le (by have := HNM.out; omega)]
        exact World.ownsRow_nil _ _ _ _
      case round =>
        obtain ⟨iz, hy0, hy1, rfl, hov, hBv⟩ := hrel
        by_cases hge2 : 0 ≤ iz
        · obtain ⟨j, rfl⟩ : ∃ j : Nat, iz = (j : Int) := ⟨iz.toNat, by omega⟩
          have hlt : j < nm := by omega
          obtain ⟨y, hy⟩ : ∃ y, met[j]? = some y := ⟨_, List.getElem?_eq_getElem (by rw [← HNM.out]; exact hlt)⟩
          obtain ⟨bm, om, rfl, cm⟩ := HFM.out.at_ (nums_at hy)
          replace cm := cell_bel cm hBv
          have hbm := cell_lt cm
          rw [show ((j : Int) + 1).toNat = j + 1 by omega] at hov
          have hdr : met.drop j = y :: met.drop (j + 1) := by
            obtain ⟨hk, hc'⟩ := List.getElem?_eq_some_iff.1 hy
            rw [List.drop_eq_getElem_cons hk, hc']
          have HDR := Lib.hid hdr
          have hdl : (met.drop (j + 1)).length ≤ nm := by rw [List.length_drop]; have := HNM.out; omega
          obtain ⟨dl, hdl'⟩ : ∃ dl, dl = met.drop (j + 1) := ⟨_, rfl⟩
          rw [← hdl'] at hov hdl HDR
          obtain ⟨nd, hnd⟩ : ∃ nd, nd = dl.length := ⟨_, rfl⟩
          rw [← hnd] at hov hdl
          have HND := Lib.hid hnd
          clear hdl' hnd hy hdr
          have hsz := hBv.size
          go_wp2_with (at_builtin; refine wpl_append rfl _ _ 50 rfl wo.heap.size 24 _ 1 8 Try.underlying50 infoU64 rfl (by decide) _ nd (nums dl.reverse) rfl (own_below hov.out (bel_al0 (Below.refl _ _) _)) (some ⟨wr.heap.size, 0, none⟩) 1 1 (nums [y]) rfl rfl (flat_one wr y) (nums_one _) (by unfold maxLen; omega) (by omega) (by simp; omega) ?_; intro v' w6 ho6 hg6 hat6)
          have hb6 : Below wo.heap.size wo w6 := grown_bel (bel_al0 hBv _) (Nat.le_refl _) hg6 (own_row_ge hov.out)
          go_roundw
          case rel =>
            refine ⟨(j : Int) - 1, by omega, by omega, rfl, ?_, hb6⟩
            show World.ownsRow _ _ _ _ _ _ _
            rw [show ((j : Int) - 1 + 1).toNat = j by omega, HDR.out, List.reverse_cons, nums_app, List.length_cons, ← HND.out]
            exact ho6
          case measure => first | (simp [intOf]; done) | (simp [intOf]; omega)
        · have hiz : iz = -1 := by omega
          subst hiz
          have hov' := hov.out
          rw [show ((-1 : Int) + 1).toNat = 0 by rfl, List.drop_zero, ← hrr.out] at hov'
          have HOV := Lib.hid hov'
          clear hov hov'
          go_wp2_with fail
          go_ret
          refine ⟨_, rfl, ?_, bel_tr hB hBv⟩
          have := HOV.out
          rw [hrr.out, List.length_reverse, ← hrr.out]
          exact own_mono this hB.size
end Go.Proofs.Ytehneliphhgegaa
end
section
set_option linter.unusedVariables false
set_option linter.unusedSimpArgs false
namespace Go.Proofs.Ytehneliphhgegaa
open Go.RowKit Go.Apo

theorem Anc.bottom {L : List (Int × CommitD)} {x i : Int} (h : Anc L x i) : x = i ∨ ∃ d c, mget L d = some c ∧ x ∈ c.par ∧ Anc L d i := by
  induction h with
  | self _ => exact Or.inl rfl
  | @up i p c h1 h2 h3 ih =>
    right
    rcases ih with rfl | ⟨d, e, hd, hx, ha⟩
    · exact ⟨i, c, h1, h2, .self (by rw [h1]; rfl)⟩
    · exact ⟨d, e, hd, hx, .up h1 h2 ha⟩
theorem mem_rmet {L : List (Int × CommitD)} {R : List CommitD} (h : Sync L R) (ids : List Int) : ∀ (m k : Nat), k + m = R.length → ∀ x, x ∈ rmet R ids k ↔ ∃ j c, k ≤ j ∧ R[j]? = some c ∧ c.id = x ∧ ∃ i ∈ ids, Anc L x i
  | 0, k, hk, x => by
    rw [rmet_end (by omega)]
    constructor
    · intro hx; cases hx
    · rintro ⟨j, c, hj, hc, _⟩
      have := (List.getElem?_eq_some_iff.1 hc).1
      omega
  | m + 1, k, hk, x => by
    obtain ⟨c, hc⟩ : ∃ c, R[k]? = some c := ⟨_, List.getElem?_eq_getElem (by omega)⟩
    have ih := mem_rmet h ids m (k + 1) (by omega)
    have hcm := List.mem_of_getElem? hc
    have hgc : mget L c.id = some c := by rw [← h.same]; exact rFind_self h.sorted c hcm
    have hhit : rhit R ids (rmet R ids (k + 1)) c.id = true ↔ ∃ i ∈ ids, Anc L c.id i := by
      unfold rhit
      rw [Bool.or_eq_true, decide_eq_true_iff, List.any_eq_true]
      constructor
      · rintro (h1 | ⟨d, hd, h1⟩)
        · exact ⟨c.id, h1, .self (by rw [hgc]; rfl)⟩
        · rw [decide_eq_true_iff] at h1
          obtain ⟨j, e, _, he, hde, i, hi, ha⟩ := (ih d).1 hd
          refine ⟨i, hi, ?_⟩
          have hgd : mget L d = some e := by rw [← hde, ← h.same]; exact rFind_self h.sorted e (List.mem_of_getElem? he)
          rw [← h.par d, gGet_at hgd] at h1
          exact (Anc.up hgd h1 (.self (by rw [hgc]; rfl))).trans ha
      · rintro ⟨i, hi, ha⟩
        rcases ha.bottom with e | ⟨d, e, hd, hx, ha2⟩
        · exact Or.inl (by rw [e]; exact hi)
        · right
          refine ⟨d, ?_, by rw [decide_eq_true_iff, ← h.par d, gGet_at hd]; exact hx⟩
          rw [ih d]
          have hlt := (h.pars d e hd c.id hx).2.1
          have hfd : rFind R d = some e := by rw [h.same]; exact hd
          have hem : e ∈ R := List.mem_of_find?_eq_some hfd
          have heid := h.ids d e hd
          obtain ⟨j, hj⟩ := List.mem_iff_getElem?.1 hem
          refine ⟨j, e, ?_, hj, heid, i, hi, ha2⟩
          rcases Nat.lt_or_ge k j with h' | h'
          · exact h'
          · exfalso
            rcases Nat.lt_or_eq_of_le h' with h'' | h''
            · obtain ⟨p1, p2⟩ := List.getElem?_eq_some_iff.1 hj
              obtain ⟨p3, p4⟩ := List.getElem?_eq_some_iff.1 hc
              have := List.pairwise_iff_getElem.1 h.sorted j k p1 p3 h''
              rw [p2, p4] at this
              omega
            · subst h''
              rw [hc] at hj; cases hj
              omega
    rw [rmet_on hc]
    unfold rstep
    by_cases hh : rhit R ids (rmet R ids (k + 1)) c.id = true
    · rw [if_pos hh, List.mem_append, ih x, List.mem_singleton]
      constructor
      · rintro (⟨j, e, h1, h2⟩ | rfl)
        · exact ⟨j, e, by omega, h2⟩
        · exact ⟨k, c, Nat.le_refl _, hc, rfl, hhit.1 hh⟩
      · rintro ⟨j, e, h1, h2, h3, h4⟩
        rcases Nat.lt_or_eq_of_le h1 with h' | h'
        · exact Or.inl ⟨j, e, h', h2, h3, h4⟩
        · subst h'
          rw [hc] at h2; cases h2
          exact Or.inr h3.symm
    · rw [if_neg hh, ih x]
      constructor
      · rintro ⟨j, e, h1, h2⟩
        exact ⟨j, e, by omega, h2⟩
      · rintro ⟨j, e, h1, h2, h3, h4⟩
        rcases Nat.lt_or_eq_of_le h1 with h' | h'
        · exact ⟨j, e, h', h2, h3, h4⟩
        · subst h'
          rw [hc] at h2; cases h2
          rw [← h3] at h4
          exact absurd (hhit.2 h4) hh
theorem rmet_pw {L : List (Int × CommitD)} {R : List CommitD} (h : Sync L R) (ids : List Int) : ∀ (m k : Nat), k + m = R.length → (rmet R ids k).Pairwise (· > ·)
  | 0, k, hk => by rw [rmet_end (by omega)]; exact List.Pairwise.nil
  | m + 1, k, hk => by
    obtain ⟨c, hc⟩ : ∃ c, R[k]? = some c := ⟨_, List.getElem?_eq_getElem (by omega)⟩
    have ih := rmet_pw h ids m (k + 1) (by omega)
    rw [rmet_on hc]
    unfold rstep
    split
    · rw [List.pairwise_append]
      refine ⟨ih, List.pairwise_singleton _ _, fun a ha b hb => ?_⟩
      rw [List.mem_singleton] at hb; subst hb
      obtain ⟨j, e, h1, h2, h3, _⟩ := (mem_rmet h ids m (k + 1) (by omega) a).1 ha
      obtain ⟨p1, p2⟩ := List.getElem?_eq_some_iff.1 h2
      obtain ⟨p3, p4⟩ := List.getElem?_eq_some_iff.1 hc
      have := List.pairwise_iff_getElem.1 h.sorted k j p3 p1 (by omega)
      rw [p2, p4] at this
      show a > c.id
      omega
    · exact ih
theorem Sync.reach {L : List (Int × CommitD)} {R : List CommitD} (h : Sync L R) (hO : LOk L) (ids : List Int) : rreach R ids = reachL L ids := by
  refine pw_eq ?_ (sortI_lt (reachS_ok hO ids).nodup) fun x => ?_
  · unfold rreach
    rw [List.pairwise_reverse]
    exact rmet_pw h ids R.length 0 (by omega)
  · unfold rreach reachL
    rw [List.mem_reverse, mem_sortI, mem_reachS hO, mem_rmet h ids R.length 0 (by omega)]
    constructor
    · rintro ⟨j, c, _, _, _, h4⟩; exact h4
    · rintro ⟨i, hi, ha⟩
      obtain ⟨c, hc⟩ := Option.isSome_iff_exists.1 ha.of
      have hf : rFind R x = some c := by rw [h.same]; exact hc
      obtain ⟨j, hj⟩ := List.mem_iff_getElem?.1 (List.mem_of_find?_eq_some hf)
      exact ⟨j, c, Nat.zero_le _, hj, h.ids x c hc, i, hi, ha⟩
end Go.Proofs.Ytehneliphhgegaa
end
