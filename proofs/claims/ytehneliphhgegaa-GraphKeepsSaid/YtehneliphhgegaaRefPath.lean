/- The document's Path, walked once. -/
import Derived.Test.YtehneliphhgegaaRefFar
set_option linter.unusedVariables false
set_option linter.unusedSimpArgs false
set_option maxRecDepth 100000
namespace Go.Proofs.Ytehneliphhgegaa
open Go.RowKit Go.Apo

/-- a row of numbers is handed back -/
def RNumsPost (w : World) (l : List Int) (e : Ending) (w' : World) : Prop :=
  ∃ A k, e = .returned (.slice A l.length k) ∧ Flat w' A (nums l) ∧ Below w.heap.size w w'
def rPathRun (R : List CommitD) (old : Int) : Nat → Int → List Int → List Int
  | 0, _, out => out
  | k + 1, late, out => rPathRun R old k (((rPar R late).find? (fun p => refFar R old p == (k : Int))).getD late) (out ++ [((rPar R late).find? (fun p => refFar R old p == (k : Int))).getD late])
def refPath (R : List CommitD) (old late : Int) : List Int := if refFar R old late < 0 then [] else rPathRun R old (refFar R old late).toNat late [late]
theorem farRows_bound (R : List CommitD) (old : Int) : ∀ (k : Nat) (n : Int) (row : List Int), 0 ≤ n → -1 ≤ farRows R old k n row ∧ farRows R old k n row < n + k
  | 0, n, row, h => by simp only [farRows]; omega
  | k + 1, n, row, h => by
    simp only [farRows]
    split
    · omega
    · have := farRows_bound R old k (n + 1) (rowNext R row) (by omega); omega
theorem refFar_bound (R : List CommitD) (old late : Int) : -1 ≤ refFar R old late ∧ refFar R old late ≤ R.length := by
  unfold refFar
  split
  · have := farRows_bound R old (R.length + 1) 0 [late] (by omega); omega
  · omega

set_option maxHeartbeats 8000000 in
theorem refPath_calls (w : World) (x : Nat) (R : List CommitD) (h : RGraphAt w x R) (hC : RClosed R) (hR : R.length ≤ 100000) (old late : Int) :
    Calls Try.prog 31 #[.pointer (some ⟨x, 0, none⟩), .int .u64 old, .int .u64 late] w (RNumsPost w (refPath R old late)) := by
  obtain ⟨RES, hRES⟩ : ∃ RES, RES = refPath R old late := ⟨_, rfl⟩
  rw [← hRES]
  unfold refPath at hRES
  have HFAR := Lib.hid (fun W (hW : Below w.heap.size w W) l => refFar_calls W x R (h.below hW) hC hR old l)
  have HGET := Lib.hid (fun W hW i => rget_calls w W x R h hW (by omega) i)
  have HF0 := Lib.hid (HFAR.out w (Below.refl _ _) late)
  have hbd := refFar_bound R old late
  obtain ⟨d, hd⟩ : ∃ d, d = refFar R old late := ⟨_, rfl⟩
  rw [← hd] at hRES HF0 hbd
  clear hd h
  have HC := Lib.hid hC; clear hC
  by_cases hneg : d < 0
  · rw [if_pos hneg] at hRES
    subst hRES
    go_enter Try.func31, Try.ntmps31
    go_wp2_with (go_at_call 28; refine HF0.out.mono ?_; rintro e w1 ⟨rfl, hb1⟩)
    go_ret
    exact ⟨none, 0, rfl, Flat.nil _ _, hb1⟩
  · rw [if_neg hneg] at hRES
    obtain ⟨kk, rfl⟩ : ∃ kk : Nat, d = kk := ⟨d.toNat, by omega⟩
    have hkk : kk ≤ 100000 := by omega
    clear hbd
    rw [Int.toNat_natCast] at hRES
    have HR := Lib.hid hRES; clear hRES
    go_enter Try.func31, Try.ntmps31
    go_wp2_with (go_at_call 28; refine HF0.out.mono ?_; rintro e w1 ⟨rfl, hb1⟩)
    have hown := Lib.hid (World.ownsRow_lit (base := w.heap.size) (e := 24) (size := 1) w1 #[.int .u64 late] 1 hb1.size (by unfold maxLen; omega) rfl)
    have hB1 : Below w.heap.size w (w1.alloc (.cells #[.int .u64 late] 24)) := by (repeat (first | (with_reducible exact Below.refl _ _) | (with_reducible assumption) | (with_reducible refine bel_al0 ?_ _) | (with_reducible refine bel_set ?_ (by first | (simp; done) | (simp; omega)) _) | (with_reducible refine bel_dr ?_) | (with_reducible refine bel_drn ?_ _) | (with_reducible refine bel_tr ?_ (by assumption))))
    obtain ⟨w2, hw2⟩ : ∃ w2, w2 = w1.alloc (.cells #[.int .u64 late] 24) := ⟨_, rfl⟩
    rw [← hw2] at hown hB1 ⊢
    clear hw2 hb1 HF0 hneg
    go_loopw [7, 2, 8, 9, 10, 11] (fun v7 v2 v8 _ _ _ wr => ∃ (k n c : Nat) (lt : Int) (A : Option Addr) (out : List Int), v7 = .int .i64 k ∧ v2 = .int .u64 lt ∧ v8 = .slice A n c ∧ Hid (out.length = n) ∧ n + k ≤ 100001 ∧ Hid (wr.ownsRow w.heap.size 24 1 (.slice A n c) n (nums out)) ∧ Hid (RES = rPathRun R old k lt out) ∧ Below w.heap.size w wr) (fun v _ _ _ _ _ _ => (intOf v).toNat)
    case atStart => exact ⟨kk, 1, 1, late, some ⟨w1.heap.size, 0, none⟩, [late], rfl, rfl, rfl, rfl, by omega, hown, HR, hB1⟩
    case round =>
      obtain ⟨k, n, c, lt, A, out, rfl, rfl, rfl, hol, hnk, how, hR, hB⟩ := hrel
      cases k with
      | zero =>
        have hr := hR.out
        simp only [rPathRun] at hr
        subst hr
        have hfl := own_flat how.out
        have HW := Lib.hid hfl; clear hfl
        go_wp2
        go_ret
        exact ⟨A, c, by rw [hol.out]; rfl, HW.out, hB⟩
      | succ k =>
        have hr := hR.out
        simp only [rPathRun] at hr
        have HR2 := Lib.hid hr; clear hr hR
        have HG1 := Lib.hid (HGET.out wr hB lt)
        have hps0 : ((rFind R lt).getD CommitD.zero).par = rPar R lt := rfl
        have hpc := HC.out lt
        unfold GetPost at HG1
        rw [hps0] at HG1
        clear hps0
        obtain ⟨ps, hps⟩ : ∃ ps, ps = rPar R lt := ⟨_, rfl⟩
        rw [← hps] at HG1 hpc HR2
        clear hps
        obtain ⟨np, hnp⟩ : ∃ np, np = ps.length := ⟨_, rfl⟩
        rw [← hnp] at HG1 hpc
        have HNP := Lib.hid hnp; clear hnp
        have hnp2 := hpc.1
        clear hpc
        go_wp2_with (go_at_call 45; refine HG1.out.mono ?_; rintro e w5 ⟨A1, k1, rfl, hf1, hA1, hb1⟩)
        have hb6 : Below wr.heap.size wr (w5.alloc (.cells #[.int .u64 ((rFind R lt).getD CommitD.zero).id, .slice A1 np k1, .int .u64 ((rFind R lt).getD CommitD.zero).gen, .int .u64 ((rFind R lt).getD CommitD.zero).root, .string ((rFind R lt).getD CommitD.zero).text] 69)) := by (repeat (first | (with_reducible exact Below.refl _ _) | (with_reducible assumption) | (with_reducible refine bel_al0 ?_ _) | (with_reducible refine bel_set ?_ (by first | (simp; done) | (simp; omega)) _) | (with_reducible refine bel_dr ?_) | (with_reducible refine bel_drn ?_ _) | (with_reducible refine bel_tr ?_ (by assumption))))
        have HF1 := Lib.hid hf1
        have how6 := Lib.hid (own_below how.out hb6)
        have hB6 := bel_tr hB hb6
        obtain ⟨_, x1, _, _, _, _⟩ := (blk_new w5 #[.int .u64 ((rFind R lt).getD CommitD.zero).id, .slice A1 np k1, .int .u64 ((rFind R lt).getD CommitD.zero).gen, .int .u64 ((rFind R lt).getD CommitD.zero).root, .string ((rFind R lt).getD CommitD.zero).text] 69).five
        obtain ⟨w6, hw6⟩ : ∃ w6, w6 = w5.alloc (.cells #[.int .u64 ((rFind R lt).getD CommitD.zero).id, .slice A1 np k1, .int .u64 ((rFind R lt).getD CommitD.zero).gen, .int .u64 ((rFind R lt).getD CommitD.zero).root, .string ((rFind R lt).getD CommitD.zero).text] 69) := ⟨_, rfl⟩
        rw [← hw6] at how6 hB6 x1 ⊢
        clear hw6 hb6 hf1 hA1 hb1 HG1
        go_loopw [11, 2] (fun v11 v2 wq => ∃ (q : Nat) (lt' : Int), q ≤ np ∧ v11 = .int .i64 ((q : Int) - 1) ∧ v2 = .int .u64 lt' ∧ Hid (((ps.drop q).find? (fun p => refFar R old p == (k : Int))).getD lt = lt') ∧ Below w6.heap.size w6 wq) (fun v _ _ => (intOf v + 1).toNat)
        case atStart => exact ⟨np, lt, Nat.le_refl _, rfl, rfl, by show _ = _; rw [List.drop_of_length_le (by rw [HNP.out]; exact Nat.le_refl _)]; rfl, by (repeat (first | (with_reducible exact Below.refl _ _) | (with_reducible assumption) | (with_reducible refine bel_al0 ?_ _) | (with_reducible refine bel_set ?_ (by first | (simp; done) | (simp; omega)) _) | (with_reducible refine bel_dr ?_) | (with_reducible refine bel_drn ?_ _) | (with_reducible refine bel_tr ?_ (by assumption))))⟩
        case round =>
          obtain ⟨q, lt', hq, rfl, rfl, hlt, hBq⟩ := hrel
          have hBw := bel_tr hB6 hBq
          replace x1 := cell_bel x1 hBq
          cases q with
          | zero =>
            have e0 : ((0 : Nat) : Int) - 1 = -1 := by omega
            rw [e0]
            have hl := hlt.out
            rw [List.drop_zero] at hl
            have hr := HR2.out
            rw [hl] at hr
            have HR3 := Lib.hid hr; clear hr hl e0
            have how7 := Lib.hid (own_below how6.out hBq)
            have hsz := hBw.size
            go_wp2_with (at_builtin; refine wpl_append rfl _ _ 50 rfl w.heap.size 24 _ 1 8 Try.underlying50 infoU64 rfl (by decide) _ n (nums out) rfl (own_below how7.out (bel_al0 (Below.refl _ _) _)) (some ⟨wr.heap.size, 0, none⟩) 1 1 [.int .u64 lt'] rfl rfl (fun _ => ⟨wr.heap.size, 0, rfl, fun j u hj => by cases j with | zero => simp only [List.getElem?_cons_zero, Option.some.injEq] at hj; subst hj; exact cell_at_new wr _ _ 0 rfl | succ j => simp at hj⟩) (by intro u hu; rw [List.mem_singleton] at hu; subst hu; rfl) (by unfold maxLen; omega) (by omega) (by simp; omega) ?_; intro v' w8 ho8 hg8 hat8)
            obtain ⟨A8, c8, rfl, hc8⟩ := own_form ho8
            have hB8 : Below w.heap.size w w8 := (bel_al0 hBw (.cells #[.int .u64 lt'] 24)).grown hg8 (by simp; omega) (fun kk' hk' => (how7.out.lt kk' hk').1)
            have ho9 : Hid (w8.ownsRow w.heap.size 24 1 (.slice A8 (n + 1) c8) (n + 1) (nums (out ++ [lt']))) := by
              show w8.ownsRow _ _ _ _ _ _
              rw [nums_app]; exact ho8
            have hol9 : Hid ((out ++ [lt']).length = n + 1) := by show _ = _; rw [List.length_append, hol.out]; rfl
            clear ho8 hg8 hat8
            go_roundw
            case rel => exact ⟨k, n + 1, c8, lt', A8, out ++ [lt'], rfl, rfl, rfl, hol9, by omega, ho9, HR3, hB8⟩
            case measure => simp [intOf]
          | succ q =>
            have e0 : ((q + 1 : Nat) : Int) - 1 = q := by omega
            rw [e0]
            obtain ⟨z, hz⟩ : ∃ z, ps[q]? = some z := ⟨_, List.getElem?_eq_getElem (by rw [← HNP.out]; exact hq)⟩
            obtain ⟨b1, ob, rfl, cz⟩ := (HF1.out.below hBw).at_ (nums_at hz)
            have hdr : ps.drop q = z :: ps.drop (q + 1) := by
              rw [List.drop_eq_getElem_cons (by rw [← HNP.out]; exact hq)]
              rw [(List.getElem?_eq_some_iff.1 hz).2]
            have HFZ := Lib.hid (HFAR.out wr hBw z)
            by_cases hzk : refFar R old z = k
            · have hst : Hid (((ps.drop q).find? (fun p => refFar R old p == (k : Int))).getD lt = z) := by
                show _ = _
                rw [hdr, List.find?_cons_of_pos (by simpa using hzk)]; rfl
              rw [hzk] at HFZ
              clear hzk hdr hz
              go_wp2_with (go_at_call 28; refine HFZ.out.mono ?_; rintro e w7 ⟨rfl, hb7⟩; replace x1 := cell_bel x1 hb7; replace cz := cell_bel cz hb7)
              go_roundw
              case rel => exact ⟨q, z, by omega, by go_num, rfl, hst, by (repeat (first | (with_reducible exact Below.refl _ _) | (with_reducible assumption) | (with_reducible refine bel_al0 ?_ _) | (with_reducible refine bel_set ?_ (by first | (simp; done) | (simp; omega)) _) | (with_reducible refine bel_dr ?_) | (with_reducible refine bel_drn ?_ _) | (with_reducible refine bel_tr ?_ (by assumption))))⟩
              case measure => simp [intOf]
            · have hst : Hid (((ps.drop q).find? (fun p => refFar R old p == (k : Int))).getD lt = lt') := by
                show _ = _
                rw [hdr, List.find?_cons_of_neg (by simpa using hzk)]; exact hlt.out
              have hzk' : (refFar R old z == (k : Int)) = false := by simpa using hzk
              obtain ⟨fz, hfz⟩ : ∃ fz, fz = refFar R old z := ⟨_, rfl⟩
              rw [← hfz] at HFZ hzk'
              clear hzk hdr hz hfz
              go_wp2_with (go_at_call 28; refine HFZ.out.mono ?_; rintro e w7 ⟨rfl, hb7⟩; replace x1 := cell_bel x1 hb7; replace cz := cell_bel cz hb7)
              go_roundw
              case rel => exact ⟨q, lt', by omega, by go_num, rfl, hst, by (repeat (first | (with_reducible exact Below.refl _ _) | (with_reducible assumption) | (with_reducible refine bel_al0 ?_ _) | (with_reducible refine bel_set ?_ (by first | (simp; done) | (simp; omega)) _) | (with_reducible refine bel_dr ?_) | (with_reducible refine bel_drn ?_ _) | (with_reducible refine bel_tr ?_ (by assumption))))⟩
              case measure => simp [intOf]
end Go.Proofs.Ytehneliphhgegaa
