/- The document's answer for ways: has, Far, Path, walked once. -/
import Derived.Test.YtehneliphhgegaaRefGraphAll
set_option linter.unusedVariables false
set_option linter.unusedSimpArgs false
set_option maxRecDepth 100000
namespace Go.Proofs.Ytehneliphhgegaa
open Go.RowKit Go.Apo

theorem has_calls (w : World) (A : Option Addr) (n k : Nat) (l : List Int) (hn : l.length = n) (hf : Flat w A (nums l)) (hl : n ≤ 10000000) (x : Int) :
    Calls Try.prog 79 #[.slice A n k, .int .u64 x] w fun e w' => e = .returned (.bool (decide (x ∈ l))) ∧ w = w' := by
  obtain ⟨z, hz⟩ : ∃ z, z = decide (x ∈ l) := ⟨_, rfl⟩
  rw [← hz]
  have HZ := Lib.hid hz; clear hz
  have HF := Lib.hid hf; clear hf
  have HN := Lib.hid hn; clear hn
  go_enter Try.func79, Try.ntmps79
  go_wp2
  go_loopw [9, 6] (fun v _ wr => ∃ j : Nat, j ≤ n ∧ v = .int .i64 j ∧ Hid (∀ q y, q < j → l[q]? = some y → y ≠ x) ∧ w = wr) (fun v _ _ => n - (intOf v).toNat)
  case atStart => exact ⟨0, Nat.zero_le _, rfl, fun q _ hq => absurd hq (Nat.not_lt_zero _), rfl⟩
  case round =>
    obtain ⟨j, hj, rfl, hok, rfl⟩ := hrel
    by_cases hlt : j < n
    · obtain ⟨y, hy⟩ : ∃ y, l[j]? = some y := ⟨_, List.getElem?_eq_getElem (by rw [HN.out]; exact hlt)⟩
      obtain ⟨b, off, rfl, cj⟩ := HF.out.at_ (nums_at hy)
      have HY := Lib.hid hy; clear hy
      by_cases hyx : y = x
      · subst hyx
        have hz : z = true := by rw [HZ.out]; simp; exact List.mem_of_getElem? HY.out
        subst hz
        go_wp2
        go_ret
        exact ⟨rfl, rfl⟩
      · have g1 : (y == x) = false := by simpa using hyx
        go_wp2
        go_roundw
        case rel =>
          refine ⟨j + 1, by omega, by go_num, fun q c' hq hq' => ?_, by trivial⟩
          rcases Nat.lt_or_ge q j with h' | h'
          · exact hok.out q c' h' hq'
          · obtain rfl : q = j := by omega
            rw [HY.out] at hq'; cases hq'; exact hyx
        case measure => simp [intOf]; omega
    · have hz : z = false := by
        rw [HZ.out]
        simp only [decide_eq_false_iff_not]
        intro hm
        obtain ⟨q, hq⟩ := List.mem_iff_getElem?.1 hm
        exact hok.out q x (by have := (List.getElem?_eq_some_iff.1 hq).1; have := HN.out; omega) hq rfl
      subst hz
      go_wp2
      go_ret
      exact ⟨rfl, rfl⟩

/-- numbers are alike -/
theorem same_calls (w : World) (A B : Option Addr) (n m k k' : Nat) (l l' : List Int) (hn : l.length = n) (hm : l'.length = m) (hf : Flat w A (nums l)) (hf' : Flat w B (nums l')) (hl : n ≤ 1000000000000) (hl' : m ≤ 1000000000000) :
    Calls Try.prog 29 #[.slice A n k, .slice B m k'] w fun e w' => e = .returned (.bool (decide (l = l'))) ∧ Below w.heap.size w w' := by
  obtain ⟨z, hz⟩ : ∃ z, z = decide (l = l') := ⟨_, rfl⟩
  rw [← hz]
  have HZ := Lib.hid hz; clear hz
  have HF := Lib.hid hf; clear hf
  have HF' := Lib.hid hf'; clear hf'
  by_cases hnm : n = m
  · subst hnm
    have HN := Lib.hid hn; clear hn
    have HM := Lib.hid hm; clear hm
    go_enter Try.func29, Try.ntmps29
    go_wp2
    go_loopw [13, 5] (fun v _ wr => ∃ j : Nat, j ≤ n ∧ v = .int .i64 j ∧ Hid (∀ q, q < j → l[q]? = l'[q]?) ∧ Below w.heap.size w wr) (fun v _ _ => n - (intOf v).toNat)
    case atStart => exact ⟨0, Nat.zero_le _, rfl, fun q hq => absurd hq (Nat.not_lt_zero _), by (repeat (first | (with_reducible exact Below.refl _ _) | (with_reducible assumption) | (with_reducible refine bel_al0 ?_ _) | (with_reducible refine bel_set ?_ (by first | (simp; done) | (simp; omega)) _) | (with_reducible refine bel_dr ?_) | (with_reducible refine bel_drn ?_ _) | (with_reducible refine bel_tr ?_ (by assumption))))⟩
    case round =>
      obtain ⟨j, hj, rfl, hok, hB⟩ := hrel
      by_cases hlt : j < n
      · obtain ⟨y, hy⟩ : ∃ y, l[j]? = some y := ⟨_, List.getElem?_eq_getElem (by rw [HN.out]; exact hlt)⟩
        obtain ⟨y', hy'⟩ : ∃ y, l'[j]? = some y := ⟨_, List.getElem?_eq_getElem (by rw [HM.out]; exact hlt)⟩
        obtain ⟨b, off, rfl, cj⟩ := HF.out.at_ (nums_at hy)
        obtain ⟨b', off', rfl, cj'⟩ := HF'.out.at_ (nums_at hy')
        replace cj := cell_bel cj hB
        replace cj' := cell_bel cj' hB
        have HY := Lib.hid hy; clear hy
        have HY' := Lib.hid hy'; clear hy'
        have g0 : (0 : Int) ≤ (j : Int) := by omega
        have g1 : (j : Int) < (n : Int) := by omega
        by_cases hyx : y = y'
        · subst hyx
          go_wp2
          go_quiet (fail)
          go_wp2
          go_roundw
          case rel =>
            refine ⟨j + 1, by omega, by go_num, fun q hq => ?_, by (repeat (first | (with_reducible exact Below.refl _ _) | (with_reducible assumption) | (with_reducible refine bel_al0 ?_ _) | (with_reducible refine bel_set ?_ (by first | (simp; done) | (simp; omega)) _) | (with_reducible refine bel_dr ?_) | (with_reducible refine bel_drn ?_ _) | (with_reducible refine bel_tr ?_ (by assumption))))⟩
            rcases Nat.lt_or_ge q j with h' | h'
            · exact hok.out q h'
            · obtain rfl : q = j := by omega
              rw [HY.out, HY'.out]
          case measure => simp [intOf]; omega
        · have g2 : (y == y') = false := by simpa using hyx
          have g3 : (y != y') = true := by simpa using hyx
          have hz : z = false := by
            rw [HZ.out]
            simp only [decide_eq_false_iff_not]
            intro e
            subst e
            have := HY.out
            rw [HY'.out] at this; cases this; exact hyx rfl
          subst hz
          go_wp2
          go_quiet (fail)
          go_wp2
          go_ret
          exact ⟨rfl, by (repeat (first | (with_reducible exact Below.refl _ _) | (with_reducible assumption) | (with_reducible refine bel_al0 ?_ _) | (with_reducible refine bel_set ?_ (by first | (simp; done) | (simp; omega)) _) | (with_reducible refine bel_dr ?_) | (with_reducible refine bel_drn ?_ _) | (with_reducible refine bel_tr ?_ (by assumption))))⟩
      · have hz : z = true := by
          rw [HZ.out]
          simp only [decide_eq_true_eq]
          refine List.ext_getElem? fun q => ?_
          rcases Nat.lt_or_ge q j with h' | h'
          · exact hok.out q h'
          · rw [List.getElem?_eq_none (by have := HN.out; omega), List.getElem?_eq_none (by have := HM.out; omega)]
        subst hz
        go_wp2
        go_ret
        exact ⟨rfl, hB⟩
  · have hz : z = false := by
      rw [HZ.out]
      simp only [decide_eq_false_iff_not]
      intro e; subst e; exact hnm (hn.symm.trans hm)
    subst hz
    have g1 : ((n : Int) == (m : Int)) = false := by simpa using (fun e => hnm (by omega))
    have g2 : ((n : Int) != (m : Int)) = true := by simpa using (fun e => hnm (by omega))
    clear hn hm
    go_enter Try.func29, Try.ntmps29
    go_wp2
    go_ret
    exact ⟨rfl, by (repeat (first | (with_reducible exact Below.refl _ _) | (with_reducible assumption) | (with_reducible refine bel_al0 ?_ _) | (with_reducible refine bel_set ?_ (by first | (simp; done) | (simp; omega)) _) | (with_reducible refine bel_dr ?_) | (with_reducible refine bel_drn ?_ _) | (with_reducible refine bel_tr ?_ (by assumption))))⟩
def rPar (R : List CommitD) (i : Int) : List Int := ((rFind R i).getD CommitD.zero).par
def rowStep (next : List Int) (p : Int) : List Int := if p ∈ next then next else next ++ [p]
def rowNext (R : List CommitD) (row : List Int) : List Int := row.foldl (fun next i => (rPar R i).foldl rowStep next) []
def farRows (R : List CommitD) (old : Int) : Nat → Int → List Int → Int
  | 0, _, _ => -1
  | k + 1, n, row => if old ∈ row then n else farRows R old k (n + 1) (rowNext R row)
def refFar (R : List CommitD) (old late : Int) : Int := if (rFind R late).isSome then farRows R old (R.length + 1) 0 [late] else -1
/-- parents are in the graph -/
def RClosed (R : List CommitD) : Prop := ∀ i, (rPar R i).length ≤ 2 ∧ ∀ q ∈ rPar R i, q ∈ R.map CommitD.id
/-- no more numbers than commits -/
def Gd (R : List CommitD) (l : List Int) : Prop := l.Nodup ∧ ∀ x ∈ l, x ∈ R.map CommitD.id
theorem nodup_le' : ∀ {a b : List Int}, a.Nodup → (∀ x ∈ a, x ∈ b) → a.length ≤ b.length
  | [], _, _, _ => Nat.zero_le _
  | x :: a, b, hn, hs => by
    have hx : x ∈ b := hs x List.mem_cons_self
    have h2 := List.nodup_cons.1 hn
    have := nodup_le' (a := a) (b := b.erase x) h2.2 (fun y hy => by
      have hne : y ≠ x := fun e => h2.1 (e ▸ hy)
      exact (List.mem_erase_of_ne hne).2 (hs y (List.mem_cons_of_mem _ hy)))
    have hl := List.length_erase_of_mem hx
    have : 0 < b.length := List.length_pos_of_mem hx
    simp only [List.length_cons]
    omega
theorem Gd.le {R : List CommitD} {l : List Int} (h : Gd R l) : l.length ≤ R.length := by
  have := nodup_le' h.1 h.2
  simpa using this
theorem Gd.step {R : List CommitD} {l : List Int} (h : Gd R l) {p : Int} (hp : p ∈ R.map CommitD.id) : Gd R (rowStep l p) := by
  unfold rowStep
  by_cases hm : p ∈ l
  · rw [if_pos hm]; exact h
  · rw [if_neg hm]
    refine ⟨?_, fun x hx => ?_⟩
    · rw [List.nodup_append]
      refine ⟨h.1, by simp, fun a ha b hb => ?_⟩
      rw [List.mem_singleton] at hb; subst hb
      exact fun e => hm (e ▸ ha)
    · rcases List.mem_append.1 hx with hx | hx
      · exact h.2 x hx
      · rw [List.mem_singleton] at hx; rw [hx]; exact hp
theorem Gd.nil (R : List CommitD) : Gd R [] := ⟨List.nodup_nil, fun x hx => by cases hx⟩
theorem rFind_mem {R : List CommitD} {i : Int} (h : (rFind R i).isSome = true) : i ∈ R.map CommitD.id := by
  unfold rFind at h
  rw [List.find?_isSome] at h
  obtain ⟨c, hc, he⟩ := h
  exact List.mem_map.2 ⟨c, hc, by simpa using he⟩

set_option maxHeartbeats 8000000 in
theorem refFar_calls (w : World) (x : Nat) (R : List CommitD) (h : RGraphAt w x R) (hC : RClosed R) (hR : R.length ≤ 100000) (old late : Int) :
    Calls Try.prog 28 #[.pointer (some ⟨x, 0, none⟩), .int .u64 old, .int .u64 late] w fun e w' => e = .returned (.int .i64 (refFar R old late)) ∧ Below w.heap.size w w' := by
  obtain ⟨RES, hRES⟩ : ∃ RES, RES = refFar R old late := ⟨_, rfl⟩
  rw [← hRES]
  unfold refFar at hRES
  have HAT := Lib.hid (fun W (hW : RGraphAt W x R) i => rat_calls W x R hW (by omega) i)
  have HGET := Lib.hid (fun W hW i => rget_calls w W x R h hW (by omega) i)
  have hfs := @rFind_isSome R late
  obtain ⟨ai, hai⟩ : ∃ ai, ai = rAt R late := ⟨_, rfl⟩
  have HA0 : Hid (Calls Try.prog 78 #[.pointer (some ⟨x, 0, none⟩), .int .u64 late] (w.alloc (.cells #[.int .u64 late] 24)) fun e w' => e = .returned (.int .i64 ai) ∧ Below (w.alloc (.cells #[.int .u64 late] 24)).heap.size (w.alloc (.cells #[.int .u64 late] 24)) w') := by
    rw [hai]; exact HAT.out _ (h.below (by (repeat (first | (with_reducible exact Below.refl _ _) | (with_reducible assumption) | (with_reducible refine bel_al0 ?_ _) | (with_reducible refine bel_set ?_ (by first | (simp; done) | (simp; omega)) _) | (with_reducible refine bel_dr ?_) | (with_reducible refine bel_drn ?_ _) | (with_reducible refine bel_tr ?_ (by assumption)))))) late
  rw [← hai] at hfs
  clear hai HAT
  obtain ⟨A0, k0, hblk, _, _, _⟩ := h
  have hxc := hblk.one.1
  clear hblk
  obtain ⟨m, hm⟩ : ∃ m, m = R.length := ⟨_, rfl⟩
  rw [← hm] at hxc hRES
  have HM := Lib.hid hm; clear hm
  have hm1 : m ≤ 100000 := by rw [HM.out]; exact hR
  have HC := Lib.hid hC; clear hC
  clear hR
  go_enter Try.func28, Try.ntmps28
  by_cases hin : (rFind R late).isSome = true
  · rw [if_pos hin] at hRES
    have ha0 : ¬ ai < (0 : Int) := by have := hfs.2 hin; omega
    have HR := Lib.hid hRES; clear hRES hfs
    have HG0 : Hid (Gd R [late]) := ⟨by simp, fun y hy => by rw [List.mem_singleton] at hy; subst hy; exact rFind_mem hin⟩
    clear hin
    go_wp2_with (go_at_call 78; refine HA0.out.mono ?_; rintro e w1 ⟨rfl, hb1⟩)
    have hB1 : Below w.heap.size w w1 := by (repeat (first | (with_reducible exact Below.refl _ _) | (with_reducible assumption) | (with_reducible refine bel_al0 ?_ _) | (with_reducible refine bel_set ?_ (by first | (simp; done) | (simp; omega)) _) | (with_reducible refine bel_dr ?_) | (with_reducible refine bel_drn ?_ _) | (with_reducible refine bel_tr ?_ (by assumption))))
    have hF1 : Hid (Flat w1 (some ⟨w.heap.size, 0, none⟩) (nums [late])) := by
      show Flat _ _ _
      refine Flat.below (fun _ => ⟨w.heap.size, 0, rfl, fun j u hj => ?_⟩) hb1
      cases j with
      | zero => simp [nums] at hj; subst hj; exact cell_at_new w _ _ 0 rfl
      | succ j => simp [nums] at hj
    clear hb1 HA0
    go_loopw [8, 7, 9, 11, 12, 13, 15] (fun v8 v7 _ _ _ _ _ wr => ∃ (j n c : Nat) (A : Option Addr) (row : List Int), j ≤ m + 1 ∧ v8 = .int .i64 j ∧ v7 = .slice A n c ∧ n ≤ 100000 ∧ Hid (row.length = n) ∧ Hid (Flat wr A (nums row)) ∧ Hid (Gd R row) ∧ Hid (RES = farRows R old (m + 1 - j) j row) ∧ Below w.heap.size w wr) (fun v _ _ _ _ _ _ _ => m + 1 - (intOf v).toNat)
    case atStart => exact ⟨0, 1, 1, _, [late], by omega, rfl, rfl, by omega, rfl, hF1, HG0, HR, hB1⟩
    case round =>
      obtain ⟨j, n, c, A, row, hj, rfl, rfl, hn, hrl, hF, hG, hR, hB⟩ := hrel
      obtain ⟨W0, hW0⟩ : ∃ W0, W0 = wr := ⟨_, rfl⟩
      subst hW0
      replace hxc := cell_bel hxc hB
      by_cases hjm : j ≤ m
      · have hr := hR.out
        have e1 : m + 1 - j = (m - j) + 1 := by omega
        rw [e1] at hr
        simp only [farRows] at hr
        have HH := Lib.hid (has_calls W0 A n c row hrl.out hF.out (by omega) old)
        by_cases hmem : old ∈ row
        · rw [if_pos hmem] at hr
          subst hr
          rw [decide_eq_true hmem] at HH
          clear hmem hR e1
          go_wp2_with (go_at_call 79; refine HH.out.mono ?_; rintro e w' ⟨rfl, rfl⟩)
          go_ret
          exact ⟨rfl, hB⟩
        · rw [if_neg hmem] at hr
          rw [decide_eq_false hmem] at HH
          have HR2 := Lib.hid hr; clear hr hR e1 hmem
          go_wp2_with (go_at_call 79; refine HH.out.mono ?_; rintro e w' ⟨rfl, rfl⟩)
          go_loopw [37, 9, 11, 12, 13, 15] (fun v v9 _ _ _ _ wq => ∃ (i n2 c2 : Nat) (A2 : Option Addr) (next : List Int), i ≤ n ∧ v = .int .i64 i ∧ v9 = .slice A2 n2 c2 ∧ Hid (next.length = n2) ∧ Hid (wq.ownsRow W0.heap.size 24 1 (.slice A2 n2 c2) n2 (nums next)) ∧ Hid (Gd R next) ∧ Hid ((row.take i).foldl (fun next i => (rPar R i).foldl rowStep next) [] = next) ∧ Below W0.heap.size W0 wq) (fun v _ _ _ _ _ _ => n - (intOf v).toNat)
          case atStart => exact ⟨0, 0, 0, none, [], Nat.zero_le _, rfl, rfl, rfl, World.ownsRow_nil _ _ _ _, Gd.nil R, rfl, by (repeat (first | (with_reducible exact Below.refl _ _) | (with_reducible assumption) | (with_reducible refine bel_al0 ?_ _) | (with_reducible refine bel_set ?_ (by first | (simp; done) | (simp; omega)) _) | (with_reducible refine bel_dr ?_) | (with_reducible refine bel_drn ?_ _) | (with_reducible refine bel_tr ?_ (by assumption))))⟩
          case round =>
            obtain ⟨i, n2, c2, A2, next, hi, rfl, rfl, hl2, how2, hG2, hfo2, hB2⟩ := hrel
            have hBB := bel_tr hB hB2
            replace hxc := cell_bel hxc hB2
            by_cases hin : i < n
            · obtain ⟨y, hy⟩ : ∃ y, row[i]? = some y := ⟨_, List.getElem?_eq_getElem (by rw [hrl.out]; exact hin)⟩
              obtain ⟨b, off, rfl, cy⟩ := (hF.out.below hB2).at_ (nums_at hy)
              have htk : row.take (i + 1) = row.take i ++ [y] := by rw [List.take_add_one, hy]; rfl
              have hfo3 : Hid ((row.take (i + 1)).foldl (fun next i => (rPar R i).foldl rowStep next) [] = (rPar R y).foldl rowStep next) := by
                show _ = _
                rw [htk, List.foldl_append, hfo2.out]; rfl
              clear htk hy
              have HG1 := Lib.hid (HGET.out wr hBB y)
              have hps0 : ((rFind R y).getD CommitD.zero).par = rPar R y := rfl
              have hpc := HC.out y
              unfold GetPost at HG1
              rw [hps0] at HG1
              clear hps0
              obtain ⟨ps, hps⟩ : ∃ ps, ps = rPar R y := ⟨_, rfl⟩
              rw [← hps] at HG1 hpc hfo3
              clear hps
              obtain ⟨np, hnp⟩ : ∃ np, np = ps.length := ⟨_, rfl⟩
              rw [← hnp] at HG1 hpc
              have HNP := Lib.hid hnp; clear hnp
              have hnp2 := hpc.1
              have HPC := Lib.hid hpc.2; clear hpc
              go_wp2_with (go_at_call 45; refine HG1.out.mono ?_; rintro e w5 ⟨A1, k1, rfl, hf1, hA1, hb1⟩)
              have hb6 : Below wr.heap.size wr (w5.alloc (.cells #[.int .u64 ((rFind R y).getD CommitD.zero).id, .slice A1 np k1, .int .u64 ((rFind R y).getD CommitD.zero).gen, .int .u64 ((rFind R y).getD CommitD.zero).root, .string ((rFind R y).getD CommitD.zero).text] 69)) := by (repeat (first | (with_reducible exact Below.refl _ _) | (with_reducible assumption) | (with_reducible refine bel_al0 ?_ _) | (with_reducible refine bel_set ?_ (by first | (simp; done) | (simp; omega)) _) | (with_reducible refine bel_dr ?_) | (with_reducible refine bel_drn ?_ _) | (with_reducible refine bel_tr ?_ (by assumption))))
              have HF1 := Lib.hid hf1; clear hf1 hA1 hb1 HG1
              have how6 := Lib.hid (own_below how2.out hb6)
              have hB6 := bel_tr hB2 hb6
              replace hxc := cell_bel hxc hb6
              obtain ⟨w6, hw6⟩ : ∃ w6, w6 = w5.alloc (.cells #[.int .u64 ((rFind R y).getD CommitD.zero).id, .slice A1 np k1, .int .u64 ((rFind R y).getD CommitD.zero).gen, .int .u64 ((rFind R y).getD CommitD.zero).root, .string ((rFind R y).getD CommitD.zero).text] 69) := ⟨_, rfl⟩
              rw [← hw6] at how6 hB6 hxc ⊢
              clear hw6 hb6
              go_loopw [50, 9, 15] (fun v v9 _ wq => ∃ (q n3 c3 : Nat) (A3 : Option Addr) (nx : List Int), q ≤ np ∧ v = .int .i64 q ∧ v9 = .slice A3 n3 c3 ∧ Hid (nx.length = n3) ∧ Hid (wq.ownsRow W0.heap.size 24 1 (.slice A3 n3 c3) n3 (nums nx)) ∧ Hid (Gd R nx) ∧ Hid ((ps.take q).foldl rowStep next = nx) ∧ Below W0.heap.size W0 wq) (fun v _ _ _ => np - (intOf v).toNat)
              case atStart => exact ⟨0, n2, c2, A2, next, Nat.zero_le _, rfl, rfl, hl2, how6, hG2, rfl, hB6⟩
              case round =>
                obtain ⟨q, n3, c3, A3, nx, hq, rfl, rfl, hl3, how3, hG3, hfoq, hB3⟩ := hrel
                by_cases hqn : q < np
                · obtain ⟨z, hz⟩ : ∃ z, ps[q]? = some z := ⟨_, List.getElem?_eq_getElem (by rw [← HNP.out]; exact hqn)⟩
                  obtain ⟨b1, ob, rfl, cz⟩ := (HF1.out.below (bel_tr hB hB3)).at_ (nums_at hz)
                  have htk : ps.take (q + 1) = ps.take q ++ [z] := by rw [List.take_add_one, hz]; rfl
                  have hstep : Hid ((ps.take (q + 1)).foldl rowStep next = rowStep nx z) := by
                    show _ = _
                    rw [htk, List.foldl_append, hfoq.out]; rfl
                  have hzm := HPC.out z (List.mem_of_getElem? hz)
                  have hGs := hG3.out.step hzm
                  have hn3 : n3 ≤ 100000 := by have := hG3.out.le; have := hl3.out; have := HM.out; omega
                  have HHS := Lib.hid (has_calls wr A3 n3 c3 nx hl3.out (own_flat how3.out) (by omega) z)
                  clear htk hz hzm
                  have hBw := bel_tr hB hB3
                  by_cases hmz : z ∈ nx
                  · have e : rowStep nx z = nx := by unfold rowStep; rw [if_pos hmz]
                    rw [e] at hstep hGs
                    rw [decide_eq_true hmz] at HHS
                    clear e hmz
                    go_wp2_with (go_at_call 79; refine HHS.out.mono ?_; rintro e w' ⟨rfl, rfl⟩)
                    go_roundw
                    case rel => exact ⟨q + 1, n3, c3, A3, nx, by omega, by go_num, rfl, hl3, how3, hG3, hstep, hB3⟩
                    case measure => simp [intOf]; omega
                  · have e : rowStep nx z = nx ++ [z] := by unfold rowStep; rw [if_neg hmz]
                    rw [e] at hstep hGs
                    rw [decide_eq_false hmz] at HHS
                    have HGS := Lib.hid hGs; clear hGs
                    clear e hmz
                    have hsz := hB3.size
                    go_wp2_with (first | (go_at_call 79; refine HHS.out.mono ?_; rintro e w' ⟨rfl, rfl⟩) | (at_builtin; refine wpl_append rfl _ _ 50 rfl W0.heap.size 24 _ 1 8 Try.underlying50 infoU64 rfl (by decide) _ n3 (nums nx) rfl (own_below how3.out (bel_al0 (Below.refl _ _) _)) (some ⟨wr.heap.size, 0, none⟩) 1 1 [.int .u64 z] rfl rfl (fun _ => ⟨wr.heap.size, 0, rfl, fun j u hj => by cases j with | zero => simp only [List.getElem?_cons_zero, Option.some.injEq] at hj; subst hj; exact cell_at_new wr _ _ 0 rfl | succ j => simp at hj⟩) (by intro u hu; rw [List.mem_singleton] at hu; subst hu; rfl) (by unfold maxLen; omega) (by omega) (by simp; omega) ?_; intro v' w8 ho8 hg8 hat8))
                    obtain ⟨A8, c8, rfl, hc8⟩ := own_form ho8
                    have hB8 : Below W0.heap.size W0 w8 := (bel_al0 hB3 (.cells #[.int .u64 z] 24)).grown hg8 (by simp; omega) (fun kk' hk' => (how3.out.lt kk' hk').1)
                    have ho9 : Hid (w8.ownsRow W0.heap.size 24 1 (.slice A8 (n3 + 1) c8) (n3 + 1) (nums (nx ++ [z]))) := by
                      show w8.ownsRow _ _ _ _ _ _
                      rw [nums_app]; exact ho8
                    have hol9 : Hid ((nx ++ [z]).length = n3 + 1) := by show _ = _; rw [List.length_append, hl3.out]; rfl
                    clear ho8 hg8 hat8
                    go_roundw
                    case rel => exact ⟨q + 1, n3 + 1, c8, A8, nx ++ [z], by omega, by go_num, rfl, hol9, ho9, HGS, hstep, hB8⟩
                    case measure => simp [intOf]; omega
                · have htk : ps.take q = ps := by rw [List.take_of_length_le]; have := HNP.out; omega
                  have hfo4 := hfoq.out
                  rw [htk] at hfo4
                  have hfo5 : Hid ((row.take (i + 1)).foldl (fun next i => (rPar R i).foldl rowStep next) [] = nx) := hfo3.out.trans hfo4
                  clear hfo4 htk
                  go_wp2
                  go_roundw
                  case rel => exact ⟨i + 1, n3, c3, A3, nx, by omega, by go_num, rfl, hl3, how3, hG3, hfo5, hB3⟩
                  case measure => simp [intOf]; omega
            · have htk : row.take i = row := by rw [List.take_of_length_le]; have := hrl.out; omega
              have hfo := hfo2.out
              rw [htk] at hfo
              have hr := HR2.out
              have e2 : rowNext R row = next := hfo
              have e3 : m - j = m + 1 - (j + 1) := by omega
              rw [e2, e3] at hr
              have HR3 : Hid (RES = farRows R old (m + 1 - (j + 1)) ((j + 1 : Nat) : Int) next) := hr
              clear hr e2 e3 hfo htk
              have hn2 : n2 ≤ 100000 := by have := hG2.out.le; have := hl2.out; have := HM.out; omega
              have hFN := Lib.hid (own_flat how2.out)
              go_wp2
              go_roundw
              case rel => exact ⟨j + 1, n2, c2, A2, next, by omega, by go_num, rfl, hn2, hl2, hFN, hG2, HR3, hBB⟩
              case measure => simp [intOf]; omega
      · have hjm' : j = m + 1 := by omega
        have hr := hR.out
        have e1 : m + 1 - j = 0 := by omega
        rw [e1] at hr
        simp only [farRows] at hr
        subst hr
        clear hR e1
        go_wp2
        go_ret
        exact ⟨rfl, hB⟩
  · rw [if_neg hin] at hRES
    subst hRES
    have ha0 : ai < (0 : Int) := by
      by_cases h : ai < 0
      · exact h
      · exact absurd (hfs.1 (by omega)) hin
    clear hfs hin
    go_wp2_with (go_at_call 78; refine HA0.out.mono ?_; rintro e w1 ⟨rfl, hb1⟩)
    go_ret
    exact ⟨rfl, by (repeat (first | (with_reducible exact Below.refl _ _) | (with_reducible assumption) | (with_reducible refine bel_al0 ?_ _) | (with_reducible refine bel_set ?_ (by first | (simp; done) | (simp; omega)) _) | (with_reducible refine bel_dr ?_) | (with_reducible refine bel_drn ?_ _) | (with_reducible refine bel_tr ?_ (by assumption))))⟩
end Go.Proofs.Ytehneliphhgegaa
