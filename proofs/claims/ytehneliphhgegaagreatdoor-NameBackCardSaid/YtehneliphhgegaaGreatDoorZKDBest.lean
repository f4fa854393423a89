/- The best of some ways: the code's best, walked once. -/
import Derived.Test.YtehneliphhgegaaGreatDoorZKDWay
import Derived.Test.YtehneliphhgegaaGreatDoorBase
import Derived.Test.YtehneliphhgegaaGreatDoorDFmt
import Derived.Test.YtehneliphhgegaaGreatDoorDRead
import Derived.Test.YtehneliphhgegaaGreatDoorRows2
import Derived.Test.YtehneliphhgegaaGreatDoorZGGraphAll
import Derived.Test.YtehneliphhgegaaGreatDoorZGMadeAll
import Derived.Test.YtehneliphhgegaaGreatDoorZGRefGraphAll
import Derived.Test.YtehneliphhgegaaGreatDoorZGRest
import Derived.Test.YtehneliphhgegaaGreatDoorZKDNameV
set_option linter.unusedVariables false
set_option linter.unusedSimpArgs false
set_option maxRecDepth 100000
namespace Go.Proofs.YtehneliphhgegaaGreatDoor
open Go.RowKit Go.Apo

/-- ways, as they lie in memory -/
def wcells : List Way → List Value
  | [] => []
  | a :: l => .string a.1 :: .int .i64 (a.2 : Nat) :: wcells l
theorem wcells_len : ∀ l : List Way, (wcells l).length = l.length * 2
  | [] => rfl
  | a :: l => by simp only [wcells, List.length_cons, wcells_len l]; omega
theorem wcells_at : ∀ {l : List Way} {j : Nat} {a : Way}, l[j]? = some a → (wcells l)[j * 2]? = some (.string a.1) ∧ (wcells l)[j * 2 + 1]? = some (.int .i64 (a.2 : Nat))
  | [], j, a, h => by simp at h
  | b :: l, 0, a, h => by
    simp only [List.getElem?_cons_zero, Option.some.injEq] at h
    subst h
    exact ⟨rfl, rfl⟩
  | b :: l, j + 1, a, h => by
    have h2 : l[j]? = some a := by simpa using h
    obtain ⟨h3, h4⟩ := wcells_at h2
    have e : (j + 1) * 2 = j * 2 + 1 + 1 := by omega
    rw [e]
    exact ⟨h3, h4⟩
theorem wcells_app : ∀ l k : List Way, wcells (l ++ k) = wcells l ++ wcells k
  | [], k => rfl
  | a :: l, k => by simp only [List.cons_append, wcells, wcells_app l k]
theorem wcells_one : ∀ (l : List Way), ∀ u ∈ wcells l, u.oneCell' = true
  | [], u, h => by simp [wcells] at h
  | a :: l, u, h => by
    simp only [wcells, List.mem_cons] at h
    rcases h with rfl | rfl | h
    · rfl
    · rfl
    · exact wcells_one l u h
/-- the slice without its first way -/
def subW (A : Option Addr) (c : Nat) : Option Addr := if c = 1 then A else A.map (·.add (1 * 2))
theorem run_cutW (A : Option Addr) (n c : Nat) (hk : 1 ≤ n) (W : World) : (Instr.slice 67 (.slice A n c) (some (.int .i64 1)) none none).run Tryz.prog W = .ok (.slice (subW A c) (n - 1) (c - 1)) W := by
  have ht : Tryz.prog.underlying 67 = some (.slice (Tryz.prog.elem 67)) := by kernel_rfl
  have he : Tryz.prog.elem 67 = 70 := by kernel_rfl
  have h := run_slice_l (P := Tryz.prog) W 67 A n c ht .i64 ((1 : Nat) : Int) (by omega) (by omega)
  rw [he, Tryz.sizeOf70] at h
  refine h.trans ?_
  unfold subW
  simp [Result.andThen, sliced]
theorem way_sub {w : World} {A : Option Addr} {l : List Way} {c : Nat} (h : Flat w A (wcells l)) (hc : l.length ≤ c) {j : Nat} {a : Way} (hj : l[j + 1]? = some a) :
    ∃ b off, subW A c = some ⟨b, off, none⟩ ∧ w.cell? ⟨b, off + j * 2, none⟩ = some (.string a.1) ∧ w.cell? ⟨b, off + j * 2 + 1, none⟩ = some (.int .i64 (a.2 : Nat)) := by
  obtain ⟨h1, h2⟩ := wcells_at hj
  have hl := (List.getElem?_eq_some_iff.1 hj).1
  obtain ⟨b, off, rfl, hq⟩ := h (by rw [wcells_len]; omega)
  refine ⟨b, off + 2, ?_, ?_, ?_⟩
  · unfold subW
    rw [if_neg (by omega)]
    simp only [Option.map_some, Nat.one_mul]
    rw [add_pl']
  · have := hq _ _ h1
    have e : off + (j + 1) * 2 = off + 2 + j * 2 := by omega
    rwa [e] at this
  · have := hq _ _ h2
    have e : off + ((j + 1) * 2 + 1) = off + 2 + j * 2 + 1 := by omega
    rwa [e] at this
def bestT : Option Way → Value
  | none => .tuple #[.agg #[.string ⟨#[]⟩, .int .i64 0], .bool false]
  | some a => .tuple #[wayVal a, .bool true]
theorem blk2 {w : World} {b : Nat} {v0 v1 : Value} {t : TypeId} (h : Blk w b #[v0, v1] t) : w.cell? ⟨b, 0, none⟩ = some v0 ∧ w.cell? ⟨b, 1, none⟩ = some v1 ∧ (∀ j, w.frozen? ⟨b, j, none⟩ = false) := ⟨h.cell rfl, h.cell rfl, h.frozen⟩
theorem best_take {l : List Way} {j : Nat} {a b : Way} (h : bestW (l.take j) = some b) (hj : l[j]? = some a) : bestW (l.take (j + 1)) = if wayLess a b = true then some a else some b := by
  rw [List.take_add_one, hj]
  show bestW (l.take j ++ [a]) = _
  rw [bestW_snoc, h]
  rfl
set_option maxHeartbeats 4000000 in
theorem best_none (w : World) (A : Option Addr) (c : Nat) :
    Calls Tryz.prog 29 #[.slice A 0 c, .func (.func 30) #[] #[]] w fun e w' => e = .returned (bestT none) ∧ Below w.heap.size w w' := by
  go_enter Tryz.func29, Tryz.ntmps29
  go_wp2
  refine bodyPost_ret (v := .tuple #[.agg #[.string ⟨#[]⟩, .int .i64 0], .bool false]) ?_ rfl ?_
  · simp [results, Tryz.results29, go_sem]
  · exact ⟨rfl, by (repeat (first | (with_reducible exact Below.refl _ _) | (with_reducible assumption) | (with_reducible refine bel_al0 ?_ _) | (with_reducible refine bel_set ?_ (by first | (simp; done) | (simp; omega)) _) | (with_reducible refine bel_dr ?_) | (with_reducible refine bel_drn ?_ _) | (with_reducible refine bel_tr ?_ (by assumption))))⟩
set_option maxHeartbeats 4000000 in
theorem best_some (w : World) (A : Option Addr) (n c : Nat) (l : List Way) (hl : l.length = n) (hc : n ≤ c) (hf : Flat w A (wcells l)) (h1 : 1 ≤ n) (hn : n ≤ 100000) :
    Calls Tryz.prog 29 #[.slice A n c, .func (.func 30) #[] #[]] w fun e w' => e = .returned (bestT (bestW l)) ∧ Below w.heap.size w w' := by
  obtain ⟨a0, ha0⟩ : ∃ a0, l[0]? = some a0 := ⟨_, List.getElem?_eq_getElem (by omega)⟩
  have hcut := run_cutW A n c h1
  have HS := Lib.hid (fun j a (hj : l[j + 1]? = some a) => way_sub (j := j) (a := a) hf (by rw [hl]; exact hc) hj)
  obtain ⟨q0, q1⟩ := wcells_at ha0
  obtain ⟨b, off, rfl, c0⟩ := hf.at_ q0
  obtain ⟨_, _, e, c1⟩ := hf.at_ q1
  cases e
  have hbl := cell_lt c0
  have H0 := Lib.hid (show bestW (l.take 1) = some a0 from by
    have : l.take 1 = [a0] := by rw [List.take_add_one, ha0]; rfl
    rw [this]; rfl)
  have HST := Lib.hid (fun (j : Nat) (a b : Way) => @best_take l j a b)
  have HL := Lib.hid hl
  have HLE := Lib.hid (fun W (a b : Way) => less_calls W a b)
  obtain ⟨A1, hA1⟩ : ∃ A1, A1 = subW (some ⟨b, off, none⟩) c := ⟨_, rfl⟩
  rw [← hA1] at hcut HS
  obtain ⟨n1, hn1⟩ : ∃ n1, n1 = n - 1 := ⟨_, rfl⟩
  obtain ⟨k1, hk1⟩ : ∃ k1, k1 = c - 1 := ⟨_, rfl⟩
  rw [← hn1, ← hk1] at hcut
  clear hA1 hf q0 q1 ha0 hk1
  obtain ⟨RES, hRES⟩ : ∃ RES, RES = bestW l := ⟨_, rfl⟩
  rw [← hRES]
  have HR := Lib.hid hRES; clear hRES
  have g0 : ((n : Int) == 0) = false := by simp; omega
  simp only [Nat.zero_mul, Nat.zero_add, Nat.add_zero] at c0 c1
  unfold wayVal at HLE
  go_enter Tryz.func29, Tryz.ntmps29
  go_wp2
  go_loopw [19, 8] (fun v _ wr => ∃ (j : Nat) (cur : Way), j ≤ n1 ∧ v = .int .i64 j ∧ Hid (bestW (l.take (j + 1)) = some cur) ∧ Blk wr w.heap.size #[.string ⟨#[]⟩, .int .i64 0] 70 ∧ Blk wr (w.heap.size + 1) #[.string cur.1, .int .i64 (cur.2 : Nat)] 70 ∧ Below w.heap.size w wr) (fun v _ _ => n1 - (intOf v).toNat)
  case atStart =>
    refine ⟨0, a0, Nat.zero_le _, rfl, H0, (blk_new w _ _).al _, ?_, by (repeat (first | (with_reducible exact Below.refl _ _) | (with_reducible assumption) | (with_reducible refine bel_al0 ?_ _) | (with_reducible refine bel_set ?_ (by first | (simp; done) | (simp; omega)) _) | (with_reducible refine bel_dr ?_) | (with_reducible refine bel_drn ?_ _) | (with_reducible refine bel_tr ?_ (by assumption))))⟩
    have := blk_new (w.alloc (.cells #[.string ⟨#[]⟩, .int .i64 0] 70)) #[.string a0.1, .int .i64 (a0.2 : Nat)] 70
    simpa using this
  case round =>
    obtain ⟨j, cur, hj, rfl, hcur, hz, hb, hB⟩ := hrel
    by_cases hlt : j < n1
    · obtain ⟨a, ha⟩ : ∃ a, l[j + 1]? = some a := ⟨_, List.getElem?_eq_getElem (by rw [HL.out]; omega)⟩
      obtain ⟨b1, off1, rfl, d0, d1⟩ := HS.out j a ha
      replace d0 := cell_bel d0 hB
      replace d1 := cell_bel d1 hB
      have hnew := HST.out (j + 1) a cur hcur.out ha
      obtain ⟨x0, x1, xf⟩ := blk2 hb
      have hzl := hz.lt
      have hbl2 := hb.lt
      clear ha HS
      obtain ⟨ls, hls⟩ : ∃ ls, ls = wayLess a cur := ⟨_, rfl⟩
      have HLE2 := Lib.hid (fun W => HLE.out W a cur)
      rw [← hls] at hnew HLE2
      clear hls
      cases ls with
      | true =>
        rw [if_pos rfl] at hnew
        have HN := Lib.hid hnew; clear hnew
        go_wp2_with (go_at_call 30; refine (HLE2.out _).mono ?_; rintro e w1 ⟨rfl, hb1⟩; obtain ⟨y0, y1, _⟩ := blk2 ((blk_new wr #[.string a.1, .int .i64 (a.2 : Nat)] 70).below hb1); have hb2 := (hb.al (.cells #[.string a.1, .int .i64 (a.2 : Nat)] 70)).below hb1; have hz2 := (hz.al (.cells #[.string a.1, .int .i64 (a.2 : Nat)] 70)).below hb1; obtain ⟨v0, v1, vf⟩ := blk2 hb2; have hl2 := hb2.lt)
        go_roundw
        case rel =>
          refine ⟨j + 1, a, by omega, by go_num, HN, ?_, ?_, by (repeat (first | (with_reducible exact Below.refl _ _) | (with_reducible assumption) | (with_reducible refine bel_al0 ?_ _) | (with_reducible refine bel_set ?_ (by first | (simp; done) | (simp; omega)) _) | (with_reducible refine bel_dr ?_) | (with_reducible refine bel_drn ?_ _) | (with_reducible refine bel_tr ?_ (by assumption))))⟩
          · exact (hz2.other (by omega) _ _).other (by omega) _ _
          · exact (hb2.set 0 _).set 1 _
        case measure => simp [intOf]; omega
      | false =>
        rw [if_neg (by simp)] at hnew
        have HN := Lib.hid hnew; clear hnew
        go_wp2_with (go_at_call 30; refine (HLE2.out _).mono ?_; rintro e w1 ⟨rfl, hb1⟩; obtain ⟨y0, y1, _⟩ := blk2 ((blk_new wr #[.string a.1, .int .i64 (a.2 : Nat)] 70).below hb1); have hb2 := (hb.al (.cells #[.string a.1, .int .i64 (a.2 : Nat)] 70)).below hb1; have hz2 := (hz.al (.cells #[.string a.1, .int .i64 (a.2 : Nat)] 70)).below hb1; obtain ⟨v0, v1, vf⟩ := blk2 hb2; have hl2 := hb2.lt)
        go_roundw
        case rel => exact ⟨j + 1, cur, by omega, by go_num, HN, hz2, hb2, by (repeat (first | (with_reducible exact Below.refl _ _) | (with_reducible assumption) | (with_reducible refine bel_al0 ?_ _) | (with_reducible refine bel_set ?_ (by first | (simp; done) | (simp; omega)) _) | (with_reducible refine bel_dr ?_) | (with_reducible refine bel_drn ?_ _) | (with_reducible refine bel_tr ?_ (by assumption))))⟩
        case measure => simp [intOf]; omega
    · obtain rfl : j = n1 := by omega
      have hE : RES = some cur := by
        rw [HR.out, ← hcur.out, List.take_of_length_le (by rw [HL.out]; omega)]
      obtain ⟨x0, x1, xf⟩ := blk2 hb
      obtain ⟨z0, z1, zf⟩ := blk2 hz
      have hzl := hz.lt
      have hbl2 := hb.lt
      clear HS HST HLE hlt
      go_wp2
      have hs0 := hz.set 0 (.string cur.1)
      have hs1 := hs0.set 1 (.int .i64 (cur.2 : Nat))
      have r0 := hs0.cell (j := 0) (v := .string cur.1) rfl
      have r1 := hs1.cell (j := 0) (v := .string cur.1) rfl
      have r2 := hs1.cell (j := 1) (v := .int .i64 (cur.2 : Nat)) rfl
      refine bodyPost_ret (v := bestT (some cur)) ?_ rfl ?_
      · simp [results, Tryz.results29, go_sem, bestT, wayVal, r0, r1, r2]
      · exact ⟨by rw [hE], by (repeat (first | (with_reducible exact Below.refl _ _) | (with_reducible assumption) | (with_reducible refine bel_al0 ?_ _) | (with_reducible refine bel_set ?_ (by first | (simp; done) | (simp; omega)) _) | (with_reducible refine bel_dr ?_) | (with_reducible refine bel_drn ?_ _) | (with_reducible refine bel_tr ?_ (by assumption))))⟩
end Go.Proofs.YtehneliphhgegaaGreatDoor
