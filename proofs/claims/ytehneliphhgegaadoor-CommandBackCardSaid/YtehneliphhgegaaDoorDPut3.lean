/- The document's Put: walked; the same bytes as the program's. -/
import Derived.Test.YtehneliphhgegaaDoorDPut2
set_option linter.unusedVariables false
set_option linter.unusedSimpArgs false
set_option maxRecDepth 100000
namespace Go.Proofs.YtehneliphhgegaaDoor
open Go.RowKit Go.Apo

theorem own_ne_str {w : World} {B n q : Nat} {v : Value} {xs : List Value} {cs : Array Value} (h : w.ownsRow B 5 1 v n xs) (hq : Blk w q cs 9) : v.ownBlock ≠ some q := by
  intro e
  rcases h.2 with ⟨rfl, _⟩ | ⟨g, cap, cur, rfl, _, hg, _⟩
  · cases e
  · simp only [Value.ownBlock, Option.some.injEq] at e
    subst e
    unfold Blk at hq
    rw [hg] at hq
    simp at hq
set_option maxHeartbeats 8000000 in
theorem rput_calls (k : Int) (nm ot ky vl : ByteArray) (n : Int) (h1 : nm.size ≤ 1000) (h2 : ot.size ≤ 1000) (h3 : ky.size ≤ 1000) (h4 : vl.size ≤ 1000) (hn1 : -9223372036854775808 ≤ n) (hn2 : n ≤ 9223372036854775807) (w : World) :
    Calls Tryd.prog 24 #[.agg #[.int .i64 k, .string nm, .string ot, .string ky, .string vl, .int .i64 n]] w fun e w' => ∃ v, e = .returned v ∧ w'.ownsRow w.heap.size 5 1 v (putL k nm ot ky vl n).length (Lib.byteCells (putL k nm ot ky vl n)) ∧ Below w.heap.size w w' := by
  have HT := Lib.hid (fun (W : World) (v : Value) (bs : List UInt8) (ho : W.ownsRow (w.heap.size + 1) 5 1 v bs.length (Lib.byteCells bs)) (hB : w.heap.size + 1 ≤ W.heap.size) (hl : bs.length ≤ 1000000) (s : ByteArray) (hs : s.size ≤ 1000) => rputText2_calls (w.heap.size + 1) bs.length s (by omega) v (Lib.byteCells bs) W ho hB hl)
  have HN := Lib.hid (fun (W : World) (v : Value) (bs : List UInt8) (ho : W.ownsRow (w.heap.size + 1) 5 1 v bs.length (Lib.byteCells bs)) (hB : w.heap.size + 1 ≤ W.heap.size) (hl : bs.length ≤ 1000000) (x : Nat) (hx : x < 18446744073709551616) => rnum2_calls (w.heap.size + 1) bs.length x hx v (Lib.byteCells bs) W ho hB (by omega))
  have HZI := Lib.hid (fun W => rzig_calls n hn1 hn2 W)
  have hzl := Lib.zigzag_lt hn1 hn2
  have hkl := u64N_lt k
  have hkw := u64N_wrap k
  have hpl : ∀ j, (preL k ([nm, ot, ky, vl].take j)).length ≤ 5000 := fun j => by
    have hm : ∀ s ∈ [nm, ot, ky, vl].take j, s.size ≤ 1000 := fun s hs => by
      have := List.mem_of_mem_take hs
      simp only [List.mem_cons, List.not_mem_nil, or_false] at this
      rcases this with rfl | rfl | rfl | rfl <;> assumption
    have h5 := preL_len k _ hm
    have h6 : ([nm, ot, ky, vl].take j).length ≤ 4 := by rw [List.length_take]; exact Nat.min_le_right _ _
    have h7 : 1010 * ([nm, ot, ky, vl].take j).length ≤ 1010 * 4 := Nat.mul_le_mul_left _ h6
    omega
  have HPL := Lib.hid hpl; clear hpl
  have h0 : preL k [] = [] ++ Lib.uvarint (u64N k) := by unfold preL; simp
  have HP0 := Lib.hid h0; clear h0
  have HPS := Lib.hid (fun l s => preL_snoc k l s)
  unfold putL
  obtain ⟨P, hP⟩ : ∃ P : List ByteArray → List UInt8, P = preL k := ⟨_, rfl⟩
  rw [← hP] at HPL HP0 HPS ⊢
  obtain ⟨kN, hkN⟩ : ∃ kN, kN = u64N k := ⟨_, rfl⟩
  rw [← hkN] at hkl hkw HP0
  obtain ⟨zN, hzN⟩ : ∃ zN, zN = Lib.zigzag n := ⟨_, rfl⟩
  rw [← hzN] at hzl HZI ⊢
  clear hP hkN hzN
  unfold BytesPost1 at HT
  unfold BytesPost2 at HN
  have HC1 := Lib.hid (blk_new w #[.int .i64 k, .string nm, .string ot, .string ky, .string vl, .int .i64 n] 30)
  have hbw1 := bel_al0 (Below.refl w.heap.size w) (.cells #[.int .i64 k, .string nm, .string ot, .string ky, .string vl, .int .i64 n] 30)
  have hz1 : (w.alloc (.cells #[.int .i64 k, .string nm, .string ot, .string ky, .string vl, .int .i64 n] 30)).heap.size = w.heap.size + 1 := by simp
  have HN0 := Lib.hid (HN.out (w.alloc (.cells #[.int .i64 k, .string nm, .string ot, .string ky, .string vl, .int .i64 n] 30)) (.slice none 0 0) [] (World.ownsRow_nil _ _ _ _) (by omega) (by simp) kN hkl)
  go_enter Tryd.func24, Tryd.ntmps24
  go_upto_region 2 with (go_at_call 70; refine HN0.out.mono ?_; rintro e w3 ⟨v3, rfl, ho3, hb3, ha3⟩; clear ha3)
  have HO3 : Hid (w3.ownsRow (w.heap.size + 1) 5 1 v3 (P []).length (Lib.byteCells (P []))) := by
    show World.ownsRow _ _ _ _ _ _ _
    rw [HP0.out, List.nil_append]
    have := ho3
    simpa [Lib.byteCells] using this
  clear ho3 HN0
  have hC3 : Hid (Blk w3 w.heap.size #[.int .i64 k, .string nm, .string ot, .string ky, .string vl, .int .i64 n] 30) := (hb3.block w.heap.size (by omega)).trans HC1.out
  have hs3 := hb3.size
  obtain ⟨x0, x1, x2, x3, x4, x5, xf⟩ := blk_six hC3.out
  have hl0 := cell_lt x0
  go_wp2_with fail
  have hq3 : Hid (Blk (w3.alloc (.cells #[.string nm, .string ot, .string ky, .string vl] 9)) w3.heap.size #[.string nm, .string ot, .string ky, .string vl] 9) := blk_new _ _ _
  obtain ⟨q, hq⟩ : ∃ q, q = w3.heap.size := ⟨_, rfl⟩
  have hqb : w.heap.size + 1 ≤ q := by omega
  have HQ := Lib.hid hq
  have hB4 : Below (w.heap.size + 1) w3 (w3.alloc (.cells #[.string nm, .string ot, .string ky, .string vl] 9)) := (bel_al0 (Below.refl _ w3) _).mono (by omega)
  have HO4 := Lib.hid (own_below HO3.out (bel_al0 (Below.refl _ w3) (.cells #[.string nm, .string ot, .string ky, .string vl] 9)))
  rw [← hq] at hq3 ⊢
  clear hq hl0 x0 x1 x2 x3 x4 x5 xf HO3
  go_loopw [20, 5, 3] (fun v v5 v3 wr => ∃ j : Nat, j ≤ 4 ∧ v = .int .i64 j ∧ Hid (wr.ownsRow (w.heap.size + 1) 5 1 v3 (P ([nm, ot, ky, vl].take j)).length (Lib.byteCells (P ([nm, ot, ky, vl].take j)))) ∧ Below (w.heap.size + 1) w3 wr ∧ Hid (Blk wr q #[.string nm, .string ot, .string ky, .string vl] 9)) (fun v _ _ _ => 4 - (intOf v).toNat)
  case atStart => exact ⟨0, by omega, rfl, HO4, hB4, hq3⟩
  case round =>
    obtain ⟨j, hj, rfl, hO, hB, hQ⟩ := hrel
    have hsr := hB.size
    have y0 := hQ.out.cell (j := 0) (v := .string nm) rfl
    have y1 := hQ.out.cell (j := 1) (v := .string ot) rfl
    have y2 := hQ.out.cell (j := 2) (v := .string ky) rfl
    have y3 := hQ.out.cell (j := 3) (v := .string vl) rfl
    have hly := cell_lt y0
    obtain ⟨wo, rfl⟩ : ∃ wo : World, wo = wr := ⟨_, rfl⟩
    rcases (show j = 0 ∨ j = 1 ∨ j = 2 ∨ j = 3 ∨ j = 4 by omega) with rfl | rfl | rfl | rfl | rfl
    · have hs := HPS.out [] nm
      have hle := HPL.out 0
      have HT1 := Lib.hid (HT.out wo _ _ hO.out (by omega) (by omega) nm h1)
      have hne := own_ne_str hO.out hQ.out
      rw [show ((0 : Nat) : Int) = 0 from rfl]
      have HS := Lib.hid hs; clear hs
      have HNE := Lib.hid hne; clear hne
      go_wp2_with (go_at_call 71; refine HT1.out.mono ?_; rintro e w5 ⟨v5, rfl, ho5, hb5, hs5⟩)
      have hq5 : Blk w5 q #[.string nm, .string ot, .string ky, .string vl] 9 := (hs5 q hly HNE.out).trans hQ.out
      have ho6 : w5.ownsRow (w.heap.size + 1) 5 1 v5 (P [nm]).length (Lib.byteCells (P [nm])) := by
        have e : P [nm] = P [] ++ textL nm := HS.out
        rw [e, List.length_append, Lib.byteCells_append]; exact ho5
      go_roundw
      case rel => exact ⟨1, by omega, by go_num, ho6, hB.trans hb5, hq5⟩
      case measure => simp [intOf]
    · have hs := HPS.out [nm] ot
      have hle := HPL.out 1
      have HT1 := Lib.hid (HT.out wo _ _ hO.out (by omega) (by omega) ot h2)
      have hne := own_ne_str hO.out hQ.out
      rw [show ((1 : Nat) : Int) = 1 from rfl]
      have HS := Lib.hid hs; clear hs
      have HNE := Lib.hid hne; clear hne
      go_wp2_with (go_at_call 71; refine HT1.out.mono ?_; rintro e w5 ⟨v5, rfl, ho5, hb5, hs5⟩)
      have hq5 : Blk w5 q #[.string nm, .string ot, .string ky, .string vl] 9 := (hs5 q hly HNE.out).trans hQ.out
      have ho6 : w5.ownsRow (w.heap.size + 1) 5 1 v5 (P [nm, ot]).length (Lib.byteCells (P [nm, ot])) := by
        have e : P [nm, ot] = P [nm] ++ textL ot := HS.out
        rw [e, List.length_append, Lib.byteCells_append]; exact ho5
      go_roundw
      case rel => exact ⟨2, by omega, by go_num, ho6, hB.trans hb5, hq5⟩
      case measure => simp [intOf]
    · have hs := HPS.out [nm, ot] ky
      have hle := HPL.out 2
      have HT1 := Lib.hid (HT.out wo _ _ hO.out (by omega) (by omega) ky h3)
      have hne := own_ne_str hO.out hQ.out
      rw [show ((2 : Nat) : Int) = 2 from rfl]
      have HS := Lib.hid hs; clear hs
      have HNE := Lib.hid hne; clear hne
      go_wp2_with (go_at_call 71; refine HT1.out.mono ?_; rintro e w5 ⟨v5, rfl, ho5, hb5, hs5⟩)
      have hq5 : Blk w5 q #[.string nm, .string ot, .string ky, .string vl] 9 := (hs5 q hly HNE.out).trans hQ.out
      have ho6 : w5.ownsRow (w.heap.size + 1) 5 1 v5 (P [nm, ot, ky]).length (Lib.byteCells (P [nm, ot, ky])) := by
        have e : P [nm, ot, ky] = P [nm, ot] ++ textL ky := HS.out
        rw [e, List.length_append, Lib.byteCells_append]; exact ho5
      go_roundw
      case rel => exact ⟨3, by omega, by go_num, ho6, hB.trans hb5, hq5⟩
      case measure => simp [intOf]
    · have hs := HPS.out [nm, ot, ky] vl
      have hle := HPL.out 3
      have HT1 := Lib.hid (HT.out wo _ _ hO.out (by omega) (by omega) vl h4)
      have hne := own_ne_str hO.out hQ.out
      rw [show ((3 : Nat) : Int) = 3 from rfl]
      have HS := Lib.hid hs; clear hs
      have HNE := Lib.hid hne; clear hne
      go_wp2_with (go_at_call 71; refine HT1.out.mono ?_; rintro e w5 ⟨v5, rfl, ho5, hb5, hs5⟩)
      have hq5 : Blk w5 q #[.string nm, .string ot, .string ky, .string vl] 9 := (hs5 q hly HNE.out).trans hQ.out
      have ho6 : w5.ownsRow (w.heap.size + 1) 5 1 v5 (P [nm, ot, ky, vl]).length (Lib.byteCells (P [nm, ot, ky, vl])) := by
        have e : P [nm, ot, ky, vl] = P [nm, ot, ky] ++ textL vl := HS.out
        rw [e, List.length_append, Lib.byteCells_append]; exact ho5
      go_roundw
      case rel => exact ⟨4, by omega, by go_num, ho6, hB.trans hb5, hq5⟩
      case measure => simp [intOf]
    · have hle := HPL.out 4
      have HN1 := Lib.hid (HN.out wo _ _ hO.out (by omega) (by omega) zN hzl)
      rw [show ((4 : Nat) : Int) = 4 from rfl]
      obtain ⟨x0, x1, x2, x3, x4, x5, xf⟩ := blk_six ((hB.block w.heap.size (by omega)).trans hC3.out)
      have hl0 := cell_lt x0
      clear y0 y1 y2 y3
      go_wp2_with (first
        | (go_at_call 72; refine (HZI.out _).mono ?_; rintro e w6 ⟨rfl, rfl⟩)
        | (go_at_call 70; refine HN1.out.mono ?_; rintro e w7 ⟨v7, rfl, ho7, hb7, _⟩))
      go_ret
      have hbel : Below w.heap.size w w7 := ((hbw1.trans (hb3.mono (by omega))).trans (hB.mono (by omega))).trans (hb7.mono (by omega))
      refine ⟨v7, rfl, ?_, hbel⟩
      rw [List.length_append, Lib.byteCells_append]
      exact own_mono ho7 (by omega)
end Go.Proofs.YtehneliphhgegaaDoor
