/- pack.Writer, leb.Put, and the document's Text: walked once. -/
import Derived.Test.YtehneliphhgegaaDoorDLeb
import Derived.Test.YtehneliphhgegaaDoorRows2
import Derived.Lib.AppendStr
set_option linter.unusedVariables false
set_option linter.unusedSimpArgs false
set_option maxRecDepth 100000
namespace Go.Proofs.YtehneliphhgegaaDoor
open Go.RowKit Go.Apo

theorem bytes_one (l : List UInt8) : ∀ v ∈ Lib.byteCells l, v.oneCell' = true := by
  intro v hv
  obtain ⟨x, _, rfl⟩ := List.mem_map.1 hv
  rfl
def textL (s : ByteArray) : List UInt8 := Lib.uvarint s.size ++ s.data.toList
theorem strCells_bytes (s : ByteArray) : Lib.strCells s = Lib.byteCells s.data.toList := rfl
set_option maxHeartbeats 4000000 in
theorem rputText_calls (B n : Nat) (s : ByteArray) (hs : s.size ≤ 1000000) (sv : Value) (xs : List Value) (w : World) (hown : w.ownsRow B 5 1 sv n xs) (hBw : B ≤ w.heap.size) (hlim : n ≤ 1000000) :
    Calls Tryd.prog 71 #[sv, .string s] w (BytesPost B n xs (textL s) w) := by
  have HN := Lib.hid (rnum_calls B n s.size (by omega) sv xs w hown hBw (by omega))
  have hu10 := Lib.uvarint_length64 (x := s.size) (by omega)
  unfold BytesPost at HN ⊢
  obtain ⟨i0, hi, hz0, hz1, hz2⟩ := info_parts infoU8
  unfold textL
  obtain ⟨U, hU⟩ : ∃ U, U = Lib.uvarint s.size := ⟨_, rfl⟩
  rw [← hU] at HN hu10 ⊢
  clear hU hown
  go_enter Tryd.func71, Tryd.ntmps71
  go_wp2_with (first
    | (go_at_call 70; refine HN.out.mono ?_; rintro e w1 ⟨v1, rfl, ho1, hb1⟩)
    | (at_builtin; refine Lib.wpList_append_own_string _ rfl _ _ 35 9 rfl B 5 i0 Tryd.underlying35 Tryd.underlying9 hi hz0 hz1 hz2 v1 (n + U.length) (xs ++ Lib.byteCells U) rfl ho1 s rfl (by unfold maxLen; omega) (by omega) (by have := hb1.size; omega) ?_; intro v2 w2 ho2 hg2 _))
  go_ret
  refine ⟨v2, rfl, ?_, hb1.grown hg2 (by have := hb1.size; omega) (fun k hk => (ho1.lt k hk).1)⟩
  rw [List.length_append, Lib.byteCells_append, ← List.append_assoc, ← strCells_bytes]
  have e : n + (U.length + s.data.toList.length) = n + U.length + s.size := by
    have : s.data.toList.length = s.size := rfl
    omega
  rw [e]
  exact ho2

set_option maxHeartbeats 8000000 in
theorem put_calls (Ab : Option Addr) (nb kb : Nat) (bs : List UInt8) (hb : bs.length = nb) (hlim : nb ≤ 10000000) (Al : Option Addr) (kl : Nat) (x : Nat) (hx : x < 18446744073709551616) (w : World) (hfb : Flat w Ab (Lib.byteCells bs)) (hfl : Flat w Al [.int .u64 x]) :
    Calls Tryd.prog 101 #[.slice Ab nb kb, .slice Al 1 kl] w fun e w' => ∃ v', e = .returned v' ∧ w'.ownsRow w.heap.size 5 1 v' (nb + (Lib.uvarint x).length) (Lib.byteCells (bs ++ Lib.uvarint x)) ∧ Below w.heap.size w w' := by
  obtain ⟨i0, hi, hz0, hz1, hz2⟩ := info_parts infoU8
  have hlen := Lib.uvarint_length64 hx
  obtain ⟨bl, ol, rfl, cl⟩ := hfl.at_ (j := 0) (u := .int .u64 x) rfl
  simp only [Nat.add_zero] at cl
  have HFB := Lib.hid hfb; clear hfb hfl
  have HB := Lib.hid hb; clear hb
  have hll := cell_lt cl
  go_enter Tryd.func101, Tryd.ntmps101
  go_wp2_with (at_builtin; refine wpl_append rfl _ _ 35 rfl w.heap.size 5 _ 1 1 Tryd.underlying35 infoU8 rfl (by decide) (.slice none 0 0) 0 [] rfl (World.ownsRow_nil _ _ _ _) Ab nb kb (Lib.byteCells bs) rfl (by rw [Lib.byteCells_length, HB.out, Nat.mul_one]) HFB.out (bytes_one bs) (by unfold maxLen; omega) (by omega) (by omega) ?_; intro v0 w0 ho0 hg0 hat0)
  have hb0 : Below w.heap.size w w0 := (Below.refl _ w).grown hg0 (Nat.le_refl _) (fun k hk => by cases hk)
  replace cl := cell_bel cl hb0
  rw [Nat.zero_add, List.nil_append] at ho0
  go_loopw [12, 5, 7] (fun v v5 _ wr => ∃ (j : Nat) (l : List UInt8), j ≤ 1 ∧ v = .int .i64 j ∧ l = (if j = 0 then [] else Lib.uvarint x) ∧ wr.ownsRow w.heap.size 5 1 v5 (nb + l.length) (Lib.byteCells (bs ++ l)) ∧ Below w.heap.size w wr ∧ wr.cell? ⟨bl, ol, none⟩ = some (.int .u64 x)) (fun v _ _ _ => 1 - (intOf v).toNat)
  case atStart => exact ⟨0, [], by omega, rfl, rfl, by simpa using ho0, hb0, cl⟩
  case round =>
    obtain ⟨j, l, hj, rfl, hl, ho, hB, cl⟩ := hrel
    by_cases hj0 : j = 0
    · subst hj0
      obtain rfl : l = [] := by simpa using hl
      clear hl
      rw [List.append_nil, List.length_nil, Nat.add_zero] at ho
      rw [show ((0 : Nat) : Int) = 0 from rfl]
      obtain ⟨wo, rfl⟩ : ∃ wo : World, wo = wr := ⟨_, rfl⟩
      go_wp2_with fail
      go_loopw [7, 5] (fun vx vb wr => ∃ (y : Nat) (pre : List UInt8), vx = .int .u64 y ∧ y ≤ x ∧ Lib.uvarint x = pre ++ Lib.uvarint y ∧ wr.ownsRow w.heap.size 5 1 vb (nb + pre.length) (Lib.byteCells (bs ++ pre)) ∧ Below w.heap.size w wr ∧ wr.cell? ⟨bl, ol, none⟩ = some (.int .u64 x)) (fun vx _ _ => (intOf vx).toNat)
      case atStart => exact ⟨x, [], rfl, Nat.le_refl _, rfl, by simpa using ho, hB, cl⟩
      case round =>
        obtain ⟨y, pre, rfl, hy, hsplit, hown1, hnx, cl1⟩ := hrel
        have hpl : pre.length + (Lib.uvarint y).length ≤ 10 := by
          have h2 := congrArg List.length hsplit
          rw [List.length_append] at h2
          omega
        have hyp := Lib.uvarint_pos y
        by_cases h128 : 128 ≤ y
        · have g1 : decide ((128 : Int) ≤ (y : Int)) = true := by simp; omega
          have hor : bits .or .u8 ((y : Int) % 128) 128 = ((y % 128 + 128 : Nat) : Int) := by
            rw [Lib.u8_or128_any _ (by omega) (by omega)]
            omega
          have hor2 : bits .or .u8 ((y : Int) % 128 % 256) 128 = ((y % 128 + 128 : Nat) : Int) := by
            rw [Lib.u8_or128_any _ (by omega) (by omega)]
            omega
          go_wp2_with (at_builtin; refine wpList_append_own _ rfl _ _ 35 rfl w.heap.size 5 i0 (.int .u8 0) 1 1 Tryd.underlying35 hi hz0 hz1 hz2 rfl (by decide) _ _ _ rfl (hown1.alloc _) ⟨wr.heap.size, 0, none⟩ 1 1 [Value.int .u8 ((y % 128 + 128 : Nat) : Int)] rfl rfl ?c1 ?c2 ?c3 ?c4 ?c5 ?_)
          case c1 =>
            intro j u hj
            match j, hj with
            | 0, hj => simp at hj; subst hj; simp [Addr.add]
          case c2 => intro u hu; simp at hu; subst hu; rfl
          case c3 => unfold maxLen; omega
          case c4 => omega
          case c5 => have := hnx.size; simp; omega
          intro v' w1 hown' hgrow _
          have hnx1 : Below w.heap.size w w1 := (hnx.alloc (by have := hnx.size; omega) _).grown hgrow (by have := hnx.size; simp; omega) (fun k hk => (hown1.lt k hk).1)
          have cl2 : w1.cell? ⟨bl, ol, none⟩ = some (.int .u64 x) := by
            have h1 := hnx1.cell (p := ⟨bl, ol, none⟩) hll
            have h2 := hnx.cell (p := ⟨bl, ol, none⟩) hll
            rw [h1, ← h2]; exact cl1
          go_wp2
          go_roundw
          case rel =>
            refine ⟨y / 128, pre ++ [(y % 128 + 128).toUInt8], by go_num, by omega, by rw [hsplit, Lib.uvarint_big h128]; simp, ?_, hnx1, cl2⟩
            rw [← List.append_assoc, Lib.byteCells_snoc (bs ++ pre) (by omega), List.length_append, List.length_singleton, ← Nat.add_assoc]
            exact hown'
          case measure => simp [intOf]; omega
        · have g1 : decide ((128 : Int) ≤ (y : Int)) = false := by simp; omega
          have hsm : Lib.uvarint y = [y.toUInt8] := Lib.uvarint_small (by omega)
          go_wp2_with (at_builtin; refine wpList_append_own _ rfl _ _ 35 rfl w.heap.size 5 i0 (.int .u8 0) 1 1 Tryd.underlying35 hi hz0 hz1 hz2 rfl (by decide) _ _ _ rfl (hown1.alloc _) ⟨wr.heap.size, 0, none⟩ 1 1 [Value.int .u8 (y : Int)] rfl rfl ?c1 ?c2 ?c3 ?c4 ?c5 ?_)
          case c1 =>
            intro j u hj
            match j, hj with
            | 0, hj => simp at hj; subst hj; simp [Addr.add]
          case c2 => intro u hu; simp at hu; subst hu; rfl
          case c3 => unfold maxLen; omega
          case c4 => omega
          case c5 => have := hnx.size; simp; omega
          intro v' w1 hown' hgrow _
          have hnx1 : Below w.heap.size w w1 := (hnx.alloc (by have := hnx.size; omega) _).grown hgrow (by have := hnx.size; simp; omega) (fun k hk => (hown1.lt k hk).1)
          have cl2 : w1.cell? ⟨bl, ol, none⟩ = some (.int .u64 x) := by
            have h1 := hnx1.cell (p := ⟨bl, ol, none⟩) hll
            have h2 := hnx.cell (p := ⟨bl, ol, none⟩) hll
            rw [h1, ← h2]; exact cl1
          go_wp2
          go_roundw
          case rel =>
            refine ⟨1, Lib.uvarint x, Nat.le_refl _, by go_num, by simp, ?_, hnx1, cl2⟩
            rw [hsplit, hsm, ← List.append_assoc, Lib.byteCells_snoc (bs ++ pre) (by omega), List.length_append, List.length_singleton, ← Nat.add_assoc]
            exact hown'
          case measure => simp [intOf]
    · obtain rfl : j = 1 := by omega
      obtain rfl : l = Lib.uvarint x := by simpa using hl
      go_wp2_with fail
      go_ret
      exact ⟨_, rfl, ho, hB⟩
end Go.Proofs.YtehneliphhgegaaDoor
