/- The document's Num and Text once more, with what stays beside the row that grows; the document's Put. -/
import Derived.Test.YtehneliphhgegaaDoorDPut
set_option linter.unusedVariables false
set_option linter.unusedSimpArgs false
set_option maxRecDepth 100000
namespace Go.Proofs.YtehneliphhgegaaDoor
open Go.RowKit Go.Apo

/-- what stood beside the row stays; the row stands where it stood, or in a new block -/
def Aside2 (w : World) (sv v : Value) (w' : World) : Prop := (∀ i, i < w.heap.size → sv.ownBlock ≠ some i → w'.heap[i]? = w.heap[i]?) ∧ (v.ownBlock = sv.ownBlock ∨ ∃ g, v.ownBlock = some g ∧ w.heap.size ≤ g)
theorem aside_step {w wr w1 : World} {sv v v' : Value} {o : Obj} (hs : w.heap.size ≤ wr.heap.size) (h : Aside2 w sv v wr) (hg : (wr.alloc o).grownBy w1 v.ownBlock) (hat : v'.ownBlock = v.ownBlock ∨ v'.ownBlock = some (wr.heap.size + 1)) : Aside2 w sv v' w1 := by
  refine ⟨fun i hi hne => ?_, ?_⟩
  · have h1 : some i ≠ v.ownBlock := fun e => by
      rcases h.2 with h2 | ⟨g, h2, h3⟩
      · exact hne (h2 ▸ e.symm)
      · rw [h2] at e; cases e; omega
    have h2 := hg.block i (by rw [World.size_alloc]; omega) h1
    rw [h2, Below.heap_alloc wr o i (by omega)]
    exact h.1 i hi hne
  · rcases hat with e | e
    · rw [e]; exact h.2
    · exact Or.inr ⟨_, e, by omega⟩
def BytesPost2 (B n : Nat) (xs : List Value) (l : List UInt8) (sv : Value) (w : World) (e : Ending) (w' : World) : Prop :=
  ∃ v', e = .returned v' ∧ w'.ownsRow B 5 1 v' (n + l.length) (xs ++ Lib.byteCells l) ∧ Below B w w' ∧ Aside2 w sv v' w'
set_option maxHeartbeats 8000000 in
theorem rnum2_calls (B n x : Nat) (hx : x < 18446744073709551616) (sv : Value) (xs : List Value) (w : World) (hown : w.ownsRow B 5 1 sv n xs) (hBw : B ≤ w.heap.size) (hlim : n + 10 ≤ 140737488355328) :
    Calls Tryd.prog 70 #[sv, .int .u64 x] w (BytesPost2 B n xs (Lib.uvarint x) sv w) := by
  unfold BytesPost2
  obtain ⟨i0, hi, hz0, hz1, hz2⟩ := info_parts infoU8
  have hlen := Lib.uvarint_length64 hx
  go_enter Tryd.func70, Tryd.ntmps70
  go_wp2
  go_loopw [0, 1] (fun vb vx wr => ∃ (y : Nat) (pre : List UInt8), vx = .int .u64 y ∧ y ≤ x ∧ Lib.uvarint x = pre ++ Lib.uvarint y ∧ wr.ownsRow B 5 1 vb (n + pre.length) (xs ++ Lib.byteCells pre) ∧ Below B w wr ∧ Hid (Aside2 w sv vb wr))
    (fun _ vx _ => (intOf vx).toNat)
  case atStart => exact ⟨x, [], rfl, Nat.le_refl _, rfl, by simpa [Lib.byteCells] using hown, Below.refl _ _, ⟨fun i _ _ => rfl, Or.inl rfl⟩⟩
  case round =>
    obtain ⟨y, pre, rfl, hy, hsplit, hown1, hnx, has⟩ := hrel
    have hpl : pre.length + (Lib.uvarint y).length ≤ 10 := by
      have h2 := congrArg List.length hsplit
      rw [List.length_append] at h2
      omega
    have hyp := Lib.uvarint_pos y
    by_cases h128 : 128 ≤ y
    · have g1 : decide ((127 : Int) < (y : Int)) = true := by simp; omega
      go_wp2_with (at_builtin; refine wpl_append rfl _ _ 35 rfl B 5 _ 1 1 Tryd.underlying35 infoU8 rfl (by decide) _ _ _ rfl (hown1.alloc _) (some ⟨wr.heap.size, 0, none⟩) 1 1 [Value.int .u8 ((y % 128 + 128 : Nat) : Int)] rfl rfl ?c1 ?c2 ?c3 ?c4 ?c5 ?_)
      case c1 =>
        intro _
        refine ⟨wr.heap.size, 0, rfl, fun j u hj => ?_⟩
        match j, hj with
        | 0, hj => simp at hj; subst hj; simp
      case c2 => intro u hu; simp at hu; subst hu; rfl
      case c3 => unfold maxLen; omega
      case c4 => omega
      case c5 => have := hnx.size; simp; omega
      intro v' w1 hown' hgrow hat
      have has1 := Lib.hid (aside_step hnx.size has.out hgrow hat)
      have hnx1 : Below B w w1 := (hnx.alloc (by have := hnx.size; omega) _).grown hgrow (by have := hnx.size; simp; omega) (fun k hk => (hown1.lt k hk).1)
      go_wp2
      go_roundw
      case rel =>
        refine ⟨y / 128, pre ++ [(y % 128 + 128).toUInt8], by go_num, by omega, by rw [hsplit, Lib.uvarint_big h128]; simp, ?_, hnx1, has1⟩
        have ec : ((y % 128 + 128 : Nat) : Int) = (y : Int) % 128 + 128 := by omega
        rw [Lib.byteCells_snoc pre (by omega), List.length_append, List.length_singleton, ← Nat.add_assoc, ec]
        exact hown'
      case measure => simp [intOf]; omega
    · have g1 : decide ((127 : Int) < (y : Int)) = false := by simp; omega
      have hsm : Lib.uvarint y = [y.toUInt8] := Lib.uvarint_small (by omega)
      go_wp2_with (at_builtin; refine wpl_append rfl _ _ 35 rfl B 5 _ 1 1 Tryd.underlying35 infoU8 rfl (by decide) _ _ _ rfl (hown1.alloc _) (some ⟨wr.heap.size, 0, none⟩) 1 1 [Value.int .u8 (y : Int)] rfl rfl ?c1 ?c2 ?c3 ?c4 ?c5 ?_)
      case c1 =>
        intro _
        refine ⟨wr.heap.size, 0, rfl, fun j u hj => ?_⟩
        match j, hj with
        | 0, hj => simp at hj; subst hj; simp
      case c2 => intro u hu; simp at hu; subst hu; rfl
      case c3 => unfold maxLen; omega
      case c4 => omega
      case c5 => have := hnx.size; simp; omega
      intro v' w1 hown' hgrow hat
      have has1 := Lib.hid (aside_step hnx.size has.out hgrow hat)
      have hnx1 : Below B w w1 := (hnx.alloc (by have := hnx.size; omega) _).grown hgrow (by have := hnx.size; simp; omega) (fun k hk => (hown1.lt k hk).1)
      go_wp2
      go_ret
      refine ⟨v', rfl, ?_, hnx1, has1.out⟩
      rw [hsplit, hsm, Lib.byteCells_snoc pre (by omega), List.length_append, List.length_singleton, ← Nat.add_assoc]
      exact hown'
def BytesPost1 (B n : Nat) (xs : List Value) (l : List UInt8) (sv : Value) (w : World) (e : Ending) (w' : World) : Prop :=
  ∃ v', e = .returned v' ∧ w'.ownsRow B 5 1 v' (n + l.length) (xs ++ Lib.byteCells l) ∧ Below B w w' ∧ ∀ i, i < w.heap.size → sv.ownBlock ≠ some i → w'.heap[i]? = w.heap[i]?
set_option maxHeartbeats 4000000 in
theorem rputText2_calls (B n : Nat) (s : ByteArray) (hs : s.size ≤ 1000000) (sv : Value) (xs : List Value) (w : World) (hown : w.ownsRow B 5 1 sv n xs) (hBw : B ≤ w.heap.size) (hlim : n ≤ 1000000) :
    Calls Tryd.prog 71 #[sv, .string s] w (BytesPost1 B n xs (textL s) sv w) := by
  have HN := Lib.hid (rnum2_calls B n s.size (by omega) sv xs w hown hBw (by omega))
  have hu10 := Lib.uvarint_length64 (x := s.size) (by omega)
  unfold BytesPost2 at HN
  unfold BytesPost1
  obtain ⟨i0, hi, hz0, hz1, hz2⟩ := info_parts infoU8
  unfold textL
  obtain ⟨U, hU⟩ : ∃ U, U = Lib.uvarint s.size := ⟨_, rfl⟩
  rw [← hU] at HN hu10 ⊢
  clear hU hown
  go_enter Tryd.func71, Tryd.ntmps71
  go_wp2_with (first
    | (go_at_call 70; refine HN.out.mono ?_; rintro e w1 ⟨v1, rfl, ho1, hb1, ha1⟩; have HA1 := Lib.hid ha1; clear ha1)
    | (at_builtin; refine Lib.wpList_append_own_string _ rfl _ _ 35 9 rfl B 5 i0 Tryd.underlying35 Tryd.underlying9 hi hz0 hz1 hz2 v1 (n + U.length) (xs ++ Lib.byteCells U) rfl ho1 s rfl (by unfold maxLen; omega) (by omega) (by have := hb1.size; omega) ?_; intro v2 w2 ho2 hg2 _))
  go_ret
  have hstay : ∀ i, i < w.heap.size → sv.ownBlock ≠ some i → w2.heap[i]? = w.heap[i]? := fun i hi' hne => by
    have h1 : some i ≠ v1.ownBlock := fun e => by
      rcases HA1.out.2 with h2 | ⟨g, h2, h3⟩
      · exact hne (h2 ▸ e.symm)
      · rw [h2] at e; cases e; omega
    rw [hg2.block i (by have := hb1.size; omega) h1]
    exact HA1.out.1 i hi' hne
  refine ⟨v2, rfl, ?_, hb1.grown hg2 (by have := hb1.size; omega) (fun k hk => (ho1.lt k hk).1), hstay⟩
  rw [List.length_append, Lib.byteCells_append, ← List.append_assoc, ← strCells_bytes]
  have e : n + (U.length + s.data.toList.length) = n + U.length + s.size := by
    have : s.data.toList.length = s.size := rfl
    omega
  rw [e]
  exact ho2

end Go.Proofs.YtehneliphhgegaaDoor
