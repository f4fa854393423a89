/- command.Put and the document's Put: walked once; they have the same bytes. -/
import Derived.Test.YtehneliphhgegaaDoorDWriter
import Derived.Test.YtehneliphhgegaaDoorDZig
import Derived.Test.YtehneliphhgegaaDoorDCheckV
set_option linter.unusedVariables false
set_option linter.unusedSimpArgs false
set_option maxRecDepth 100000
namespace Go.Proofs.YtehneliphhgegaaDoor
open Go.RowKit Go.Apo

def u64N (k : Int) : Nat := (k % 18446744073709551616).toNat
theorem u64N_wrap (k : Int) : IntKind.u64.wrap k = ((u64N k : Nat) : Int) := by rw [IntKind.wrap_u64]; unfold u64N; omega
theorem u64N_lt (k : Int) : u64N k < 18446744073709551616 := by unfold u64N; omega
/-- the bytes ahead of the j-th text -/
def preL (k : Int) (l : List ByteArray) : List UInt8 := Lib.uvarint (u64N k) ++ l.flatMap textL
def putL (k : Int) (nm ot ky vl : ByteArray) (n : Int) : List UInt8 := preL k [nm, ot, ky, vl] ++ Lib.uvarint (Lib.zigzag n)
theorem preL_snoc (k : Int) (l : List ByteArray) (s : ByteArray) : preL k (l ++ [s]) = preL k l ++ textL s := by
  unfold preL; rw [List.flatMap_append, ← List.append_assoc]; simp
theorem textL_len {s : ByteArray} (h : s.size ≤ 1000) : (textL s).length ≤ 1010 := by
  unfold textL
  rw [List.length_append]
  have := Lib.uvarint_length64 (x := s.size) (by omega)
  have h2 : s.data.toList.length = s.size := rfl
  omega
theorem preL_len (k : Int) : ∀ (l : List ByteArray), (∀ s ∈ l, s.size ≤ 1000) → (preL k l).length ≤ 10 + 1010 * l.length := by
  intro l
  unfold preL
  have h0 := Lib.uvarint_length64 (u64N_lt k)
  rw [List.length_append]
  intro h
  have : (l.flatMap textL).length ≤ 1010 * l.length := by
    induction l with
    | nil => simp
    | cons a l ih =>
      rw [List.flatMap_cons, List.length_append, List.length_cons]
      have h1 := textL_len (h a List.mem_cons_self)
      have h2 := ih (fun s hs => h s (List.mem_cons_of_mem _ hs))
      omega
  omega
theorem flat_u64 (w : World) (x : Nat) : Flat (w.alloc (.cells #[.int .u64 (x : Nat)] 23)) (some ⟨w.heap.size, 0, none⟩) [.int .u64 (x : Nat)] := fun _ => ⟨w.heap.size, 0, rfl, fun q u hq => by
  refine (blk_new w #[.int .u64 (x : Nat)] 23).cell ?_
  rw [Nat.zero_add]
  simpa using hq⟩
theorem WAt.below {w w' : World} {Bw : Nat} {bs : List UInt8} (h : WAt w Bw bs) (hb : Below w.heap.size w w') : WAt w' Bw bs := by
  obtain ⟨v, h1, h2⟩ := h
  exact ⟨v, h1.below hb, own_below h2 hb⟩
theorem WAt.lt {w : World} {Bw : Nat} {bs : List UInt8} (h : WAt w Bw bs) : Bw < w.heap.size := by
  obtain ⟨v, h1, _⟩ := h
  exact h1.lt
theorem idx4 (a b c d : ByteArray) (W : World) : (Instr.index 100 (.agg #[.string a, .string b, .string c, .string d]) (.int .i64 0)).run Tryd.prog W = .ok (.string a) W ∧ (Instr.index 100 (.agg #[.string a, .string b, .string c, .string d]) (.int .i64 1)).run Tryd.prog W = .ok (.string b) W ∧ (Instr.index 100 (.agg #[.string a, .string b, .string c, .string d]) (.int .i64 2)).run Tryd.prog W = .ok (.string c) W ∧ (Instr.index 100 (.agg #[.string a, .string b, .string c, .string d]) (.int .i64 3)).run Tryd.prog W = .ok (.string d) W :=
  ⟨by kernel_rfl, by kernel_rfl, by kernel_rfl, by kernel_rfl⟩
set_option maxHeartbeats 8000000 in
theorem cput_calls (k : Int) (nm ot ky vl : ByteArray) (n : Int) (h1 : nm.size ≤ 1000) (h2 : ot.size ≤ 1000) (h3 : ky.size ≤ 1000) (h4 : vl.size ≤ 1000) (hn1 : -9223372036854775808 ≤ n) (hn2 : n ≤ 9223372036854775807) (w : World) :
    Calls Tryd.prog 23 #[.agg #[.int .i64 k, .string nm, .string ot, .string ky, .string vl, .int .i64 n]] w fun e w' => ∃ v, e = .returned v ∧ w'.ownsRow w.heap.size 5 1 v (putL k nm ot ky vl n).length (Lib.byteCells (putL k nm ot ky vl n)) ∧ Below w.heap.size w w' := by
  have HN := Lib.hid (fun (W : World) (bs : List UInt8) (hW : WAt W (w.heap.size + 1) bs) (hl : bs.length ≤ 1000000) (x : Nat) (hx : x < 18446744073709551616) => wnum_calls (W.alloc (.cells #[.int .u64 (x : Nat)] 23)) (w.heap.size + 1) bs (hW.below (bel_al0 (Below.refl _ _) _)) hl (some ⟨W.heap.size, 0, none⟩) 1 x hx (flat_u64 W x))
  have HT := Lib.hid (fun (W : World) (bs : List UInt8) (hW : WAt W (w.heap.size + 1) bs) (hl : bs.length ≤ 900000) (s : ByteArray) (hs : s.size ≤ 1000) => wtext_calls W (w.heap.size + 1) bs hW hl s (by omega))
  have HBY := Lib.hid (fun (W : World) (bs : List UInt8) (hW : WAt W (w.heap.size + 1) bs) (hl : bs.length ≤ 1000000) => wbytes_calls W (w.heap.size + 1) bs hW hl)
  have HZI := Lib.hid (fun W => zig_calls n hn1 hn2 W)
  have hzl := Lib.zigzag_lt hn1 hn2
  have hkl := u64N_lt k
  have hkw := u64N_wrap k
  have hpl : ∀ j, (preL k ([nm, ot, ky, vl].take j)).length ≤ 5000 := fun j => by
    have hm : ∀ s ∈ [nm, ot, ky, vl].take j, s.size ≤ 1000 := fun s hs => by
      have := List.mem_of_mem_take hs
      simp only [List.mem_cons, List.not_mem_nil, or_false] at this
      rcases this with rfl | rfl | rfl | rfl <;> assumption
    have h5 := preL_len k _ hm
    have h6 : ([nm, ot, ky, vl].take j).length ≤ 4 := by rw [List.length_take]; exact Nat.min_le_right _ _
    have h7 : 1010 * ([nm, ot, ky, vl].take j).length ≤ 1010 * 4 := Nat.mul_le_mul_left _ h6
    omega
  have HPL := Lib.hid hpl; clear hpl
  have h0 : preL k [] = [] ++ Lib.uvarint (u64N k) := by unfold preL; simp
  have HP0 := Lib.hid h0; clear h0
  have HPS := Lib.hid (fun l s => preL_snoc k l s)
  unfold putL
  obtain ⟨P, hP⟩ : ∃ P : List ByteArray → List UInt8, P = preL k := ⟨_, rfl⟩
  rw [← hP] at HPL HP0 HPS ⊢
  obtain ⟨kN, hkN⟩ : ∃ kN, kN = u64N k := ⟨_, rfl⟩
  rw [← hkN] at hkl hkw HP0
  obtain ⟨zN, hzN⟩ : ∃ zN, zN = Lib.zigzag n := ⟨_, rfl⟩
  rw [← hzN] at hzl HZI ⊢
  clear hP hkN hzN
  unfold WPost at HN HT
  unfold CloneBPost at HBY
  have hW2 : Hid (WAt ((w.alloc (.cells #[.int .i64 k, .string nm, .string ot, .string ky, .string vl, .int .i64 n] 30)).alloc (.cells #[.slice none 0 0] 98)) (w.heap.size + 1) []) := by
    refine ⟨.slice none 0 0, ?_, World.ownsRow_nil _ _ _ _⟩
    have := blk_new (w.alloc (.cells #[.int .i64 k, .string nm, .string ot, .string ky, .string vl, .int .i64 n] 30)) #[.slice none 0 0] 98
    rw [World.size_alloc] at this
    exact this
  have hC2 : Hid (Blk ((w.alloc (.cells #[.int .i64 k, .string nm, .string ot, .string ky, .string vl, .int .i64 n] 30)).alloc (.cells #[.slice none 0 0] 98)) w.heap.size #[.int .i64 k, .string nm, .string ot, .string ky, .string vl, .int .i64 n] 30) := by
    have := (blk_new w #[.int .i64 k, .string nm, .string ot, .string ky, .string vl, .int .i64 n] 30).al (.cells #[.slice none 0 0] 98)
    exact this
  have hb02 : Below w.heap.size w ((w.alloc (.cells #[.int .i64 k, .string nm, .string ot, .string ky, .string vl, .int .i64 n] 30)).alloc (.cells #[.slice none 0 0] 98)) := by
    exact bel_al0 (bel_al0 (Below.refl _ _) _) _
  have hz2 : ((w.alloc (.cells #[.int .i64 k, .string nm, .string ot, .string ky, .string vl, .int .i64 n] 30)).alloc (.cells #[.slice none 0 0] 98)).heap.size = w.heap.size + 2 := by simp
  have HB02 := Lib.hid hb02; clear hb02
  obtain ⟨W2, hw2⟩ : ∃ W2, W2 = (w.alloc (.cells #[.int .i64 k, .string nm, .string ot, .string ky, .string vl, .int .i64 n] 30)).alloc (.cells #[.slice none 0 0] 98) := ⟨_, rfl⟩
  have HW2E := Lib.hid hw2
  rw [← hw2] at hW2 hC2 hz2 HB02
  have hNUM := Lib.hid (HN.out W2 [] hW2.out (by simp) kN hkl)
  rw [hw2] at hNUM
  simp only [World.size_alloc] at hNUM
  clear hw2
  go_enter Tryd.func23, Tryd.ntmps23
  go_upto_region 3 with (go_at_call 66; refine hNUM.out.mono ?_; rintro e w1 ⟨rfl, hw1, hb1⟩)
  rw [← HW2E.out] at hb1
  rw [← HP0.out] at hw1
  have hB1 : Below (w.heap.size + 1) W2 w1 := ((bel_al0 (Below.refl _ W2) _).mono (by omega)).trans hb1
  obtain ⟨x0, x1, x2, x3, x4, x5, xf⟩ := blk_six ((hB1.block w.heap.size (by omega)).trans hC2.out)
  have hl0 := cell_lt x0
  clear hNUM hb1
  go_wp2_with fail
  go_loopw [23, 5] (fun v v5 wr => ∃ j : Nat, j ≤ 4 ∧ v = .int .i64 j ∧ Hid (WAt wr (w.heap.size + 1) (P ([nm, ot, ky, vl].take j))) ∧ Below (w.heap.size + 1) W2 wr) (fun v _ _ => 4 - (intOf v).toNat)
  case atStart => exact ⟨0, by omega, rfl, hw1, hB1⟩
  case round =>
    obtain ⟨j, hj, rfl, hW, hB⟩ := hrel
    clear x0 x1 x2 x3 x4 x5 xf hl0
    rcases (show j = 0 ∨ j = 1 ∨ j = 2 ∨ j = 3 ∨ j = 4 by omega) with rfl | rfl | rfl | rfl | rfl
    · have hs := HPS.out [] nm
      have hle := HPL.out 0
      have HT1 := Lib.hid (HT.out wr _ hW.out (by omega) nm h1)
      rw [show ((0 : Nat) : Int) = 0 from rfl]
      have hix := fun W => (idx4 nm ot ky vl W).1
      have HS := Lib.hid hs; clear hs
      go_wp2_with (go_at_call 67; refine HT1.out.mono ?_; rintro e w5 ⟨rfl, hw5, hb5⟩)
      have hfin : WAt w5 (w.heap.size + 1) (P [nm]) := by
        have e : P [nm] = P [] ++ textL nm := HS.out
        rw [e]; exact hw5
      go_roundw
      case rel => exact ⟨1, by omega, by go_num, hfin, hB.trans hb5⟩
      case measure => simp [intOf]
    · have hs := HPS.out [nm] ot
      have hle := HPL.out 1
      have HT1 := Lib.hid (HT.out wr _ hW.out (by omega) ot h2)
      rw [show ((1 : Nat) : Int) = 1 from rfl]
      have hix := fun W => (idx4 nm ot ky vl W).2.1
      have HS := Lib.hid hs; clear hs
      go_wp2_with (go_at_call 67; refine HT1.out.mono ?_; rintro e w5 ⟨rfl, hw5, hb5⟩)
      have hfin : WAt w5 (w.heap.size + 1) (P [nm, ot]) := by
        have e : P [nm, ot] = P [nm] ++ textL ot := HS.out
        rw [e]; exact hw5
      go_roundw
      case rel => exact ⟨2, by omega, by go_num, hfin, hB.trans hb5⟩
      case measure => simp [intOf]
    · have hs := HPS.out [nm, ot] ky
      have hle := HPL.out 2
      have HT1 := Lib.hid (HT.out wr _ hW.out (by omega) ky h3)
      rw [show ((2 : Nat) : Int) = 2 from rfl]
      have hix := fun W => (idx4 nm ot ky vl W).2.2.1
      have HS := Lib.hid hs; clear hs
      go_wp2_with (go_at_call 67; refine HT1.out.mono ?_; rintro e w5 ⟨rfl, hw5, hb5⟩)
      have hfin : WAt w5 (w.heap.size + 1) (P [nm, ot, ky]) := by
        have e : P [nm, ot, ky] = P [nm, ot] ++ textL ky := HS.out
        rw [e]; exact hw5
      go_roundw
      case rel => exact ⟨3, by omega, by go_num, hfin, hB.trans hb5⟩
      case measure => simp [intOf]
    · have hs := HPS.out [nm, ot, ky] vl
      have hle := HPL.out 3
      have HT1 := Lib.hid (HT.out wr _ hW.out (by omega) vl h4)
      rw [show ((3 : Nat) : Int) = 3 from rfl]
      have hix := fun W => (idx4 nm ot ky vl W).2.2.2
      have HS := Lib.hid hs; clear hs
      go_wp2_with (go_at_call 67; refine HT1.out.mono ?_; rintro e w5 ⟨rfl, hw5, hb5⟩)
      have hfin : WAt w5 (w.heap.size + 1) (P [nm, ot, ky, vl]) := by
        have e : P [nm, ot, ky, vl] = P [nm, ot, ky] ++ textL vl := HS.out
        rw [e]; exact hw5
      go_roundw
      case rel => exact ⟨4, by omega, by go_num, hfin, hB.trans hb5⟩
      case measure => simp [intOf]
    · have hle := HPL.out 4
      have HN1 := Lib.hid (HN.out wr _ hW.out (by omega) zN hzl)
      rw [show ((4 : Nat) : Int) = 4 from rfl]
      obtain ⟨x0, x1, x2, x3, x4, x5, xf⟩ := blk_six ((hB.block w.heap.size (by omega)).trans hC2.out)
      have hl0 := cell_lt x0
      go_wp2_with (first
        | (go_at_call 68; refine (HZI.out _).mono ?_; rintro e w6 ⟨rfl, rfl⟩)
        | (go_at_call 66; refine HN1.out.mono ?_; rintro e w7 ⟨rfl, hw7, hb7⟩)
        | (go_at_call 69; refine (HBY.out _ _ hw7 (by rw [List.length_append]; have := Lib.uvarint_length64 hzl; omega)).mono ?_; rintro e w8 ⟨v8, rfl, ho8, hb8⟩))
      go_ret
      have hs1 := hB.size
      have hs7 : wr.heap.size ≤ w7.heap.size := by have := hb7.size; simp only [World.size_alloc] at this; omega
      have hbel : Below w.heap.size w w8 := (((HB02.out.trans (hB.mono (by omega))).trans ((bel_al0 (Below.refl _ wr) (.cells #[.int .u64 (zN : Nat)] 23)).mono (by omega))).trans (hb7.mono (by omega))).trans (hb8.mono (by omega))
      exact ⟨v8, rfl, own_mono ho8 (by omega), hbel⟩
end Go.Proofs.YtehneliphhgegaaDoor
