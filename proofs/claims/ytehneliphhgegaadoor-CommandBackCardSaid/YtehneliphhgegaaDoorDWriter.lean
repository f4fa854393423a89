/- The writer of the package pack: Num, Text, Bytes: walked once. -/
import Derived.Test.YtehneliphhgegaaDoorDPack
import Derived.Lib.SliceRun
set_option linter.unusedVariables false
set_option linter.unusedSimpArgs false
set_option maxRecDepth 100000
namespace Go.Proofs.YtehneliphhgegaaDoor
open Go.RowKit Go.Apo

/-- a writer and the bytes that it has -/
def WAt (w : World) (Bw : Nat) (bs : List UInt8) : Prop := ∃ v, Blk w Bw #[v] 98 ∧ w.ownsRow (Bw + 1) 5 1 v bs.length (Lib.byteCells bs)
def WPost (Bw : Nat) (bs : List UInt8) (w : World) (e : Ending) (w' : World) : Prop := e = .returned (.tuple #[]) ∧ WAt w' Bw bs ∧ Below Bw w w'
set_option maxHeartbeats 4000000 in
theorem wnum_calls (w : World) (Bw : Nat) (bs : List UInt8) (h : WAt w Bw bs) (hl : bs.length ≤ 1000000) (Al : Option Addr) (kl x : Nat) (hx : x < 18446744073709551616) (hfl : Flat w Al [.int .u64 x]) :
    Calls Tryd.prog 66 #[.pointer (some ⟨Bw, 0, none⟩), .slice Al 1 kl] w (WPost Bw (bs ++ Lib.uvarint x) w) := by
  obtain ⟨v, hblk, hown⟩ := h
  obtain ⟨A, k, rfl, _⟩ := own_form hown
  have HP := Lib.hid (put_calls A bs.length k bs rfl (by omega) Al kl x hx w (own_flat hown) hfl)
  obtain ⟨nb, hnb⟩ : ∃ nb, nb = bs.length := ⟨_, rfl⟩
  rw [← hnb] at HP hblk
  have HNB := Lib.hid hnb; clear hnb
  have hc := hblk.one.1
  have hfz := hblk.one.2 0
  have hBl := hblk.lt
  have HBLK := Lib.hid hblk; clear hblk
  clear hown hfl
  go_enter Tryd.func66, Tryd.ntmps66
  go_wp2_with (go_at_call 101; refine HP.out.mono ?_; rintro e w1 ⟨v1, rfl, ho1, hb1⟩; obtain ⟨A1, k1, rfl, _⟩ := own_form ho1; have HO1 := Lib.hid ho1; clear ho1; have hc1 := cell_bel hc hb1; have hfz1 : w1.frozen? ⟨Bw, 0, none⟩ = false := (hb1.frozen (p := ⟨Bw, 0, none⟩) hBl).trans hfz; have hz1 := hb1.size)
  go_end0
  have ho1 := HO1.out
  refine ⟨rfl, ⟨_, (HBLK.out.below hb1).set 0 _, ?_⟩, (show Below Bw w w1 from hb1.mono (Nat.le_of_lt hBl)).setCell (p := ⟨Bw, 0, none⟩) (Nat.le_refl _) _⟩
  have e : nb + (Lib.uvarint x).length = (bs ++ Lib.uvarint x).length := by rw [HNB.out, List.length_append]
  rw [e] at ho1 ⊢
  refine own_mono (base := w.heap.size) ?_ (by omega)
  refine ho1.kept (row := some Bw) ⟨rfl, rfl, rfl, by simp [World.setCell], fun i _ hi => Below.heap_setCell w1 ⟨Bw, 0, none⟩ _ i (fun e => hi (by rw [e]))⟩ (Or.inr fun e => ?_)
  have := (ho1.lt Bw e).1
  omega
set_option maxHeartbeats 4000000 in
theorem wtext_calls (w : World) (Bw : Nat) (bs : List UInt8) (h : WAt w Bw bs) (hl : bs.length ≤ 900000) (s : ByteArray) (hs : s.size ≤ 100000) :
    Calls Tryd.prog 67 #[.pointer (some ⟨Bw, 0, none⟩), .string s] w (WPost Bw (bs ++ textL s) w) := by
  have HNU := Lib.hid (fun (W : World) (hW : WAt W Bw bs) (Al : Option Addr) (hf : Flat W Al [.int .u64 (s.size : Nat)]) => wnum_calls W Bw bs hW (by omega) Al 1 s.size (by omega) hf)
  have H := Lib.hid h
  have hBl : Bw < w.heap.size := by obtain ⟨v, hb, _⟩ := h; exact hb.lt
  have hu10 := Lib.uvarint_length64 (x := s.size) (by omega)
  clear h
  obtain ⟨i0, hi, hz0, hz1, hz2⟩ := info_parts infoU8
  unfold textL
  obtain ⟨U, hU⟩ : ∃ U, U = Lib.uvarint s.size := ⟨_, rfl⟩
  rw [← hU] at HNU hu10 ⊢
  clear hU
  unfold WPost at HNU
  have hf1 : Flat (w.alloc (.cells #[.int .u64 (s.size : Nat)] 23)) (some ⟨w.heap.size, 0, none⟩) [.int .u64 (s.size : Nat)] := fun _ => ⟨w.heap.size, 0, rfl, fun q u hq => by
    refine (blk_new w #[.int .u64 (s.size : Nat)] 23).cell ?_
    rw [Nat.zero_add]
    simpa using hq⟩
  have HF1 := Lib.hid hf1; clear hf1
  have hW1 : Hid (WAt (w.alloc (.cells #[.int .u64 (s.size : Nat)] 23)) Bw bs) := by
    obtain ⟨v, hb, ho⟩ := H.out
    exact ⟨v, hb.al _, own_below ho (bel_al0 (Below.refl _ _) _)⟩
  have hbA : Below Bw w (w.alloc (.cells #[.int .u64 (s.size : Nat)] 23)) := (bel_al0 (Below.refl _ w) _).mono (Nat.le_of_lt hBl)
  clear H
  go_enter Tryd.func67, Tryd.ntmps67
  go_upto_region 2 with (go_at_call 66; refine (HNU.out _ hW1.out _ HF1.out).mono ?_; rintro e w1 ⟨rfl, hw1, hb1⟩)
  obtain ⟨v1, hblk, hown⟩ := hw1
  obtain ⟨A1, k1, rfl, _⟩ := own_form hown
  obtain ⟨nb, hnb⟩ : ∃ nb, nb = (bs ++ U).length := ⟨_, rfl⟩
  rw [← hnb] at hblk hown
  have hnb2 : nb ≤ 900010 := by rw [hnb, List.length_append]; omega
  have HNB := Lib.hid hnb; clear hnb
  have hc1 := hblk.one.1
  have hfz1 := hblk.one.2 0
  have hl1 := hblk.lt
  have HBLK := Lib.hid hblk; clear hblk
  have hb01 := hbA.trans hb1
  clear hbA hb1 HNU hW1 HF1
  go_wp2_with (at_builtin; refine Lib.wpList_append_own_string _ rfl _ _ 35 9 rfl (Bw + 1) 5 i0 Tryd.underlying35 Tryd.underlying9 hi hz0 hz1 hz2 (.slice A1 nb k1) nb (Lib.byteCells (bs ++ U)) rfl hown s rfl (by unfold maxLen; omega) (by omega) (by omega) ?_; intro v2 w2 ho2 hg2 _; obtain ⟨A2, k2, rfl, _⟩ := own_form ho2; have HB2 := Lib.hid (hg2.block Bw hl1 (fun e => by have := (hown.lt Bw e.symm).1; omega)); have HBLK2 := Lib.hid (show Blk w2 Bw #[.slice A1 nb k1] 98 from HB2.out.trans HBLK.out); have hc2 := HBLK2.out.one.1; have hfz2 := HBLK2.out.one.2 0; have HO2 := Lib.hid ho2; clear ho2; have HBW := Lib.hid (hb01.grown hg2 (by have := hb01.size; omega) (fun k hk => by have := (hown.lt k hk).1; omega)); clear hg2)
  go_end0
  have ho2 := HO2.out
  refine ⟨rfl, ⟨_, HBLK2.out.set 0 _, ?_⟩, HBW.out.setCell (p := ⟨Bw, 0, none⟩) (Nat.le_refl _) _⟩
  have e : nb + s.size = (bs ++ (U ++ s.data.toList)).length := by
    have : s.data.toList.length = s.size := rfl
    rw [HNB.out, List.length_append, List.length_append, List.length_append]
    omega
  rw [strCells_bytes, ← Lib.byteCells_append, List.append_assoc] at ho2
  rw [e] at ho2 ⊢
  refine ho2.kept (row := some Bw) ⟨rfl, rfl, rfl, by simp [World.setCell], fun i _ hi => Below.heap_setCell w2 ⟨Bw, 0, none⟩ _ i (fun e => hi (by rw [e]))⟩ (Or.inr fun e => ?_)
  have := (ho2.lt Bw e).1
  omega
def CloneBPost (w : World) (l : List UInt8) (e : Ending) (w' : World) : Prop :=
  ∃ v, e = .returned v ∧ w'.ownsRow w.heap.size 5 1 v l.length (Lib.byteCells l) ∧ Below w.heap.size w w'

theorem cloneB_calls (w : World) (A : Option Addr) (c : Nat) (l : List UInt8) (hf : Flat w A (Lib.byteCells l)) (hl : l.length ≤ 140737488355328) (hA : A = none → l = []) :
    Calls Tryd.prog 94 #[.slice A l.length c] w (CloneBPost w l) := by
  have hn := fun w A n c => Lib.run_eql_slice_nil (P := Tryd.prog) w 35 5 A n c 0 0 Tryd.underlying35
  cases A with
  | none =>
    obtain rfl := hA rfl
    go_enter Tryd.func94, Tryd.ntmps94
    go_wp2
    go_ret
    exact ⟨_, rfl, World.ownsRow_nil _ _ _ _, Below.refl _ _⟩
  | some a =>
    have HF := Lib.hid hf; clear hf
    clear hA
    obtain ⟨n, hn'⟩ : ∃ n, n = l.length := ⟨_, rfl⟩
    rw [← hn'] at hl ⊢
    have HN := Lib.hid hn'; clear hn'
    go_enter Tryd.func94, Tryd.ntmps94
    go_wp2_with (at_builtin; refine wpl_append rfl _ _ 35 rfl w.heap.size 5 _ 1 1 Tryd.underlying35 infoU8 rfl (by decide) _ 0 [] rfl (World.ownsRow_lit w #[] 0 (Nat.le_refl _) (Nat.zero_le _) rfl) (some a) n c (Lib.byteCells l) rfl (by rw [Lib.byteCells_length, HN.out, Nat.mul_one]) (HF.out.below (bel_al0 (Below.refl _ _) _)) (bytes_one l) (by unfold maxLen; omega) (by omega) (by simp) ?_; intro v' w' ho hg hat)
    go_ret
    refine ⟨v', rfl, ?_, ?_⟩
    · rw [← HN.out]; simpa using ho
    · refine (bel_al0 (Below.refl _ w) _).grown hg (by simp) (fun k hk => ?_)
      have := (World.ownsRow_lit (e := 5) (size := 1) w #[] 0 (Nat.le_refl _) (Nat.zero_le _) rfl).lt k hk
      exact this.1
set_option maxHeartbeats 4000000 in
theorem wbytes_calls (w : World) (Bw : Nat) (bs : List UInt8) (h : WAt w Bw bs) (hl : bs.length ≤ 1000000) :
    Calls Tryd.prog 69 #[.pointer (some ⟨Bw, 0, none⟩)] w (CloneBPost w bs) := by
  obtain ⟨v, hblk, hown⟩ := h
  obtain ⟨A, k, rfl, _⟩ := own_form hown
  have HC := Lib.hid (cloneB_calls w A k bs (own_flat hown) (by omega) (fun e => by
    subst e
    rcases hown.2 with ⟨_, h2⟩ | ⟨g, cap, cur, h1, _⟩
    · exact List.eq_nil_of_length_eq_zero h2
    · cases h1))
  have hc := hblk.one.1
  have hBl := hblk.lt
  clear hblk hown
  unfold CloneBPost at HC ⊢
  obtain ⟨nb, hnb⟩ : ∃ nb, nb = bs.length := ⟨_, rfl⟩
  rw [← hnb] at HC hc ⊢
  clear hnb
  go_enter Tryd.func69, Tryd.ntmps69
  go_wp2_with (go_at_call 94; refine HC.out.mono ?_; rintro e w1 ⟨v1, rfl, ho1, hb1⟩)
  go_ret
  exact ⟨_, rfl, ho1, hb1⟩
end Go.Proofs.YtehneliphhgegaaDoor
