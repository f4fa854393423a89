/- The reader of the package pack: Read, Num, Text, Left, Done: walked once. -/
import Derived.Test.YtehneliphhgegaaDoorDOf
set_option linter.unusedVariables false
set_option linter.unusedSimpArgs false
set_option maxRecDepth 100000
namespace Go.Proofs.YtehneliphhgegaaDoor
open Go.RowKit Go.Apo

abbrev PR : TypeId := 139
def RPost (T : TypeId) (b D : Nat) (v : Value) (st : Option (List UInt8)) (w : World) (e : Ending) (w' : World) : Prop := e = .returned v ∧ RAt T w' b D st ∧ But b w w'
set_option maxHeartbeats 4000000 in
theorem ok_calls (w : World) (b D : Nat) (st : Option (List UInt8)) (h : RAt PR w b D st) :
    Calls Tryd.prog 95 #[.pointer (some ⟨b, 0, none⟩)] w fun e w' => e = .returned (.bool st.isSome) ∧ w = w' := by
  cases st with
  | none =>
    obtain ⟨x0, x1, _⟩ := blk_two (show Blk w b #[.slice none 0 0, .bool true] PR from h)
    clear h
    show Calls _ _ _ _ (fun e w' => e = .returned (.bool false) ∧ w = w')
    go_enter Tryd.func95, Tryd.ntmps95
    go_wp2
    go_ret
    exact ⟨rfl, rfl⟩
  | some l =>
    obtain ⟨A, c, hb, _⟩ := h
    obtain ⟨x0, x1, _⟩ := blk_two hb
    clear hb
    show Calls _ _ _ _ (fun e w' => e = .returned (.bool true) ∧ w = w')
    go_enter Tryd.func95, Tryd.ntmps95
    go_wp2
    go_ret
    exact ⟨rfl, rfl⟩
set_option maxHeartbeats 4000000 in
theorem fail_calls (w : World) (b D : Nat) (st : Option (List UInt8)) (h : RAt PR w b D st) :
    Calls Tryd.prog 97 #[.pointer (some ⟨b, 0, none⟩)] w (RPost PR b D (.tuple #[]) none w) := by
  obtain ⟨v0, v1, hb⟩ : ∃ v0 v1, Blk w b #[v0, v1] PR := by
    cases st with
    | none => exact ⟨_, _, h⟩
    | some l => obtain ⟨A, c, hb, _⟩ := h; exact ⟨_, _, hb⟩
  obtain ⟨x0, x1, xf⟩ := blk_two hb
  have xf0 := xf 0
  have xf1 := xf 1
  have HB := Lib.hid hb; clear hb h xf
  go_enter Tryd.func97, Tryd.ntmps97
  go_wp2
  go_end0
  exact ⟨rfl, (HB.out.set 0 _).set 1 _, but_set (but_set (But.refl _ _) 0 _) 1 _⟩
theorem rdN_bad {most : Nat} {l : List UInt8} (h : decV l = none) : rdN most (some l) = (0, none) := by unfold rdN; simp only [h]
theorem rdN_big {most n k : Nat} {l : List UInt8} (h : decV l = some (n, k)) (hm : most < n) : rdN most (some l) = (0, none) := by unfold rdN; simp only [h]; rw [if_pos hm]
theorem rdN_yes {most n k : Nat} {l : List UInt8} (h : decV l = some (n, k)) (hm : ¬ most < n) : rdN most (some l) = (n, some (l.drop k)) := by unfold rdN; simp only [h]; rw [if_neg hm]
theorem offD_cut {A : Option Addr} {b D : Nat} {l : List UInt8} (h : OffD A b D l) (c k : Nat) : OffD (subA A c k) b D (l.drop k) := fun hl => by
  have hl' : l ≠ [] := by rintro rfl; simp at hl
  have h1 := h hl'
  unfold subA
  split
  · exact h1
  · intro a ha
    cases A with
    | none => cases ha
    | some x =>
      simp only [Option.map_some, Option.some.injEq] at ha
      subst ha
      rw [addr_block]
      exact h1 x rfl
theorem ratCut {T : TypeId} {w : World} {b D : Nat} {A : Option Addr} {c : Nat} {l : List UInt8} (hb : Blk w b #[.slice A l.length c, .bool false] T) (hc : l.length ≤ c) (hl : l.length ≤ 1000000) (hf : Flat w A (Lib.byteCells l)) (ho : OffD A b D l) (k n : Nat) (hk : k ≤ l.length) (hn : n = l.length - k) :
    RAt T (w.setCell ⟨b, 0, none⟩ (.slice (subA A c k) n (c - k))) b D (some (l.drop k)) := by
  subst hn
  refine ⟨subA A c k, c - k, ?_, by rw [List.length_drop]; omega, by rw [List.length_drop]; omega, ?_, offD_cut ho c k⟩
  · have := hb.set 0 (.slice (subA A c k) (l.length - k) (c - k))
    rw [List.length_drop]
    exact this
  · have h1 := flat_sub hf (c := c) (by rw [Lib.byteCells_length]; exact hc) k
    have e : (Lib.byteCells l).drop k = Lib.byteCells (l.drop k) := by unfold Lib.byteCells; rw [List.map_drop]
    rw [e] at h1
    exact flat_butD h1 (fun hl a ha => (offD_cut ho c k hl a ha).1) (But.set w b 0 _)
set_option maxHeartbeats 8000000 in
theorem num_calls (w : World) (b D : Nat) (st : Option (List UInt8)) (h : RAt PR w b D st) (most : Nat) (hm : most < 18446744073709551616) :
    Calls Tryd.prog 58 #[.pointer (some ⟨b, 0, none⟩), .int .u64 most] w (RPost PR b D (.int .u64 (rdN most st).1) (rdN most st).2 w) := by
  have HOK := Lib.hid (ok_calls w b D st h)
  have HFA := Lib.hid (fun W (hW : RAt PR W b D st) => fail_calls W b D st hW)
  have HH := Lib.hid h
  unfold RPost at HFA
  cases st with
  | none =>
    clear h
    show Calls _ _ _ _ (RPost PR b D (.int .u64 0) none w)
    simp only [Option.isSome_none] at HOK
    go_enter Tryd.func58, Tryd.ntmps58
    go_wp2_with (go_at_call 95; refine HOK.out.mono ?_; rintro e w1 ⟨rfl, rfl⟩)
    go_ret
    exact ⟨rfl, HH.out, But.refl _ _⟩
  | some l =>
    simp only [Option.isSome_some] at HOK
    obtain ⟨A, c, hb, hc, hl, hf, ho⟩ := h
    obtain ⟨x0, x1, xf⟩ := blk_two hb
    have xf0 := xf 0
    clear xf
    obtain ⟨n, hn⟩ : ∃ n, n = l.length := ⟨_, rfl⟩
    rw [← hn] at x0 hc hl
    have HLE := Lib.hid (lebof_calls A n c l hn.symm hl w hf)
    have HB := Lib.hid hb; clear hb
    have HF := Lib.hid hf; clear hf
    have HN := Lib.hid hn
    have hbl := cell_lt x0
    rcases hd : decV l with _ | ⟨x, k⟩
    · rw [rdN_bad hd]
      rw [lebR_none hd] at HLE
      clear hd hn
      go_enter Tryd.func58, Tryd.ntmps58
      go_wp2_with (first
        | (go_at_call 95; refine HOK.out.mono ?_; rintro e w1 ⟨rfl, rfl⟩)
        | (go_at_call 96; refine HLE.out.mono ?_; rintro e w1 ⟨rfl, hb1⟩)
        | (go_at_call 97; refine (HFA.out _ (HH.out.below hb1)).mono ?_; rintro e w2 ⟨rfl, hr2, hb2⟩))
      go_ret
      exact ⟨rfl, hr2, (But.of_below hb1).trans hb2⟩
    · have hx64 : x < 18446744073709551616 := (decV_some hd).choose_spec.2.2
      obtain ⟨hk1, _⟩ := decV_le hd
      rw [lebR_some hd] at HLE
      by_cases hbig : most < x
      · rw [rdN_big hd hbig]
        have g1 : decide ((most : Int) < (x : Int)) = true := by simp; omega
        clear hd hn
        go_enter Tryd.func58, Tryd.ntmps58
        go_wp2_with (first
          | (go_at_call 95; refine HOK.out.mono ?_; rintro e w1 ⟨rfl, rfl⟩)
          | (go_at_call 96; refine HLE.out.mono ?_; rintro e w1 ⟨rfl, hb1⟩)
          | (go_at_call 97; refine (HFA.out _ (HH.out.below hb1)).mono ?_; rintro e w2 ⟨rfl, hr2, hb2⟩))
        go_ret
        exact ⟨rfl, hr2, (But.of_below hb1).trans hb2⟩
      · rw [rdN_yes hd hbig]
        have g1 : decide ((most : Int) < (x : Int)) = false := by simp; omega
        rw [← hn] at hk1
        have hcut := run_cut .i64 A n c k hk1
        have hcut2 : ∀ W, (Instr.slice 35 (.slice A n c) (some (.int .i64 (k : Int))) none none).run Tryd.prog W = .ok (.slice (subA A c k) (n - k) (c - k)) W := fun W => by
          have h := hcut W
          rw [run_sliceAt_slice W _ _ _ _ _ (by kernel_rfl)] at h
          exact h
        clear hd hn hcut
        go_enter Tryd.func58, Tryd.ntmps58
        go_wp2_with (first
          | (go_at_call 95; refine HOK.out.mono ?_; rintro e w1 ⟨rfl, rfl⟩)
          | (go_at_call 96; refine HLE.out.mono ?_; rintro e w1 ⟨rfl, hb1⟩; have y0 := cell_bel x0 hb1; have yf0 : w1.frozen? ⟨b, 0, none⟩ = false := (hb1.frozen (p := ⟨b, 0, none⟩) hbl).trans xf0))
        go_ret
        refine ⟨rfl, ratCut (HB.out.below hb1) (by rw [← HN.out]; exact hc) (by rw [← HN.out]; exact hl) (HF.out.below hb1) ho k (n - k) (by rw [← HN.out]; exact hk1) (by rw [HN.out]), (But.of_below hb1).trans (But.set _ _ _ _)⟩
set_option maxHeartbeats 4000000 in
theorem left_calls (w : World) (b D : Nat) (st : Option (List UInt8)) (h : RAt PR w b D st) :
    Calls Tryd.prog 98 #[.pointer (some ⟨b, 0, none⟩)] w fun e w' => e = .returned (.int .i64 ((st.getD []).length : Nat)) ∧ w = w' := by
  have HOK := Lib.hid (ok_calls w b D st h)
  cases st with
  | none =>
    show Calls _ _ _ _ (fun e w' => e = .returned (.int .i64 0) ∧ w = w')
    simp only [Option.isSome_none] at HOK
    clear h
    go_enter Tryd.func98, Tryd.ntmps98
    go_wp2_with (go_at_call 95; refine HOK.out.mono ?_; rintro e w1 ⟨rfl, rfl⟩)
    go_ret
    exact ⟨rfl, rfl⟩
  | some l =>
    simp only [Option.isSome_some] at HOK
    obtain ⟨A, c, hb, hc, hl, hf, ho⟩ := h
    obtain ⟨x0, x1, xf⟩ := blk_two hb
    show Calls _ _ _ _ (fun e w' => e = .returned (.int .i64 (l.length : Nat)) ∧ w = w')
    obtain ⟨n, hn⟩ : ∃ n, n = l.length := ⟨_, rfl⟩
    rw [← hn] at x0 ⊢
    clear hb hf hc hl hn
    go_enter Tryd.func98, Tryd.ntmps98
    go_wp2_with (go_at_call 95; refine HOK.out.mono ?_; rintro e w1 ⟨rfl, rfl⟩)
    go_ret
    exact ⟨rfl, rfl⟩
set_option maxHeartbeats 4000000 in
theorem done_calls (w : World) (b D : Nat) (st : Option (List UInt8)) (h : RAt PR w b D st) :
    Calls Tryd.prog 61 #[.pointer (some ⟨b, 0, none⟩)] w fun e w' => e = .returned (.bool (decide (st = some []))) ∧ w = w' := by
  have HOK := Lib.hid (ok_calls w b D st h)
  cases st with
  | none =>
    show Calls _ _ _ _ (fun e w' => e = .returned (.bool false) ∧ w = w')
    simp only [Option.isSome_none] at HOK
    clear h
    go_enter Tryd.func61, Tryd.ntmps61
    go_wp2_with (go_at_call 95; refine HOK.out.mono ?_; rintro e w1 ⟨rfl, rfl⟩)
    go_ret
    exact ⟨rfl, rfl⟩
  | some l =>
    simp only [Option.isSome_some] at HOK
    obtain ⟨A, c, hb, hc, hl, hf, ho⟩ := h
    obtain ⟨x0, x1, xf⟩ := blk_two hb
    obtain ⟨n, hn⟩ : ∃ n, n = l.length := ⟨_, rfl⟩
    have e : decide ((some l : Option (List UInt8)) = some []) = ((n : Int) == 0) := by
      rw [hn]
      cases l with
      | nil => rfl
      | cons a l => simp; omega
    rw [e]
    rw [← hn] at x0
    clear hb hf hc hl hn e
    go_enter Tryd.func61, Tryd.ntmps61
    go_wp2_with (go_at_call 95; refine HOK.out.mono ?_; rintro e w1 ⟨rfl, rfl⟩)
    go_ret
    exact ⟨rfl, rfl⟩
theorem rdN_zero {m : Nat} {st : Option (List UInt8)} (h : (rdN m st).2 = none) : (rdN m st).1 = 0 := by
  unfold rdN at h ⊢
  split
  · rfl
  · split
    · rfl
    · split
      · rfl
      · rename_i h1; simp_all
theorem rdT_bad {m : Nat} {st : Option (List UInt8)} {x : Nat} (h : rdN m st = (x, none)) : rdT m st = (ByteArray.empty, none) := by unfold rdT; simp only [h]
theorem rdT_short {m : Nat} {st : Option (List UInt8)} {x : Nat} {l : List UInt8} (h : rdN m st = (x, some l)) (hx : l.length < x) : rdT m st = (ByteArray.empty, none) := by unfold rdT; simp only [h]; rw [if_pos hx]
theorem rdT_yes {m : Nat} {st : Option (List UInt8)} {x : Nat} {l : List UInt8} (h : rdN m st = (x, some l)) (hx : ¬ l.length < x) : rdT m st = (⟨(l.take x).toArray⟩, some (l.drop x)) := by unfold rdT; simp only [h]; rw [if_neg hx]
set_option maxHeartbeats 8000000 in
theorem prtext_calls (w : World) (b D : Nat) (st : Option (List UInt8)) (h : RAt PR w b D st) :
    Calls Tryd.prog 59 #[.pointer (some ⟨b, 0, none⟩), .int .i64 300] w (RPost PR b D (.string (rdT 300 st).1) (rdT 300 st).2 w) := by
  have HNU := Lib.hid (num_calls w b D st h 300 (by omega))
  unfold RPost at HNU
  clear h
  rcases hd : rdN 300 st with ⟨x, _ | l⟩
  · have hx0 : x = 0 := by have := rdN_zero (m := 300) (st := st) (by rw [hd]); rw [hd] at this; exact this
    subst hx0
    rw [rdT_bad hd]
    rw [hd] at HNU
    clear hd
    have HLE := Lib.hid (fun W (hW : RAt PR W b D none) => left_calls W b D none hW)
    have HOK := Lib.hid (fun W (hW : RAt PR W b D none) => ok_calls W b D none hW)
    simp only [Option.isSome_none, Option.getD_none, List.length_nil] at HLE HOK
    show Calls _ _ _ _ (RPost PR b D (.string ⟨#[]⟩) none w)
    go_enter Tryd.func59, Tryd.ntmps59
    go_wp2_with (first
      | (go_at_call 58; refine HNU.out.mono ?_; rintro e w1 ⟨rfl, hr1, hb1⟩)
      | (go_at_call 98; refine (HLE.out _ hr1).mono ?_; rintro e w2 ⟨rfl, rfl⟩)
      | (go_at_call 95; refine (HOK.out _ hr1).mono ?_; rintro e w2 ⟨rfl, rfl⟩))
    go_ret
    exact ⟨rfl, hr1, hb1⟩
  · rw [hd] at HNU
    have hx300 : x ≤ 300 := by have := rdN_le 300 st; rw [hd] at this; exact this
    have HLE := Lib.hid (fun W (hW : RAt PR W b D (some l)) => left_calls W b D (some l) hW)
    have HOK := Lib.hid (fun W (hW : RAt PR W b D (some l)) => ok_calls W b D (some l) hW)
    simp only [Option.isSome_some, Option.getD_some] at HLE HOK
    by_cases hsh : l.length < x
    · rw [rdT_short hd hsh]
      clear hd
      have HFA := Lib.hid (fun W (hW : RAt PR W b D (some l)) => fail_calls W b D (some l) hW)
      have HOK2 := Lib.hid (fun W (hW : RAt PR W b D none) => ok_calls W b D none hW)
      simp only [Option.isSome_none] at HOK2
      unfold RPost at HFA
      have hlw : IntKind.u64.wrap ((l.length : Nat) : Int) = ((l.length : Nat) : Int) := by rw [IntKind.wrap_u64]; omega
      obtain ⟨n, hn⟩ : ∃ n, n = l.length := ⟨_, rfl⟩
      rw [← hn] at HLE hsh hlw
      clear hn
      show Calls _ _ _ _ (RPost PR b D (.string ⟨#[]⟩) none w)
      go_enter Tryd.func59, Tryd.ntmps59
      go_wp2_with (first
        | (go_at_call 58; refine HNU.out.mono ?_; rintro e w1 ⟨rfl, hr1, hb1⟩)
        | (go_at_call 98; refine (HLE.out _ hr1).mono ?_; rintro e w2 ⟨rfl, rfl⟩)
        | (go_at_call 97; refine (HFA.out _ hr1).mono ?_; rintro e w2 ⟨rfl, hr2, hb2⟩)
        | (go_at_call 95; refine (HOK2.out _ hr2).mono ?_; rintro e w3 ⟨rfl, rfl⟩))
      go_ret
      exact ⟨rfl, hr2, hb1.trans hb2⟩
    · rw [rdT_yes hd hsh]
      clear hd
      go_enter Tryd.func59, Tryd.ntmps59
      go_upto_region 5 with (go_at_call 58; refine HNU.out.mono ?_; rintro e w1 ⟨rfl, hr1, hb1⟩)
      have HLE1 := Lib.hid (HLE.out _ hr1)
      have HOK1 := Lib.hid (HOK.out _ hr1)
      obtain ⟨A, c, hbk, hc, hl, hf, ho⟩ := hr1
      obtain ⟨x0, x1, xf⟩ := blk_two hbk
      have xf0 := xf 0
      have hlw : IntKind.u64.wrap ((l.length : Nat) : Int) = ((l.length : Nat) : Int) := by rw [IntKind.wrap_u64]; omega
      have HBK := Lib.hid hbk; clear hbk
      obtain ⟨n, hn⟩ : ∃ n, n = l.length := ⟨_, rfl⟩
      have hcut2 : ∀ W, (Instr.slice 35 (.slice A n c) (some (.int .u64 (x : Int))) none none).run Tryd.prog W = .ok (.slice (subA A c x) (n - x) (c - x)) W := fun W => by
        have h := run_cut .u64 A n c x (by omega) W
        rw [run_sliceAt_slice W _ _ _ _ _ (by kernel_rfl)] at h
        exact h
      have hhead2 : ∀ W, (Instr.slice 35 (.slice A n c) none (some (.int .u64 (x : Int))) none).run Tryd.prog W = .ok (.slice A x c) W := fun W => by
        have h := run_head .u64 A n c x (by omega) W
        rw [run_sliceAt_slice W _ _ _ _ _ (by kernel_rfl)] at h
        exact h
      have hcv : (convert 35 9 (.slice A x c)).run Tryd.prog w1 = .ok (.string ⟨(l.take x).toArray⟩) w1 := by
        refine run_text A c (l.take x) w1 ?_ x (by rw [List.length_take]; omega)
        have := flat_take hf x
        have e : (Lib.byteCells l).take x = Lib.byteCells (l.take x) := by unfold Lib.byteCells; rw [List.map_take]
        rw [e] at this
        exact this
      rw [← hn] at HLE1 hsh hlw x0
      have HF := Lib.hid hf; clear hf
      have HL := Lib.hid hl
      have HC := Lib.hid hc
      have HN := Lib.hid hn; clear hn hc hl
      clear HLE HOK HNU
      obtain ⟨s, hs⟩ : ∃ s : ByteArray, s = ⟨(l.take x).toArray⟩ := ⟨_, rfl⟩
      rw [← hs] at hcv ⊢
      have HS := Lib.hid hs
      clear hs xf
      go_wp2_with (first
        | (go_at_call 98; refine HLE1.out.mono ?_; rintro e w2 ⟨rfl, rfl⟩)
        | (go_at_call 95; refine HOK1.out.mono ?_; rintro e w2 ⟨rfl, rfl⟩))
      go_ret
      exact ⟨by show Ending.returned (.string s) = _; rw [HS.out], ratCut HBK.out HC.out HL.out HF.out ho x (n - x) (by have := HN.out; omega) (by rw [HN.out]), hb1.trans (But.set _ _ _ _)⟩
set_option maxHeartbeats 8000000 in
theorem read_calls (w : World) (A : Option Addr) (n c : Nat) (l : List UInt8) (hn : n = l.length) (hl : l.length ≤ 1000000) (hf : Flat w A (Lib.byteCells l)) (hA : A = none → l = []) :
    Calls Tryd.prog 57 #[.slice A n c] w fun e w' => ∃ b, e = .returned (.pointer (some ⟨b, 0, none⟩)) ∧ w.heap.size ≤ b ∧ b < w'.heap.size ∧ RAt PR w' b w'.heap.size (some l) ∧ Below w.heap.size w w' := by
  have HC := Lib.hid (cloneB_calls w A c l hf (by omega) hA)
  unfold CloneBPost at HC
  clear hf hA
  rw [← hn] at HC
  have HN := Lib.hid hn; clear hn
  go_enter Tryd.func57, Tryd.ntmps57
  go_wp2_with (go_at_call 94; refine HC.out.mono ?_; rintro e w1 ⟨v1, rfl, ho1, hb1⟩; obtain ⟨A1, k1, rfl, hk1⟩ := own_form ho1; have HO1 := Lib.hid ho1; clear ho1)
  go_ret
  refine ⟨_, rfl, hb1.size, by simp, ⟨A1, k1, ?_, ?_, hl, (own_flat HO1.out).below (bel_al0 (Below.refl _ _) _), ?_⟩, bel_al0 hb1 _⟩
  · rw [← HN.out]
    exact blk_new w1 #[.slice A1 n k1, .bool false] PR
  · rw [← HN.out]; exact hk1
  · intro _ a ha
    subst ha
    have := HO1.out
    rcases this.2 with ⟨h1, _⟩ | ⟨g, cap, cur, h1, _, hg, _⟩
    · cases h1
    · simp only [Value.slice.injEq, Option.some.injEq] at h1
      rw [h1.1]
      have hlt : g < w1.heap.size := (Array.getElem?_eq_some_iff.1 hg).1
      have hz := World.size_alloc w1 (.cells #[.slice (some a) n k1, .bool false] PR)
      refine ⟨?_, ?_⟩
      · show g ≠ w1.heap.size
        omega
      · show g < _
        simp
        omega
end Go.Proofs.YtehneliphhgegaaDoor
