/- The document's table of refs: Drop, and a new table of some: walked once. -/
import Derived.Test.YtehneliphhgegaaRIns
set_option linter.unusedVariables false
set_option linter.unusedSimpArgs false
set_option maxRecDepth 100000
namespace Go.Proofs.Ytehneliphhgegaa
open Go.RowKit Go.Apo

def rdropE (R : List RefD) (s : ByteArray) : Int := if (rFindR R s).isSome then 0 else 111
def rdropL (R : List RefD) (s : ByteArray) : List RefD := if (rFindR R s).isSome then R.take (rAtR R s).toNat ++ R.drop ((rAtR R s).toNat + 1) else R
set_option maxHeartbeats 8000000 in
theorem tdrop_calls (B : Nat) (w : World) (x : Nat) (R : List RefD) (h : RTab B w x R) (hBw : B ≤ w.heap.size) (hR : R.length ≤ 100000) (s : ByteArray) :
    Calls Try.prog 35 #[.pointer (some ⟨x, 0, none⟩), .string s] w (TDone B w x (rdropE R s) (rdropL R s)) := by
  have HA := Lib.hid (tat_calls B w x R h (by omega) s)
  have H := Lib.hid h
  rcases rAtR_cases R s with ⟨h1, h2⟩ | ⟨k, c, h1, h2, h3, h4⟩
  · have e1 : rdropE R s = 111 := by unfold rdropE; rw [h2]; rfl
    have e2 : rdropL R s = R := by unfold rdropL; rw [h2]; rfl
    rw [e1, e2]
    rw [h1] at HA
    clear h1 h2 e1 e2 h
    go_enter Try.func35, Try.ntmps35
    go_wp2_with (go_at_call 80; refine HA.out.mono ?_; rintro e w1 ⟨rfl, hb1⟩)
    go_ret
    exact tdone_below H.out hBw hb1
  · have e1 : rdropE R s = 0 := by unfold rdropE; rw [h4]; rfl
    have e2 : rdropL R s = R.take k ++ R.drop (k + 1) := by unfold rdropL; rw [h4, h1]; rfl
    rw [e1, e2]
    rw [h1] at HA
    have hlt : k < R.length := (List.getElem?_eq_some_iff.1 h2).1
    obtain ⟨A4, k4, hblk, hk4, hA4, hrow⟩ := h.ex
    have hne : R ≠ [] := by rintro rfl; simp at h2
    obtain ⟨g, cs, hAe, hgB, hBg, ht⟩ := hrow hne
    have HROW : Hid (RRow B w A4 R) := hrow
    have HAE := Lib.hid hAe
    have hxc := hblk.one.1
    have hxf := hblk.one.2 0
    have hxl : x < w.heap.size := cell_lt hxc
    obtain ⟨m, hm⟩ : ∃ m, m = R.length := ⟨_, rfl⟩
    rw [← hm] at hxc hk4 hlt hR
    have HM := Lib.hid hm
    have HBL := Lib.hid hblk
    have HBG := Lib.hid hBg
    have HT := Lib.hid ht
    have hgx : x ≠ g := blk_ne hblk hBg (by decide)
    have i0 : (0 : Int) ≤ (k : Int) + 1 := by omega
    have i1 : (k : Int) + 1 ≤ (m : Int) := by omega
    have i3 : (k : Int) ≤ (k4 : Int) := by omega
    have ja : IntKind.i64.wrap ((k : Int) + 1) = (k : Int) + 1 := by rw [IntKind.wrap_i64]; omega
    clear h1 h2 h3 h4 e1 e2 h hblk hrow hA4 hm hBg ht hne
    clear hAe
    obtain ⟨A2, hA2, hA2'⟩ : ∃ A2, (if k4 = k + 1 then A4 else Option.map (fun a => a.add ((k + 1) * 3)) A4) = A2 ∧ (∀ b off, A4 = some ⟨b, off, none⟩ → k + 1 < R.length → A2 = some ⟨b, off + (k + 1) * 3, none⟩) := ⟨_, rfl, fun b off e hl => by
      rw [← HM.out] at hl
      rw [if_neg (by omega), e]
      simp [add_pl']⟩
    go_enter Try.func35, Try.ntmps35
    go_upto_region 4 with (go_at_call 80; refine HA.out.mono ?_; rintro e w1 ⟨rfl, hb1⟩)
    have z := cell_bel hxc hb1
    have zf : w1.frozen? ⟨x, 0, none⟩ = false := (hb1.frozen (p := ⟨x, 0, none⟩) hxl).trans hxf
    have hrl : (R.take k ++ R.drop (k + 1)).length = k + (m - (k + 1)) := by rw [List.length_append, List.length_take, List.length_drop]; have := HM.out; omega
    by_cases hlast : k + 1 = m
    · have hz0 : m - (k + 1) = 0 := by omega
      have hr1 : ∀ W, (Builtin.append_ #[22, 22] 22 #[.slice A4 k k, .slice A2 (m - (k + 1)) (k4 - (k + 1))]).run Try.prog W = .ok (.slice A4 k k) W := fun W => by
        rw [hz0]
        exact run_append_none 22 22 26 _ 3 32 Try.underlying22 infoRef A4 A2 k k _ (Nat.le_refl _)
      have HR1 := Lib.hid hr1
      have hdr : R.drop (k + 1) = [] := List.drop_of_length_le (by rw [← HM.out]; omega)
      have hFIN : ∀ n, TDone B w x 0 (R.take k ++ R.drop (k + 1)) (.returned (.int .i64 0)) ((w1.drewN n).setCell ⟨x, 0, none⟩ (.slice A4 k k)) := fun n => by
        have hbn : Below w.heap.size w (w1.drewN n) := bel_drn hb1 n
        rw [hdr, List.append_nil]
        have hlk : (R.take k).length = k := by rw [List.length_take]; have := HM.out; omega
        refine ⟨rfl, ⟨H.out.lo, A4, k, ?_, by rw [hlk]; exact Nat.le_refl _, (fun e => by rw [HAE.out] at e; cases e), fun _ => ⟨g, cs, HAE.out, hgB, (HBG.out.below hbn).other (Ne.symm hgx) _ _, ?_⟩⟩, (hbn.mono hBw).setCell (p := ⟨x, 0, none⟩) H.out.lo _, fun q hq hqx _ => ?_⟩
        · rw [hlk]; exact (HBL.out.below hbn).set 0 _
        · rw [hlk, refCells_take, ← HT.out, List.take_take, Nat.mul_comm]
          congr 1
          have := HM.out
          omega
        · rw [Below.heap_setCell _ _ _ _ hqx]; exact hbn.block q hq
      have HFIN := Lib.hid hFIN
      clear hFIN hr1 hz0 hlast hrl hdr HM HBL HBG HT HROW H HAE hA2' hb1
      go_region_law (refine step_append_run rfl (.tmp 18) (.tmp 25) 22 rfl _ _ rfl rfl (HR1.out _) ?_)
      all_goals (
        go_wp2
        go_ret
        exact HFIN.out 1)
    · have hk1 : k + 1 < R.length := by have := HM.out; omega
      have hfl := HROW.out.flat
      have hld : (refCells (R.drop (k + 1))).length = (m - (k + 1)) * 3 := by rw [refCells_len, List.length_drop]; have := HM.out; omega
      have hltk : (refCells (R.take k)).length = k * 3 := by rw [refCells_len, List.length_take]; omega
      have hbd : Below w.heap.size w w1.drew := bel_dr hb1
      obtain ⟨q5, q6, w6, cs6, r1, rg, rb, r4, r3, r5⟩ := run_append_newB (P := Try.prog) (w := w1.drew) 22 22 26 _ 3 32 Try.underlying22 infoRef rfl (by decide) A4 k k (refCells (R.take k)) hltk ((flat_takeR hfl k).below hbd) (fun e => by rw [HAE.out] at e; cases e) A2 (m - (k + 1)) (k4 - (k + 1)) (by omega) (refCells (R.drop (k + 1))) hld ((flat_dropR hfl (k + 1) A2 hA2').below hbd) (by unfold maxLen; omega) (by omega) (by omega)
      have hB6 : Below w.heap.size w w6 := bel_tr hbd r3
      have hz6 := hB6.size
      have z6 := cell_bel hxc hB6
      have zf6 : w6.frozen? ⟨x, 0, none⟩ = false := (hB6.frozen (p := ⟨x, 0, none⟩) hxl).trans hxf
      have hgl : w1.heap.size ≤ q5 := rg
      have hw1 := hb1.size
      have hgx6 : q5 ≠ x := by omega
      have hFIN : TDone B w x 0 (R.take k ++ R.drop (k + 1)) (.returned (.int .i64 0)) (w6.setCell ⟨x, 0, none⟩ (.slice (some ⟨q5, 0, none⟩) (k + (m - (k + 1))) q6)) := by
        refine ⟨rfl, ⟨H.out.lo, some ⟨q5, 0, none⟩, q6, ?_, by rw [hrl]; exact r5, (fun e => by cases e), fun _ => ⟨q5, cs6, rfl, by omega, rb.other hgx6 _ _, ?_⟩⟩, (hB6.mono hBw).setCell (p := ⟨x, 0, none⟩) H.out.lo _, fun q hq hqx _ => ?_⟩
        · rw [hrl]; exact (HBL.out.below hB6).set 0 _
        · rw [hrl, Nat.mul_comm, r4, refCells_app]
        · rw [Below.heap_setCell _ _ _ _ hqx]; exact hB6.block q hq
      have HFIN := Lib.hid hFIN
      have HR1 := Lib.hid r1
      clear hFIN r1 rg rb r4 r3 r5 hlast hrl HM HBL HBG HT HROW H HAE hA2' hb1 hk1 hfl hld hltk hbd hB6 hz6 hgl hw1 hgx6
      go_region_law (refine step_append_run rfl (.tmp 18) (.tmp 25) 22 rfl _ _ rfl rfl HR1.out ?_)
      all_goals (
        go_wp2
        go_ret
        exact HFIN.out)
theorem rmakeL_len {R : List RefD} (h : R.length ≤ 40) (r : RefD) : (rmakeL R r).length ≤ 40 := by
  unfold rmakeL
  split
  · rename_i e
    have h40 : ¬ 40 ≤ R.length := by
      intro h'
      unfold rmakeE at e
      split at e
      · split at e
        · cases e
        · first | (exact absurd e (by decide)) | (rw [if_pos h'] at e; exact absurd e (by decide))
      · cases e
    unfold rInsR
    have := rPosR_le R r.name
    simp
    omega
  · exact h
theorem rmake_fold_len (l : List RefD) : ∀ R : List RefD, R.length ≤ 40 → (l.foldl rmakeL R).length ≤ 40 := by
  induction l with
  | nil => intro R h; exact h
  | cons a l ih => intro R h; exact ih _ (rmakeL_len h a)
theorem RefRow.below' {w w' : World} {A : Option Addr} {n : Nat} {l : List RefD} (h : RefRow w A n l) (hb : Below w.heap.size w w') : RefRow w' A n l := h.below hb
/-- what a new document's table leaves -/
def TNew (w : World) (R : List RefD) (e : Ending) (w' : World) : Prop := ∃ x, e = .returned (.pointer (some ⟨x, 0, none⟩)) ∧ RTab w.heap.size w' x R ∧ Below w.heap.size w w'
set_option maxHeartbeats 8000000 in
theorem tnew_calls (w : World) (A : Option Addr) (n c : Nat) (l : List RefD) (h : RefRow w A n l) (hs : ∀ r ∈ l, r.name.size ≤ 1000000) :
    Calls Try.prog 32 #[.slice A n c] w (TNew w (l.foldl rmakeL [])) := by
  have hn := h.le
  have HX0 : Hid (RTab w.heap.size (w.alloc (.cells #[.slice none 0 0] 63)) w.heap.size []) := ⟨Nat.le_refl _, none, 0, blk_new _ _ _, Nat.le_refl _, fun _ => ⟨rfl, rfl⟩, fun e => absurd rfl e⟩
  have H := Lib.hid h; clear h
  have hb0 := bel_al0 (Below.refl w.heap.size w) (.cells #[.slice none 0 0] 63)
  go_enter Try.func32, Try.ntmps32
  go_wp2
  go_loopw [10, 5] (fun v _ wr => ∃ j : Nat, j ≤ n ∧ v = .int .i64 j ∧ Hid (RTab w.heap.size wr w.heap.size ((l.take j).foldl rmakeL [])) ∧ Below w.heap.size w wr) (fun v _ _ => n - (intOf v).toNat)
  case atStart => exact ⟨0, Nat.zero_le _, rfl, HX0, hb0⟩
  case round =>
    obtain ⟨j, hj, rfl, hT, hB⟩ := hrel
    by_cases hlt : j < n
    · have hll := H.out.len
      obtain ⟨r, hr⟩ : ∃ r, l[j]? = some r := ⟨_, List.getElem?_eq_getElem (by rw [hll]; exact hlt)⟩
      obtain ⟨b, off, rfl, hcs⟩ := H.out.at_ (by omega)
      obtain ⟨c0, c1, c2⟩ := hcs j r hr
      replace c0 := cell_bel c0 hB
      replace c1 := cell_bel c1 hB
      replace c2 := cell_bel c2 hB
      have htk : l.take (j + 1) = l.take j ++ [r] := by rw [List.take_add_one, hr]; rfl
      have hrs := hs r (List.mem_of_getElem? hr)
      have hlen := rmake_fold_len (l.take j) [] (by simp)
      have hT2 := hT.out.below (bel_al0 (Below.refl _ wr) (.cells #[.string r.name, .bool r.tag, .int .u64 r.id] 26))
      have HMK := Lib.hid (tmake_calls w.heap.size (wr.alloc (.cells #[.string r.name, .bool r.tag, .int .u64 r.id] 26)) w.heap.size _ hT2 (by have := hB.size; simp; omega) (by omega) r.name hrs r.tag r.id)
      have HTK := Lib.hid htk
      clear hr hcs htk hll hT hT2
      go_wp2_with (go_at_call 33; refine HMK.out.mono ?_; rintro e w3 ⟨rfl, ht3, hb3, _⟩)
      go_roundw
      case rel =>
        refine ⟨j + 1, by omega, by go_num, ?_, (bel_al0 hB _).trans hb3⟩
        show RTab _ _ _ _
        rw [HTK.out, List.foldl_append]
        exact ht3
      case measure => simp [intOf]; omega
    · have hjn : j = n := by omega
      have htk : l.take j = l := by rw [List.take_of_length_le]; rw [H.out.len]; omega
      have hT2 := hT.out
      rw [htk] at hT2
      have HT2 := Lib.hid hT2
      clear hT hT2 htk hjn
      go_wp2
      go_ret
      exact ⟨_, rfl, HT2.out, hB⟩
end Go.Proofs.Ytehneliphhgegaa
