/- Making, setting and dropping refs: each function walked once. -/
import Derived.Test.YtehneliphhgegaaRefs
set_option linter.unusedVariables false
set_option linter.unusedSimpArgs false
set_option maxRecDepth 100000
namespace Go.Proofs.Ytehneliphhgegaa
open Go.RowKit Go.Apo

def makeE (L : List (ByteArray × RefD)) (r : RefD) : Int :=
  if nameB r.name then (if (mget L r.name).isSome then 112 else if 40 ≤ L.length then 4 else 0) else 110
def makeL (L : List (ByteArray × RefD)) (r : RefD) : List (ByteArray × RefD) :=
  if makeE L r = 0 then mput L r.name r else L

/-- what a call of Make leaves -/
structure Made (w : World) (p m : Nat) (L : List (ByteArray × RefD)) (x : Int) (L' : List (ByteArray × RefD)) (e : Ending) (w' : World) : Prop where
  e : e = .returned (.int .i64 x)
  t : TableAt w' p m L'
  b : But m w w'

theorem TableAt.ne {w : World} {p m : Nat} {L : List (ByteArray × RefD)} (h : TableAt w p m L) : p ≠ m := by
  intro e; subst e
  obtain ⟨o, ho, hc⟩ := h.2.notCells
  obtain ⟨o', ho', hc'⟩ := cells_of_cell h.1
  rw [ho] at ho'; cases ho'; rw [hc] at hc'; cases hc'

theorem make_calls (p m : Nat) (w : World) (L : List (ByteArray × RefD)) (h : TableAt w p m L) (n : ByteArray) (t : Bool) (i : Int) :
    Calls Try.prog 20 #[.pointer (some ⟨p, 0, none⟩), .agg #[.string n, .bool t, .int .u64 i]] w (Made w p m L (makeE L ⟨n, t, i⟩) (makeL L ⟨n, t, i⟩)) := by
  have hc := h.1
  have hlt : p < w.heap.size := cell_lt hc
  have hltm : m < w.heap.size := h.2.lt
  obtain ⟨x, hx⟩ : ∃ x, x = makeE L ⟨n, t, i⟩ := ⟨_, rfl⟩
  obtain ⟨L', hL⟩ : ∃ L', L' = makeL L ⟨n, t, i⟩ := ⟨_, rfl⟩
  rw [← hx, ← hL]
  obtain ⟨b, hb⟩ : ∃ b, b = (mget L n).isSome := ⟨_, rfl⟩
  obtain ⟨q, hq⟩ : ∃ q, q = nameB n := ⟨_, rfl⟩
  have hx' : x = if q then (if b then 112 else if 40 ≤ L.length then 4 else 0) else 110 := by rw [hx, hb, hq]; rfl
  have hL' : L' = if x = 0 then mput L n ⟨n, t, i⟩ else L := by rw [hx, hL]; rfl
  clear hx hL
  have G := fun W hW => get_calls p m W L hW n
  rw [← hb] at G
  obtain ⟨r, hr⟩ : ∃ r, r = rGet L n := ⟨_, rfl⟩
  rw [← hr] at G
  have N := name_calls n
  rw [← hq] at N
  have HG := Lib.hid G; clear G
  have HN := Lib.hid N; clear N
  clear hb hq hr
  have hB := bel_al0 (Below.refl w.heap.size w) (.cells #[.string n, .bool t, .int .u64 i] 26)
  have HT := Lib.hid (h.below hB)
  have H := Lib.hid h; clear h
  cases q with
  | false =>
    obtain rfl : x = 110 := by simpa using hx'
    obtain rfl : L' = L := by simpa using hL'
    clear hx' hL'
    go_enter Try.func20, Try.ntmps20
    go_wp2_with (first | (go_at_call 22; refine (HG.out _ HT.out).mono ?_; rintro e w1 ⟨rfl, hb1⟩; obtain ⟨hc1, hf1⟩ := bcell hb1; have ht1 := HT.out.below hb1; have hp1 := ht1.1; have HT1 := Lib.hid ht1; clear ht1; have hz1 : w.heap.size < w1.heap.size := (by have := hb1.size; simp at this; omega)) | (go_at_call 74; refine (ok_yes p m _ (cell_al hp1 _)).mono ?_; rintro e w' ⟨rfl, rfl⟩) | (go_at_call 41; refine (HN.out _).mono ?_; rintro e w2 ⟨rfl, hb2⟩))
    go_ret
    have hbb : Below w.heap.size w w2 := by (repeat (first | (with_reducible exact Below.refl _ _) | (with_reducible assumption) | (with_reducible refine bel_al0 ?_ _) | (with_reducible refine bel_set ?_ (by first | (simp; done) | (simp; omega)) _) | (with_reducible refine bel_dr ?_) | (with_reducible refine bel_drn ?_ _) | (with_reducible refine bel_tr ?_ (by assumption))))
    exact ⟨rfl, H.out.below hbb, But.of_below hbb⟩
  | true =>
    cases b with
    | true =>
      obtain rfl : x = 112 := by simpa using hx'
      obtain rfl : L' = L := by simpa using hL'
      clear hx' hL'
      go_enter Try.func20, Try.ntmps20
      go_wp2_with (first | (go_at_call 22; refine (HG.out _ HT.out).mono ?_; rintro e w1 ⟨rfl, hb1⟩; obtain ⟨hc1, hf1⟩ := bcell hb1; have ht1 := HT.out.below hb1; have hp1 := ht1.1; have HT1 := Lib.hid ht1; clear ht1; have hz1 : w.heap.size < w1.heap.size := (by have := hb1.size; simp at this; omega)) | (go_at_call 74; refine (ok_yes p m _ (cell_al hp1 _)).mono ?_; rintro e w' ⟨rfl, rfl⟩) | (go_at_call 41; refine (HN.out _).mono ?_; rintro e w2 ⟨rfl, hb2⟩))
      go_ret
      have hbb : Below w.heap.size w w2 := by (repeat (first | (with_reducible exact Below.refl _ _) | (with_reducible assumption) | (with_reducible refine bel_al0 ?_ _) | (with_reducible refine bel_set ?_ (by first | (simp; done) | (simp; omega)) _) | (with_reducible refine bel_dr ?_) | (with_reducible refine bel_drn ?_ _) | (with_reducible refine bel_tr ?_ (by assumption))))
      exact ⟨rfl, H.out.below hbb, But.of_below hbb⟩
    | false =>
      by_cases hlen : 40 ≤ L.length
      · obtain rfl : x = 4 := by simpa [hlen] using hx'
        obtain rfl : L' = L := by simpa using hL'
        clear hx' hL'
        have g1 : decide ((40 : Int) ≤ L'.length) = true := by simp; omega
        clear hlen
        go_enter Try.func20, Try.ntmps20
        go_wp2_with (first | (go_at_call 22; refine (HG.out _ HT.out).mono ?_; rintro e w1 ⟨rfl, hb1⟩; obtain ⟨hc1, hf1⟩ := bcell hb1; have ht1 := HT.out.below hb1; have hp1 := ht1.1; have HT1 := Lib.hid ht1; clear ht1; have hz1 : w.heap.size < w1.heap.size := (by have := hb1.size; simp at this; omega)) | (go_at_call 74; refine (ok_yes p m _ (cell_al hp1 _)).mono ?_; rintro e w' ⟨rfl, rfl⟩) | (go_at_call 41; refine (HN.out _).mono ?_; rintro e w2 ⟨rfl, hb2⟩; have HT2 := Lib.hid ((HT1.out.below (bel_al0 (Below.refl _ _) _)).below hb2); have hp2 := HT2.out.1) | (at_len; refine wpl_len rfl _ 97 26 rfl Try.underlying97 rfl HT2.out.2 ?_))
        go_ret
        have hbb : Below w.heap.size w w2 := by (repeat (first | (with_reducible exact Below.refl _ _) | (with_reducible assumption) | (with_reducible refine bel_al0 ?_ _) | (with_reducible refine bel_set ?_ (by first | (simp; done) | (simp; omega)) _) | (with_reducible refine bel_dr ?_) | (with_reducible refine bel_drn ?_ _) | (with_reducible refine bel_tr ?_ (by assumption))))
        exact ⟨rfl, H.out.below hbb, But.of_below hbb⟩
      · obtain rfl : x = 0 := by simpa [hlen] using hx'
        obtain rfl : L' = mput L n ⟨n, t, i⟩ := by simpa using hL'
        clear hx' hL'
        have g1 : decide ((40 : Int) ≤ L.length) = false := by simp; omega
        clear hlen
        go_enter Try.func20, Try.ntmps20
        go_wp2_with (first | (go_at_call 22; refine (HG.out _ HT.out).mono ?_; rintro e w1 ⟨rfl, hb1⟩; obtain ⟨hc1, hf1⟩ := bcell hb1; have ht1 := HT.out.below hb1; have hp1 := ht1.1; have HT1 := Lib.hid ht1; clear ht1; have hz1 : w.heap.size < w1.heap.size := (by have := hb1.size; simp at this; omega)) | (go_at_call 74; refine (ok_yes p m _ (cell_al hp1 _)).mono ?_; rintro e w' ⟨rfl, rfl⟩) | (go_at_call 41; refine (HN.out _).mono ?_; rintro e w2 ⟨rfl, hb2⟩; obtain ⟨hc2, hf2⟩ := bcell hb2; have HT2 := Lib.hid ((HT1.out.below (bel_al0 (Below.refl _ _) _)).below hb2); have hp2 := HT2.out.1; have hz2 : w1.heap.size < w2.heap.size := (by have := hb2.size; simp at this; omega)) | (at_len; refine wpl_len rfl _ 97 26 rfl Try.underlying97 rfl HT2.out.2 ?_))
        go_still_tail 7, (by kernel_rfl)
        go_wp2_with (at_mapUpdate; refine wpl_store (R := refIs) rfl _ _ _ 97 26 rfl keyS refs_onCells Try.underlying97 rfl n rfl _ rfl (HT2.out.below (bel_dr (Below.refl _ _))).2 (v := ⟨n, t, i⟩) rfl ?_; intro w3 hm3 hg3 hz3; clear hz3)
        go_ret
        have hbb : Below w.heap.size w w2.drew := by (repeat (first | (with_reducible exact Below.refl _ _) | (with_reducible assumption) | (with_reducible refine bel_al0 ?_ _) | (with_reducible refine bel_set ?_ (by first | (simp; done) | (simp; omega)) _) | (with_reducible refine bel_dr ?_) | (with_reducible refine bel_drn ?_ _) | (with_reducible refine bel_tr ?_ (by assumption))))
        have hbut := (But.of_below (m := m) hbb).trans (But.of_grown hg3)
        exact ⟨rfl, ⟨hbut.cell (p := ⟨p, 0, none⟩) hlt H.out.ne ▸ hc, hm3⟩, hbut⟩
end Go.Proofs.Ytehneliphhgegaa
