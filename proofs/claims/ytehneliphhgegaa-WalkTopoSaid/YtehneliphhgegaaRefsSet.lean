/- Setting and dropping refs, and a new table: each function walked once. -/
import Derived.Test.YtehneliphhgegaaRefsMake
set_option linter.unusedVariables false
set_option linter.unusedSimpArgs false
set_option maxRecDepth 100000
namespace Go.Proofs.Ytehneliphhgegaa
open Go.RowKit Go.Apo

def setE (L : List (ByteArray × RefD)) (s : ByteArray) (old : Int) : Int :=
  if (mget L s).isSome then (if (rGet L s).tag then 114 else if (rGet L s).id = old then 0 else 113) else 111
def setL (L : List (ByteArray × RefD)) (s : ByteArray) (old id : Int) : List (ByteArray × RefD) :=
  if setE L s old = 0 then mput L s ⟨(rGet L s).name, (rGet L s).tag, id⟩ else L
def dropE (L : List (ByteArray × RefD)) (s : ByteArray) : Int := if (mget L s).isSome then 0 else 111

theorem set_calls (p m : Nat) (w : World) (L : List (ByteArray × RefD)) (h : TableAt w p m L) (s : ByteArray) (old id : Int) :
    Calls Try.prog 21 #[.pointer (some ⟨p, 0, none⟩), .string s, .int .u64 old, .int .u64 id] w (Made w p m L (setE L s old) (setL L s old id)) := by
  have hc := h.1
  have hlt : p < w.heap.size := cell_lt hc
  obtain ⟨x, hx⟩ : ∃ x, x = setE L s old := ⟨_, rfl⟩
  obtain ⟨L', hL⟩ : ∃ L', L' = setL L s old id := ⟨_, rfl⟩
  rw [← hx, ← hL]
  have G := get_calls p m w L h s
  obtain ⟨b, hb⟩ : ∃ b, b = (mget L s).isSome := ⟨_, rfl⟩
  obtain ⟨r, hr⟩ : ∃ r, r = rGet L s := ⟨_, rfl⟩
  rw [← hb, ← hr] at G
  have hx' : x = if b then (if r.tag then 114 else if r.id = old then 0 else 113) else 111 := by rw [hx, hb, hr]; rfl
  have hL' : L' = if x = 0 then mput L s ⟨r.name, r.tag, id⟩ else L := by rw [hL, hx, hr]; rfl
  clear hx hL hb hr
  obtain ⟨rn, rt, ri⟩ := r
  simp only at hx' hL' G
  have HG := Lib.hid G; clear G
  have H := Lib.hid h; clear h
  cases b with
  | false =>
    obtain rfl : x = 111 := by simpa using hx'
    obtain rfl : L' = L := by simpa using hL'
    clear hx' hL'
    go_enter Try.func21, Try.ntmps21
    go_wp2_with (go_at_call 22; refine HG.out.mono ?_; rintro e w1 ⟨rfl, hb1⟩)
    go_ret
    have hbb : Below w.heap.size w (w1.alloc (.cells #[.string rn, .bool rt, .int .u64 ri] 26)) := by (repeat (first | (with_reducible exact Below.refl _ _) | (with_reducible assumption) | (with_reducible refine bel_al0 ?_ _) | (with_reducible refine bel_set ?_ (by first | (simp; done) | (simp; omega)) _) | (with_reducible refine bel_dr ?_) | (with_reducible refine bel_drn ?_ _) | (with_reducible refine bel_tr ?_ (by assumption))))
    exact ⟨rfl, H.out.below hbb, But.of_below hbb⟩
  | true =>
    cases rt with
    | true =>
      obtain rfl : x = 114 := by simpa using hx'
      obtain rfl : L' = L := by simpa using hL'
      clear hx' hL'
      go_enter Try.func21, Try.ntmps21
      go_wp2_with (go_at_call 22; refine HG.out.mono ?_; rintro e w1 ⟨rfl, hb1⟩)
      go_ret
      have hbb : Below w.heap.size w (w1.alloc (.cells #[.string rn, .bool true, .int .u64 ri] 26)) := by (repeat (first | (with_reducible exact Below.refl _ _) | (with_reducible assumption) | (with_reducible refine bel_al0 ?_ _) | (with_reducible refine bel_set ?_ (by first | (simp; done) | (simp; omega)) _) | (with_reducible refine bel_dr ?_) | (with_reducible refine bel_drn ?_ _) | (with_reducible refine bel_tr ?_ (by assumption))))
      exact ⟨rfl, H.out.below hbb, But.of_below hbb⟩
    | false =>
      by_cases hid : ri = old
      · subst hid
        obtain rfl : x = 0 := by simpa using hx'
        obtain rfl : L' = mput L s ⟨rn, false, id⟩ := by simpa using hL'
        clear hx' hL'
        have hne := H.out.ne
        have HNE := Lib.hid hne; clear hne
        go_enter Try.func21, Try.ntmps21
        go_wp2_with (go_at_call 22; refine HG.out.mono ?_; rintro e w1 ⟨rfl, hb1⟩; have HT1 := Lib.hid (H.out.below hb1); have hp1 := HT1.out.1; have hz1 := hb1.size; have hlt1 := cell_lt hp1)

        generalize hW : w1.alloc (.cells #[.string rn, .bool false, .int .u64 id] 26) = W
        have hbW : Below w1.heap.size w1 W := by rw [← hW]; (repeat (first | (with_reducible exact Below.refl _ _) | (with_reducible assumption) | (with_reducible refine bel_al0 ?_ _) | (with_reducible refine bel_set ?_ (by first | (simp; done) | (simp; omega)) _) | (with_reducible refine bel_dr ?_) | (with_reducible refine bel_drn ?_ _) | (with_reducible refine bel_tr ?_ (by assumption))))
        have hpW := cell_bel hp1 hbW
        have c0 : W.cell? ⟨w1.heap.size, 0, none⟩ = some (.string rn) := by rw [← hW]; exact cell_at_new _ _ _ _ rfl
        have c1 : W.cell? ⟨w1.heap.size, 1, none⟩ = some (.bool false) := by rw [← hW]; exact cell_at_new _ _ _ _ rfl
        have c2 : W.cell? ⟨w1.heap.size, 2, none⟩ = some (.int .u64 id) := by rw [← hW]; exact cell_at_new _ _ _ _ rfl
        clear hW
        go_still_tail 6, (by kernel_rfl)
        go_wp2_with (at_mapUpdate; refine wpl_store (R := refIs) rfl _ _ _ 97 26 rfl keyS refs_onCells Try.underlying97 rfl s rfl _ rfl (HT1.out.below (bel_dr hbW)).2 (v := ⟨rn, false, id⟩) rfl ?_; intro w3 hm3 hg3 hz3; clear hz3)
        go_ret
        have hbb : Below w.heap.size w W.drew := bel_dr (bel_tr hb1 hbW)
        have hbut := (But.of_below (m := m) hbb).trans (But.of_grown hg3)
        exact ⟨rfl, ⟨hbut.cell (p := ⟨p, 0, none⟩) hlt HNE.out ▸ hc, hm3⟩, hbut⟩
      · obtain rfl : x = 113 := by simpa [hid] using hx'
        obtain rfl : L' = L := by simpa using hL'
        clear hx' hL'
        have g1 : (ri == old) = false := by simpa using hid
        have g2 : (!(ri == old)) = true := by simpa using hid
        clear hid
        go_enter Try.func21, Try.ntmps21
        go_wp2_with (go_at_call 22; refine HG.out.mono ?_; rintro e w1 ⟨rfl, hb1⟩)
        go_ret
        have hbb : Below w.heap.size w (w1.alloc (.cells #[.string rn, .bool false, .int .u64 ri] 26)) := by (repeat (first | (with_reducible exact Below.refl _ _) | (with_reducible assumption) | (with_reducible refine bel_al0 ?_ _) | (with_reducible refine bel_set ?_ (by first | (simp; done) | (simp; omega)) _) | (with_reducible refine bel_dr ?_) | (with_reducible refine bel_drn ?_ _) | (with_reducible refine bel_tr ?_ (by assumption))))
        exact ⟨rfl, H.out.below hbb, But.of_below hbb⟩
end Go.Proofs.Ytehneliphhgegaa
