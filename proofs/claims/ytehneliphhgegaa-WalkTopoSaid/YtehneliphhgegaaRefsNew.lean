/- Dropping a ref, and a new table of some: each function walked once. -/
import Derived.Test.YtehneliphhgegaaRefsSet
set_option linter.unusedVariables false
set_option linter.unusedSimpArgs false
set_option maxRecDepth 100000
namespace Go.Proofs.Ytehneliphhgegaa
open Go.RowKit Go.Apo

theorem drop_calls (p m : Nat) (w : World) (L : List (ByteArray × RefD)) (h : TableAt w p m L) (s : ByteArray) :
    Calls Try.prog 23 #[.pointer (some ⟨p, 0, none⟩), .string s] w (Made w p m L (dropE L s) (mdel L s)) := by
  have hc := h.1
  have hlt : p < w.heap.size := cell_lt hc
  have HNE := Lib.hid h.ne
  obtain ⟨x, hx⟩ : ∃ x, x = dropE L s := ⟨_, rfl⟩
  obtain ⟨L', hL⟩ : ∃ L', L' = mdel L s := ⟨_, rfl⟩
  rw [← hx, ← hL]
  have G := get_calls p m w L h s
  obtain ⟨b, hb⟩ : ∃ b, b = (mget L s).isSome := ⟨_, rfl⟩
  obtain ⟨r, hr⟩ : ∃ r, r = rGet L s := ⟨_, rfl⟩
  rw [← hb, ← hr] at G
  have hx' : x = if b then 0 else 111 := by rw [hx, hb]; rfl
  clear hr
  obtain ⟨rn, rt, ri⟩ := r
  simp only at G
  have HG := Lib.hid G; clear G
  have H := Lib.hid h; clear h
  cases b with
  | false =>
    obtain rfl : x = 111 := by simpa using hx'
    obtain rfl : L' = L := by
      rw [hL]; apply mdel_none
      cases hg : mget L s with
      | none => rfl
      | some v => rw [hg] at hb; cases hb
    clear hx' hL hx hb
    go_enter Try.func23, Try.ntmps23
    go_wp2_with (go_at_call 22; refine HG.out.mono ?_; rintro e w1 ⟨rfl, hb1⟩)
    go_ret
    have hbb : Below w.heap.size w (w1.alloc (.cells #[.string rn, .bool rt, .int .u64 ri] 26)) := by (repeat (first | (with_reducible exact Below.refl _ _) | (with_reducible assumption) | (with_reducible refine bel_al0 ?_ _) | (with_reducible refine bel_set ?_ (by first | (simp; done) | (simp; omega)) _) | (with_reducible refine bel_dr ?_) | (with_reducible refine bel_drn ?_ _) | (with_reducible refine bel_tr ?_ (by assumption))))
    exact ⟨rfl, H.out.below hbb, But.of_below hbb⟩
  | true =>
    obtain rfl : x = 0 := by simpa using hx'
    clear hx' hx hb
    have HL := Lib.hid hL; clear hL
    go_enter Try.func23, Try.ntmps23
    go_wp2_with (first | (go_at_call 22; refine HG.out.mono ?_; rintro e w1 ⟨rfl, hb1⟩; have HT1 := Lib.hid (H.out.below hb1); have hp1 := HT1.out.1; have hz1 := hb1.size; have hlt1 := cell_lt hp1) | (at_delete; refine wpl_strike (R := refIs) rfl _ _ 97 26 rfl keyS refs_onCells Try.underlying97 rfl s rfl (HT1.out.below (bel_al0 (Below.refl _ _) _)).2 ?_; intro w3 hm3 hg3 hz3; clear hz3))
    go_ret
    have hbb : Below w.heap.size w (w1.alloc (.cells #[.string rn, .bool rt, .int .u64 ri] 26)) := by (repeat (first | (with_reducible exact Below.refl _ _) | (with_reducible assumption) | (with_reducible refine bel_al0 ?_ _) | (with_reducible refine bel_set ?_ (by first | (simp; done) | (simp; omega)) _) | (with_reducible refine bel_dr ?_) | (with_reducible refine bel_drn ?_ _) | (with_reducible refine bel_tr ?_ (by assumption))))
    have hbut := (But.of_below (m := m) hbb).trans (But.of_grown hg3)
    exact ⟨rfl, ⟨hbut.cell (p := ⟨p, 0, none⟩) hlt HNE.out ▸ hc, HL.out ▸ hm3⟩, hbut⟩

/-- a slice of refs that is read -/
structure RefRow (w : World) (A : Option Addr) (n : Nat) (l : List RefD) : Prop where
  len : l.length = n
  le : n * 24 ≤ 140737488351232
  at_ : 0 < n → ∃ b off, A = some ⟨b, off, none⟩ ∧ ∀ j r, l[j]? = some r → w.cell? ⟨b, off + j * 3, none⟩ = some (.string r.name) ∧ w.cell? ⟨b, off + j * 3 + 1, none⟩ = some (.bool r.tag) ∧ w.cell? ⟨b, off + j * 3 + 2, none⟩ = some (.int .u64 r.id)

theorem new_calls (w : World) (A : Option Addr) (n c : Nat) (l : List RefD) (h : RefRow w A n l) :
    Calls Try.prog 19 #[.slice A n c] w fun e w' => ∃ p m, e = .returned (.pointer (some ⟨p, 0, none⟩)) ∧ TableAt w' p m (l.foldl makeL []) ∧ w.heap.size ≤ m ∧ w.heap.size ≤ p ∧ Below w.heap.size w w' := by
  have hmm := @run_makeMap Try.prog
  have hn := h.le
  go_enter Try.func19, Try.ntmps19
  go_wp2
  go_loopw [14, 6] (fun i _ wr => ∃ k : Nat, k ≤ n ∧ i = .int .i64 k ∧ Hid (TableAt wr (w.heap.size + 1) w.heap.size ((l.take k).foldl makeL [])) ∧ Below w.heap.size w wr) (fun i _ _ => n - (intOf i).toNat)
  case atStart =>
    refine ⟨0, Nat.zero_le _, rfl, ?_, by (repeat (first | (with_reducible exact Below.refl _ _) | (with_reducible assumption) | (with_reducible refine bel_al0 ?_ _) | (with_reducible refine bel_set ?_ (by first | (simp; done) | (simp; omega)) _) | (with_reducible refine bel_dr ?_) | (with_reducible refine bel_drn ?_ _) | (with_reducible refine bel_tr ?_ (by assumption))))⟩
    have h0 := mapIs_made Value.string refIs w
    refine ⟨?_, h0.below refs_onCells (by (repeat (first | (with_reducible exact Below.refl _ _) | (with_reducible assumption) | (with_reducible refine bel_al0 ?_ _) | (with_reducible refine bel_set ?_ (by first | (simp; done) | (simp; omega)) _) | (with_reducible refine bel_dr ?_) | (with_reducible refine bel_drn ?_ _) | (with_reducible refine bel_tr ?_ (by assumption)))))⟩
    simp
  case round =>
    obtain ⟨k, hk, rfl, ht, hB⟩ := hrel
    by_cases hlt : k < n
    · obtain ⟨b, off, rfl, hcell⟩ := h.at_ (by omega)
      have hlk : l[k]? = some (l[k]'(by rw [h.len]; exact hlt)) := List.getElem?_eq_getElem _
      obtain ⟨r, hr⟩ : ∃ r, r = l[k]'(by rw [h.len]; exact hlt) := ⟨_, rfl⟩
      rw [← hr] at hlk
      have hstep : (l.take (k + 1)).foldl makeL [] = makeL ((l.take k).foldl makeL []) r := by
        rw [List.take_add_one, hlk]; simp
      have HS := Lib.hid hstep; clear hstep hr
      obtain ⟨c0, c1, c2⟩ := hcell k r hlk
      replace c0 := cell_bel c0 hB
      replace c1 := cell_bel c1 hB
      replace c2 := cell_bel c2 hB
      obtain ⟨rn, rt, ri⟩ := r
      simp only at c0 c1 c2
      clear hcell hlk
      have HT1 := fun o => Lib.hid (ht.out.below (bel_al0 (Below.refl wr.heap.size wr) o))
      go_wp2_with (go_at_call 20; refine (make_calls _ _ _ _ (HT1 _).out _ _ _).mono ?_; rintro e w2 ⟨rfl, ht2, hb2⟩; have HT2 := Lib.hid ht2; clear ht2)
      go_roundw
      case rel => exact ⟨k + 1, by omega, by go_num, by rw [HS.out]; exact HT2.out, But.below (bel_al0 hB _) (Nat.le_refl _) (Nat.le_refl _) hb2⟩
      case measure => simp [intOf]; omega
    · have hk' : k = n := by omega
      have e1 : l.take k = l := by rw [List.take_of_length_le]; rw [h.len]; omega
      rw [e1] at ht
      go_wp2
      go_ret
      exact ⟨_, _, rfl, ht.out, Nat.le_refl _, Nat.le_succ _, hB⟩
end Go.Proofs.Ytehneliphhgegaa
