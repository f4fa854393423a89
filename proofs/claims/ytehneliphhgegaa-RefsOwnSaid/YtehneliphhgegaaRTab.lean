/- The document's table of refs: how it lies in memory; At, Get: walked once. -/
import Derived.Test.YtehneliphhgegaaAllC
set_option linter.unusedVariables false
set_option linter.unusedSimpArgs false
set_option maxRecDepth 100000
namespace Go.Proofs.Ytehneliphhgegaa
open Go.RowKit Go.Apo

/-- the document's table behind a pointer: a row of its own from B on -/
structure RTab (B : Nat) (w : World) (x : Nat) (R : List RefD) : Prop where
  lo : B ≤ x
  ex : ∃ A k, Blk w x #[.slice A R.length k] 63 ∧ R.length ≤ k ∧ (A = none → R = [] ∧ k = 0) ∧ (R ≠ [] → ∃ g cs, A = some ⟨g, 0, none⟩ ∧ B ≤ g ∧ Blk w g cs 26 ∧ cs.toList.take (3 * R.length) = refCells R)
theorem refCells_at {R : List RefD} {j : Nat} {r : RefD} (h : R[j]? = some r) : (refCells R)[j * 3]? = some (.string r.name) ∧ (refCells R)[j * 3 + 1]? = some (.bool r.tag) ∧ (refCells R)[j * 3 + 2]? = some (.int .u64 r.id) := by
  induction R generalizing j with
  | nil => simp at h
  | cons a R ih =>
    have e : refCells (a :: R) = refC a ++ refCells R := rfl
    cases j with
    | zero =>
      simp only [List.getElem?_cons_zero, Option.some.injEq] at h
      subst h
      rw [e]
      exact ⟨rfl, rfl, rfl⟩
    | succ j =>
      have h' : R[j]? = some r := by simpa using h
      obtain ⟨h1, h2, h3⟩ := ih h'
      have e3 : (refC a).length = 3 := rfl
      rw [e]
      refine ⟨?_, ?_, ?_⟩
      · rw [List.getElem?_append_right (by rw [e3]; omega), e3, show (j + 1) * 3 - 3 = j * 3 by omega]; exact h1
      · rw [List.getElem?_append_right (by rw [e3]; omega), e3, show (j + 1) * 3 + 1 - 3 = j * 3 + 1 by omega]; exact h2
      · rw [List.getElem?_append_right (by rw [e3]; omega), e3, show (j + 1) * 3 + 2 - 3 = j * 3 + 2 by omega]; exact h3
theorem RTab.below {B : Nat} {w w' : World} {x : Nat} {R : List RefD} (h : RTab B w x R) (hb : Below w.heap.size w w') : RTab B w' x R := by
  obtain ⟨A, k, h1, h2, h3, h4⟩ := h.ex
  refine ⟨h.lo, A, k, h1.below hb, h2, h3, fun hR => ?_⟩
  obtain ⟨g, cs, e, hg, hB, ht⟩ := h4 hR
  exact ⟨g, cs, e, hg, hB.below hb, ht⟩
theorem RTab.at_ {B : Nat} {w : World} {R : List RefD} {A : Option Addr} (hx : R ≠ [] → ∃ g cs, A = some ⟨g, 0, none⟩ ∧ B ≤ g ∧ Blk w g cs 26 ∧ cs.toList.take (3 * R.length) = refCells R) {j : Nat} {r : RefD} (h : R[j]? = some r) :
    ∃ g, A = some ⟨g, 0, none⟩ ∧ B ≤ g ∧ w.cell? ⟨g, j * 3, none⟩ = some (.string r.name) ∧ w.cell? ⟨g, j * 3 + 1, none⟩ = some (.bool r.tag) ∧ w.cell? ⟨g, j * 3 + 2, none⟩ = some (.int .u64 r.id) ∧ (∀ q, w.frozen? ⟨g, q, none⟩ = false) := by
  have hne : R ≠ [] := by rintro rfl; simp at h
  obtain ⟨g, cs, e, hg, hB, ht⟩ := hx hne
  obtain ⟨h1, h2, h3⟩ := refCells_at h
  rw [← ht] at h1 h2 h3
  have up : ∀ {q : Nat} {u : Value}, (cs.toList.take (3 * R.length))[q]? = some u → cs[q]? = some u := fun {q u} hq => by
    rw [List.getElem?_take] at hq
    split at hq
    · rwa [Array.getElem?_toList] at hq
    · cases hq
  exact ⟨g, e, hg, hB.cell (up h1), hB.cell (up h2), hB.cell (up h3), hB.frozen⟩
/-- a ref's place -/
def rAtR (R : List RefD) (s : ByteArray) : Int := match R.findIdx? (fun c => decide (c.name = s)) with
  | some k => k
  | none => -1
theorem rAtR_some {R : List RefD} {s : ByteArray} {k : Nat} (h1 : ∀ (j : Nat) (c : RefD), j < k → R[j]? = some c → c.name ≠ s) {c : RefD} (h2 : R[k]? = some c) (h3 : c.name = s) : rAtR R s = k := by
  unfold rAtR
  have : R.findIdx? (fun c => decide (c.name = s)) = some k := by
    rw [List.findIdx?_eq_some_iff_getElem]
    obtain ⟨hk, hc⟩ := List.getElem?_eq_some_iff.1 h2
    refine ⟨hk, by rw [hc]; simpa using h3, fun j hj => ?_⟩
    have := h1 j R[j] hj (List.getElem?_eq_getElem _)
    simpa using this
  rw [this]
theorem rAtR_none {R : List RefD} {s : ByteArray} (h : ∀ (j : Nat) (c : RefD), R[j]? = some c → c.name ≠ s) : rAtR R s = -1 := by
  unfold rAtR
  have : R.findIdx? (fun c => decide (c.name = s)) = none := by
    rw [List.findIdx?_eq_none_iff]
    intro c hc
    obtain ⟨j, hj⟩ := List.mem_iff_getElem?.1 hc
    have := h j c hj
    simpa using this
  rw [this]
def rFindR (R : List RefD) (s : ByteArray) : Option RefD := R.find? (fun c => decide (c.name = s))
theorem rAtR_cases (R : List RefD) (s : ByteArray) : (rAtR R s = -1 ∧ rFindR R s = none) ∨ ∃ (k : Nat) (c : RefD), rAtR R s = k ∧ R[k]? = some c ∧ c.name = s ∧ rFindR R s = some c := by
  unfold rAtR rFindR
  cases h : R.findIdx? (fun c => decide (c.name = s)) with
  | none =>
    refine Or.inl ⟨rfl, ?_⟩
    rw [List.findIdx?_eq_none_iff] at h
    rw [List.find?_eq_none]
    intro c hc; simp [h c hc]
  | some k =>
    refine Or.inr ⟨k, ?_⟩
    rw [List.findIdx?_eq_some_iff_getElem] at h
    obtain ⟨hk, h1, h2⟩ := h
    refine ⟨R[k], rfl, List.getElem?_eq_getElem hk, by simpa using h1, ?_⟩
    rw [List.find?_eq_some_iff_getElem]
    exact ⟨h1, k, hk, rfl, fun j hj => by have := h2 j hj; simpa using this⟩
theorem tat_calls (B : Nat) (w : World) (x : Nat) (R : List RefD) (h : RTab B w x R) (hR : R.length ≤ 1000000) (s : ByteArray) :
    Calls Try.prog 80 #[.pointer (some ⟨x, 0, none⟩), .string s] w fun e w' => e = .returned (.int .i64 (rAtR R s)) ∧ Below w.heap.size w w' := by
  obtain ⟨A, k, hblk, _, _, hrow⟩ := h.ex
  have hc := hblk.one.1; clear hblk
  obtain ⟨n, hn⟩ : ∃ n, n = R.length := ⟨_, rfl⟩
  have HROW := Lib.hid hrow; clear hrow
  rw [← hn] at hc hR
  have HN := Lib.hid hn; clear hn h
  go_enter Try.func80, Try.ntmps80
  go_wp2
  go_loopw [12, 5, 6] (fun v _ _ wr => ∃ j : Nat, j ≤ n ∧ v = .int .i64 j ∧ Hid (∀ q c, q < j → R[q]? = some c → c.name ≠ s) ∧ Below w.heap.size w wr) (fun v _ _ _ => n - (intOf v).toNat)
  case atStart => exact ⟨0, Nat.zero_le _, rfl, fun q _ hq => absurd hq (Nat.not_lt_zero _), by (repeat (first | (with_reducible exact Below.refl _ _) | (with_reducible assumption) | (with_reducible refine bel_al0 ?_ _) | (with_reducible refine bel_set ?_ (by first | (simp; done) | (simp; omega)) _) | (with_reducible refine bel_dr ?_) | (with_reducible refine bel_drn ?_ _) | (with_reducible refine bel_tr ?_ (by assumption))))⟩
  case round =>
    obtain ⟨j, hj, rfl, hok, hB⟩ := hrel
    by_cases hlt : j < n
    · obtain ⟨c, hcj⟩ : ∃ c, R[j]? = some c := ⟨_, List.getElem?_eq_getElem (by rw [← HN.out]; exact hlt)⟩
      obtain ⟨g, rfl, _, c0, c1, c2, _⟩ := RTab.at_ HROW.out hcj
      replace c0 := cell_bel c0 hB
      replace c1 := cell_bel c1 hB
      replace c2 := cell_bel c2 hB
      have HC := Lib.hid hcj; clear hcj
      by_cases hi : c.name = s
      · have hf := rAtR_some hok.out HC.out hi
        have HF := Lib.hid hf; clear hf
        have g1 : (c.name.toList == s.toList) = true := by rw [text_beq]; simpa using hi
        clear hi
        go_wp2
        go_ret
        exact ⟨by rw [HF.out]; rfl, by (repeat (first | (with_reducible exact Below.refl _ _) | (with_reducible assumption) | (with_reducible refine bel_al0 ?_ _) | (with_reducible refine bel_set ?_ (by first | (simp; done) | (simp; omega)) _) | (with_reducible refine bel_dr ?_) | (with_reducible refine bel_drn ?_ _) | (with_reducible refine bel_tr ?_ (by assumption))))⟩
      · have g1 := text_ne hi
        go_wp2
        go_roundw
        case rel =>
          refine ⟨j + 1, by omega, by go_num, fun q c' hq hq' => ?_, by (repeat (first | (with_reducible exact Below.refl _ _) | (with_reducible assumption) | (with_reducible refine bel_al0 ?_ _) | (with_reducible refine bel_set ?_ (by first | (simp; done) | (simp; omega)) _) | (with_reducible refine bel_dr ?_) | (with_reducible refine bel_drn ?_ _) | (with_reducible refine bel_tr ?_ (by assumption))))⟩
          rcases Nat.lt_or_ge q j with h' | h'
          · exact hok q c' h' hq'
          · obtain rfl : q = j := by omega
            rw [HC.out] at hq'; cases hq'; exact hi
        case measure => simp [intOf]; omega
    · have hf : rAtR R s = -1 := rAtR_none (fun q c hq => hok q c (by have := (List.getElem?_eq_some_iff.1 hq).1; have := HN.out; omega) hq)
      have HF := Lib.hid hf; clear hf
      go_wp2
      go_ret
      exact ⟨by rw [HF.out]; rfl, hB⟩
theorem tget_calls (B : Nat) (w : World) (x : Nat) (R : List RefD) (h : RTab B w x R) (hR : R.length ≤ 1000000) (s : ByteArray) :
    Calls Try.prog 40 #[.pointer (some ⟨x, 0, none⟩), .string s] w fun e w' => e = .returned (.tuple #[.agg #[.string ((rFindR R s).getD RefD.zero).name, .bool ((rFindR R s).getD RefD.zero).tag, .int .u64 ((rFindR R s).getD RefD.zero).id], .bool (rFindR R s).isSome]) ∧ Below w.heap.size w w' := by
  have HA := Lib.hid (fun W hW => tat_calls B W x R hW hR s)
  have hB := bel_al0 (Below.refl w.heap.size w) (.cells #[.string ⟨#[]⟩, .bool false, .int .u64 0] 26)
  have H := Lib.hid h; clear h
  rcases rAtR_cases R s with ⟨h1, h2⟩ | ⟨k, c, h1, h2, h3, h4⟩
  · rw [h1] at HA
    rw [h2]
    clear h1 h2
    go_enter Try.func40, Try.ntmps40
    go_wp2_with fail
    refine (HA.out _ (H.out.below hB)).mono ?_
    rintro e w1 ⟨rfl, hb1⟩
    have B0 := (blk_new w _ _).below hb1
    obtain ⟨x0, x1, x2, xf⟩ := B0.three
    clear B0
    go_wp2
    refine bodyPost_ret (v := .tuple #[.agg #[.string ⟨#[]⟩, .bool false, .int .u64 0], .bool false]) ?_ rfl ?_
    · simp [results, Try.results40, go_sem, x0, x1, x2]
    · exact ⟨rfl, by (repeat (first | (with_reducible exact Below.refl _ _) | (with_reducible assumption) | (with_reducible refine bel_al0 ?_ _) | (with_reducible refine bel_set ?_ (by first | (simp; done) | (simp; omega)) _) | (with_reducible refine bel_dr ?_) | (with_reducible refine bel_drn ?_ _) | (with_reducible refine bel_tr ?_ (by assumption))))⟩
  · rw [h1] at HA
    rw [h4]
    clear h1 h4
    go_enter Try.func40, Try.ntmps40
    go_wp2_with fail
    refine (HA.out _ (H.out.below hB)).mono ?_
    rintro e w1 ⟨rfl, hb1⟩
    have B0 := (blk_new w _ _).below hb1
    obtain ⟨x0, x1, x2, xf⟩ := B0.three
    clear B0
    have hB1 := bel_tr hB hb1
    obtain ⟨A, q, hblk, _, _, hrow⟩ := H.out.ex
    have hc := hblk.one.1; clear hblk
    obtain ⟨g, rfl, _, c0, c1, c2, _⟩ := RTab.at_ hrow h2
    replace hc := cell_bel hc hB1
    replace c0 := cell_bel c0 hB1
    replace c1 := cell_bel c1 hB1
    replace c2 := cell_bel c2 hB1
    have hlt : k < R.length := (List.getElem?_eq_some_iff.1 h2).1
    obtain ⟨n, hn⟩ : ∃ n, n = R.length := ⟨_, rfl⟩
    rw [← hn] at hc hlt hR
    clear hn hrow h3 h2
    go_wp2
    refine bodyPost_ret (v := .tuple #[.agg #[.string c.name, .bool c.tag, .int .u64 c.id], .bool true]) ?_ rfl ?_
    · simp [results, Try.results40, go_sem, x0, x1, x2]
    · refine ⟨rfl, ?_⟩
      clear hB1
      (repeat (first | (with_reducible exact Below.refl _ _) | (with_reducible assumption) | (with_reducible refine bel_al0 ?_ _) | (with_reducible refine bel_set ?_ (by first | (simp; done) | (simp; omega)) _) | (with_reducible refine bel_dr ?_) | (with_reducible refine bel_drn ?_ _) | (with_reducible refine bel_tr ?_ (by assumption))))
end Go.Proofs.Ytehneliphhgegaa
