/- Whether a command is small; whether it writes: the program's word and the document's, each walked once. Written by gen-dlawc.py. -/
import Derived.Test.YtehneliphhgegaaDoorDCheckV
set_option linter.unusedVariables false
set_option linter.unusedSimpArgs false
set_option maxRecDepth 100000
namespace Go.Proofs.YtehneliphhgegaaDoor
open Go.RowKit Go.Apo

def wrV (k : Int) : Bool := !([3, 4, 16, 17, 18, 20] : List Int).contains k
def lightV (nm ot ky vl : ByteArray) : Bool := decide ((nm.size : Int) ≤ 60) && (decide ((ot.size : Int) ≤ 60) && (decide ((ky.size : Int) ≤ 60) && decide ((vl.size : Int) ≤ 250)))
theorem wr_no {k : Int} (h : ¬ k = 3 ∧ ¬ k = 4 ∧ ¬ k = 16 ∧ ¬ k = 17 ∧ ¬ k = 18 ∧ ¬ k = 20) : wrV k = true := by
  obtain ⟨h1, h2, h3, h4, h5, h6⟩ := h
  simp [wrV, h1, h2, h3, h4, h5, h6]
theorem lightV_out {nm ot ky vl : ByteArray} (h : lightV nm ot ky vl = true) : nm.size ≤ 60 ∧ ot.size ≤ 60 ∧ ky.size ≤ 60 ∧ vl.size ≤ 250 := by
  simp only [lightV, Bool.and_eq_true, decide_eq_true_eq] at h
  omega
theorem light_calls (k : Int) (nm ot ky vl : ByteArray) (n : Int) (w : World) : Calls Tryd.prog 16 #[.agg #[.int .i64 k, .string nm, .string ot, .string ky, .string vl, .int .i64 n]] w fun e w' => e = .returned (.bool (lightV nm ot ky vl)) ∧ Below w.heap.size w w' := by
  unfold lightV
  obtain ⟨b1, hb1⟩ : ∃ b, b = decide ((nm.size : Int) ≤ 60) := ⟨_, rfl⟩
  obtain ⟨b2, hb2⟩ : ∃ b, b = decide ((ot.size : Int) ≤ 60) := ⟨_, rfl⟩
  obtain ⟨b3, hb3⟩ : ∃ b, b = decide ((ky.size : Int) ≤ 60) := ⟨_, rfl⟩
  obtain ⟨b4, hb4⟩ : ∃ b, b = decide ((vl.size : Int) ≤ 250) := ⟨_, rfl⟩
  rw [← hb1, ← hb2, ← hb3, ← hb4]
  replace hb1 := hb1.symm
  replace hb2 := hb2.symm
  replace hb3 := hb3.symm
  replace hb4 := hb4.symm
  cases b1 with
  | false =>
    go_enter Tryd.func16, Tryd.ntmps16
    go_wp2
    go_ret
    exact ⟨rfl, by (repeat (first | (with_reducible exact Below.refl _ _) | (with_reducible assumption) | (with_reducible refine bel_al0 ?_ _) | (with_reducible refine bel_set ?_ (by first | (simp; done) | (simp; omega)) _) | (with_reducible refine bel_dr ?_) | (with_reducible refine bel_drn ?_ _) | (with_reducible refine bel_tr ?_ (by assumption))))⟩
  | true =>
    cases b2 with
    | false =>
      go_enter Tryd.func16, Tryd.ntmps16
      go_wp2
      go_ret
      exact ⟨rfl, by (repeat (first | (with_reducible exact Below.refl _ _) | (with_reducible assumption) | (with_reducible refine bel_al0 ?_ _) | (with_reducible refine bel_set ?_ (by first | (simp; done) | (simp; omega)) _) | (with_reducible refine bel_dr ?_) | (with_reducible refine bel_drn ?_ _) | (with_reducible refine bel_tr ?_ (by assumption))))⟩
    | true =>
      cases b3 with
      | false =>
        go_enter Tryd.func16, Tryd.ntmps16
        go_wp2
        go_ret
        exact ⟨rfl, by (repeat (first | (with_reducible exact Below.refl _ _) | (with_reducible assumption) | (with_reducible refine bel_al0 ?_ _) | (with_reducible refine bel_set ?_ (by first | (simp; done) | (simp; omega)) _) | (with_reducible refine bel_dr ?_) | (with_reducible refine bel_drn ?_ _) | (with_reducible refine bel_tr ?_ (by assumption))))⟩
      | true =>
        cases b4 with
        | false =>
          go_enter Tryd.func16, Tryd.ntmps16
          go_wp2
          go_ret
          exact ⟨rfl, by (repeat (first | (with_reducible exact Below.refl _ _) | (with_reducible assumption) | (with_reducible refine bel_al0 ?_ _) | (with_reducible refine bel_set ?_ (by first | (simp; done) | (simp; omega)) _) | (with_reducible refine bel_dr ?_) | (with_reducible refine bel_drn ?_ _) | (with_reducible refine bel_tr ?_ (by assumption))))⟩
        | true =>
          go_enter Tryd.func16, Tryd.ntmps16
          go_wp2
          go_ret
          exact ⟨rfl, by (repeat (first | (with_reducible exact Below.refl _ _) | (with_reducible assumption) | (with_reducible refine bel_al0 ?_ _) | (with_reducible refine bel_set ?_ (by first | (simp; done) | (simp; omega)) _) | (with_reducible refine bel_dr ?_) | (with_reducible refine bel_drn ?_ _) | (with_reducible refine bel_tr ?_ (by assumption))))⟩
theorem cwrites_calls (k : Int) (nm ot ky vl : ByteArray) (n : Int) (w : World) : Calls Tryd.prog 19 #[.agg #[.int .i64 k, .string nm, .string ot, .string ky, .string vl, .int .i64 n]] w fun e w' => e = .returned (.bool (wrV k)) ∧ Below w.heap.size w w' := by
  by_cases h3 : k = 3
  · subst h3
    have e : wrV 3 = false := rfl
    rw [e]; clear e
    go_enter Tryd.func19, Tryd.ntmps19
    go_wp2
    go_ret
    exact ⟨rfl, by (repeat (first | (with_reducible exact Below.refl _ _) | (with_reducible assumption) | (with_reducible refine bel_al0 ?_ _) | (with_reducible refine bel_set ?_ (by first | (simp; done) | (simp; omega)) _) | (with_reducible refine bel_dr ?_) | (with_reducible refine bel_drn ?_ _) | (with_reducible refine bel_tr ?_ (by assumption))))⟩
  · by_cases h4 : k = 4
    · subst h4
      have e : wrV 4 = false := rfl
      rw [e]; clear e
      go_enter Tryd.func19, Tryd.ntmps19
      go_wp2
      go_ret
      exact ⟨rfl, by (repeat (first | (with_reducible exact Below.refl _ _) | (with_reducible assumption) | (with_reducible refine bel_al0 ?_ _) | (with_reducible refine bel_set ?_ (by first | (simp; done) | (simp; omega)) _) | (with_reducible refine bel_dr ?_) | (with_reducible refine bel_drn ?_ _) | (with_reducible refine bel_tr ?_ (by assumption))))⟩
    · by_cases h16 : k = 16
      · subst h16
        have e : wrV 16 = false := rfl
        rw [e]; clear e
        go_enter Tryd.func19, Tryd.ntmps19
        go_wp2
        go_ret
        exact ⟨rfl, by (repeat (first | (with_reducible exact Below.refl _ _) | (with_reducible assumption) | (with_reducible refine bel_al0 ?_ _) | (with_reducible refine bel_set ?_ (by first | (simp; done) | (simp; omega)) _) | (with_reducible refine bel_dr ?_) | (with_reducible refine bel_drn ?_ _) | (with_reducible refine bel_tr ?_ (by assumption))))⟩
      · by_cases h17 : k = 17
        · subst h17
          have e : wrV 17 = false := rfl
          rw [e]; clear e
          go_enter Tryd.func19, Tryd.ntmps19
          go_wp2
          go_ret
          exact ⟨rfl, by (repeat (first | (with_reducible exact Below.refl _ _) | (with_reducible assumption) | (with_reducible refine bel_al0 ?_ _) | (with_reducible refine bel_set ?_ (by first | (simp; done) | (simp; omega)) _) | (with_reducible refine bel_dr ?_) | (with_reducible refine bel_drn ?_ _) | (with_reducible refine bel_tr ?_ (by assumption))))⟩
        · by_cases h18 : k = 18
          · subst h18
            have e : wrV 18 = false := rfl
            rw [e]; clear e
            go_enter Tryd.func19, Tryd.ntmps19
            go_wp2
            go_ret
            exact ⟨rfl, by (repeat (first | (with_reducible exact Below.refl _ _) | (with_reducible assumption) | (with_reducible refine bel_al0 ?_ _) | (with_reducible refine bel_set ?_ (by first | (simp; done) | (simp; omega)) _) | (with_reducible refine bel_dr ?_) | (with_reducible refine bel_drn ?_ _) | (with_reducible refine bel_tr ?_ (by assumption))))⟩
          · by_cases h20 : k = 20
            · subst h20
              have e : wrV 20 = false := rfl
              rw [e]; clear e
              go_enter Tryd.func19, Tryd.ntmps19
              go_wp2
              go_ret
              exact ⟨rfl, by (repeat (first | (with_reducible exact Below.refl _ _) | (with_reducible assumption) | (with_reducible refine bel_al0 ?_ _) | (with_reducible refine bel_set ?_ (by first | (simp; done) | (simp; omega)) _) | (with_reducible refine bel_dr ?_) | (with_reducible refine bel_drn ?_ _) | (with_reducible refine bel_tr ?_ (by assumption))))⟩
            · rw [wr_no ⟨h3, h4, h16, h17, h18, h20⟩]
              have g3 : (k == 3) = false := by simpa using h3
              have f3 : (k != 3) = true := by simpa using h3
              have d3 : (!(k == 3)) = true := by rw [g3]; rfl
              have g4 : (k == 4) = false := by simpa using h4
              have f4 : (k != 4) = true := by simpa using h4
              have d4 : (!(k == 4)) = true := by rw [g4]; rfl
              have g16 : (k == 16) = false := by simpa using h16
              have f16 : (k != 16) = true := by simpa using h16
              have d16 : (!(k == 16)) = true := by rw [g16]; rfl
              have g17 : (k == 17) = false := by simpa using h17
              have f17 : (k != 17) = true := by simpa using h17
              have d17 : (!(k == 17)) = true := by rw [g17]; rfl
              have g18 : (k == 18) = false := by simpa using h18
              have f18 : (k != 18) = true := by simpa using h18
              have d18 : (!(k == 18)) = true := by rw [g18]; rfl
              have g20 : (k == 20) = false := by simpa using h20
              have f20 : (k != 20) = true := by simpa using h20
              have d20 : (!(k == 20)) = true := by rw [g20]; rfl
              clear h3 h4 h16 h17 h18 h20
              go_enter Tryd.func19, Tryd.ntmps19
              go_wp2
              go_ret
              exact ⟨rfl, by (repeat (first | (with_reducible exact Below.refl _ _) | (with_reducible assumption) | (with_reducible refine bel_al0 ?_ _) | (with_reducible refine bel_set ?_ (by first | (simp; done) | (simp; omega)) _) | (with_reducible refine bel_dr ?_) | (with_reducible refine bel_drn ?_ _) | (with_reducible refine bel_tr ?_ (by assumption))))⟩
theorem rwrites_calls (k : Int) (nm ot ky vl : ByteArray) (n : Int) (w : World) : Calls Tryd.prog 20 #[.agg #[.int .i64 k, .string nm, .string ot, .string ky, .string vl, .int .i64 n]] w fun e w' => e = .returned (.bool (wrV k)) ∧ Below w.heap.size w w' := by
  by_cases h3 : k = 3
  · subst h3
    have e : wrV 3 = false := rfl
    rw [e]; clear e
    go_enter Tryd.func20, Tryd.ntmps20
    go_wp2
    go_ret
    exact ⟨rfl, by (repeat (first | (with_reducible exact Below.refl _ _) | (with_reducible assumption) | (with_reducible refine bel_al0 ?_ _) | (with_reducible refine bel_set ?_ (by first | (simp; done) | (simp; omega)) _) | (with_reducible refine bel_dr ?_) | (with_reducible refine bel_drn ?_ _) | (with_reducible refine bel_tr ?_ (by assumption))))⟩
  · by_cases h4 : k = 4
    · subst h4
      have e : wrV 4 = false := rfl
      rw [e]; clear e
      go_enter Tryd.func20, Tryd.ntmps20
      go_wp2
      go_ret
      exact ⟨rfl, by (repeat (first | (with_reducible exact Below.refl _ _) | (with_reducible assumption) | (with_reducible refine bel_al0 ?_ _) | (with_reducible refine bel_set ?_ (by first | (simp; done) | (simp; omega)) _) | (with_reducible refine bel_dr ?_) | (with_reducible refine bel_drn ?_ _) | (with_reducible refine bel_tr ?_ (by assumption))))⟩
    · by_cases h16 : k = 16
      · subst h16
        have e : wrV 16 = false := rfl
        rw [e]; clear e
        go_enter Tryd.func20, Tryd.ntmps20
        go_wp2
        go_ret
        exact ⟨rfl, by (repeat (first | (with_reducible exact Below.refl _ _) | (with_reducible assumption) | (with_reducible refine bel_al0 ?_ _) | (with_reducible refine bel_set ?_ (by first | (simp; done) | (simp; omega)) _) | (with_reducible refine bel_dr ?_) | (with_reducible refine bel_drn ?_ _) | (with_reducible refine bel_tr ?_ (by assumption))))⟩
      · by_cases h17 : k = 17
        · subst h17
          have e : wrV 17 = false := rfl
          rw [e]; clear e
          go_enter Tryd.func20, Tryd.ntmps20
          go_wp2
          go_ret
          exact ⟨rfl, by (repeat (first | (with_reducible exact Below.refl _ _) | (with_reducible assumption) | (with_reducible refine bel_al0 ?_ _) | (with_reducible refine bel_set ?_ (by first | (simp; done) | (simp; omega)) _) | (with_reducible refine bel_dr ?_) | (with_reducible refine bel_drn ?_ _) | (with_reducible refine bel_tr ?_ (by assumption))))⟩
        · by_cases h18 : k = 18
          · subst h18
            have e : wrV 18 = false := rfl
            rw [e]; clear e
            go_enter Tryd.func20, Tryd.ntmps20
            go_wp2
            go_ret
            exact ⟨rfl, by (repeat (first | (with_reducible exact Below.refl _ _) | (with_reducible assumption) | (with_reducible refine bel_al0 ?_ _) | (with_reducible refine bel_set ?_ (by first | (simp; done) | (simp; omega)) _) | (with_reducible refine bel_dr ?_) | (with_reducible refine bel_drn ?_ _) | (with_reducible refine bel_tr ?_ (by assumption))))⟩
          · by_cases h20 : k = 20
            · subst h20
              have e : wrV 20 = false := rfl
              rw [e]; clear e
              go_enter Tryd.func20, Tryd.ntmps20
              go_wp2
              go_ret
              exact ⟨rfl, by (repeat (first | (with_reducible exact Below.refl _ _) | (with_reducible assumption) | (with_reducible refine bel_al0 ?_ _) | (with_reducible refine bel_set ?_ (by first | (simp; done) | (simp; omega)) _) | (with_reducible refine bel_dr ?_) | (with_reducible refine bel_drn ?_ _) | (with_reducible refine bel_tr ?_ (by assumption))))⟩
            · rw [wr_no ⟨h3, h4, h16, h17, h18, h20⟩]
              have g3 : (k == 3) = false := by simpa using h3
              have f3 : (k != 3) = true := by simpa using h3
              have d3 : (!(k == 3)) = true := by rw [g3]; rfl
              have g4 : (k == 4) = false := by simpa using h4
              have f4 : (k != 4) = true := by simpa using h4
              have d4 : (!(k == 4)) = true := by rw [g4]; rfl
              have g16 : (k == 16) = false := by simpa using h16
              have f16 : (k != 16) = true := by simpa using h16
              have d16 : (!(k == 16)) = true := by rw [g16]; rfl
              have g17 : (k == 17) = false := by simpa using h17
              have f17 : (k != 17) = true := by simpa using h17
              have d17 : (!(k == 17)) = true := by rw [g17]; rfl
              have g18 : (k == 18) = false := by simpa using h18
              have f18 : (k != 18) = true := by simpa using h18
              have d18 : (!(k == 18)) = true := by rw [g18]; rfl
              have g20 : (k == 20) = false := by simpa using h20
              have f20 : (k != 20) = true := by simpa using h20
              have d20 : (!(k == 20)) = true := by rw [g20]; rfl
              clear h3 h4 h16 h17 h18 h20
              go_enter Tryd.func20, Tryd.ntmps20
              go_wp2
              go_ret
              exact ⟨rfl, by (repeat (first | (with_reducible exact Below.refl _ _) | (with_reducible assumption) | (with_reducible refine bel_al0 ?_ _) | (with_reducible refine bel_set ?_ (by first | (simp; done) | (simp; omega)) _) | (with_reducible refine bel_dr ?_) | (with_reducible refine bel_drn ?_ _) | (with_reducible refine bel_tr ?_ (by assumption))))⟩
end Go.Proofs.YtehneliphhgegaaDoor
