/- Which commits may be: the functions of the package object, and the document's, walked once. -/
import Derived.Test.YtehneliphhgegaaGraph
set_option linter.unusedVariables false
set_option linter.unusedSimpArgs false
set_option maxRecDepth 100000
namespace Go.Proofs.Ytehneliphhgegaa
open Go.RowKit Go.Apo

def chT (c : Nat) : Bool := decide (c < 32) || decide (126 < c)
theorem chT_iff (c : Nat) : chT c = true ↔ c < 32 ∨ 126 < c := by simp [chT]
def textB (s : ByteArray) : Bool := decide (s.size ≤ 60) && (List.range s.size).all fun k => !chT (byteAt s k)
theorem textB_long {s : ByteArray} (h : 60 < s.size) : textB s = false := by unfold textB; simp; omega
theorem textB_at {s : ByteArray} {k : Nat} (hk : k < s.size) (h : chT (byteAt s k) = true) : textB s = false := by
  unfold textB
  have : ((List.range s.size).all fun k => !chT (byteAt s k)) = false := by
    rw [List.all_eq_false]
    exact ⟨k, List.mem_range.2 hk, by simp [h]⟩
  simp [this]
theorem textB_yes {s : ByteArray} (h2 : s.size ≤ 60) (h : ∀ k, k < s.size → chT (byteAt s k) = false) : textB s = true := by
  unfold textB
  simp only [h2, decide_true, Bool.true_and, List.all_eq_true, List.mem_range]
  intro k hk; simp [h k hk]

theorem text1_calls (b : Nat) (hb : b < 256) (w : World) : Calls Try.prog 141 #[.int .u8 b] w fun e w' => e = .returned (.bool (chT b)) ∧ w = w' := by
  by_cases h1 : b < 32
  · have hc : chT b = true := (chT_iff b).2 (Or.inl h1)
    have HC := Lib.hid hc; clear hc
    have g1 : decide ((b : Int) < 32) = true := by simp; omega
    go_enter Try.func141, Try.ntmps141
    go_wp2
    go_ret
    exact ⟨by rw [HC.out]; rfl, rfl⟩
  · have hc : chT b = decide ((126 : Int) < b) := by
      unfold chT
      rw [show decide (b < 32) = false from by simpa using h1, Bool.false_or]
      by_cases h : 126 < b
      · simp [h]; omega
      · simp [h]; omega
    have HC := Lib.hid hc; clear hc
    have g1 : decide ((b : Int) < 32) = false := by simp; omega
    go_enter Try.func141, Try.ntmps141
    go_wp2
    go_ret
    exact ⟨by rw [HC.out]; rfl, rfl⟩

/-- the first bad byte's place, or -1 -/
def IdxPost (w : World) (s : ByteArray) (e : Ending) (w' : World) : Prop :=
  ∃ r : Int, e = .returned (.int .i64 r) ∧ w = w' ∧ ((0 ≤ r ∧ ∃ k, k < s.size ∧ chT (byteAt s k) = true) ∨ (r = -1 ∧ ∀ k, k < s.size → chT (byteAt s k) = false))
theorem indexT_calls (w : World) (s : ByteArray) (b c : Nat) (hs : s.size ≤ 60) (hc : ∀ j, j < s.size → w.cell? ⟨b, j, none⟩ = some (.int .u8 (byteAt s j))) :
    Calls Try.prog 150 #[.slice (some ⟨b, 0, none⟩) s.size c, .func (.func 141) #[] #[]] w (IdxPost w s) := by
  have HC := Lib.hid hc; clear hc
  go_enter Try.func150, Try.ntmps150
  go_wp2
  go_loop [8, 5] (fun i _ => ∃ k : Nat, k ≤ s.size ∧ i = .int .i64 k ∧ Hid (∀ j, j < k → chT (byteAt s j) = false)) (fun i _ => s.size - (intOf i).toNat)
  case atStart => exact ⟨0, Nat.zero_le _, rfl, fun j hj => absurd hj (Nat.not_lt_zero _)⟩
  case round =>
    obtain ⟨k, hk, rfl, hok⟩ := hrel
    by_cases hlt : k < s.size
    · have hcell := HC.out k hlt
      have hbt := byteAt_lt s k
      obtain ⟨x, hx⟩ : ∃ x, x = byteAt s k := ⟨_, rfl⟩
      rw [← hx] at hcell hbt
      have HX := Lib.hid hx; clear hx
      have C := Lib.hid (text1_calls x hbt w)
      obtain ⟨q, hq⟩ : ∃ q, q = chT x := ⟨_, rfl⟩
      rw [← hq] at C
      have HQ := Lib.hid hq; clear hq
      cases q with
      | true =>
        go_wp2_with (go_at_call 141; refine C.out.mono ?_; rintro e w' ⟨rfl, rfl⟩)
        go_ret
        exact ⟨_, rfl, rfl, Or.inl ⟨by omega, k, hlt, by rw [← HX.out]; exact HQ.out.symm⟩⟩
      | false =>
        go_wp2_with (go_at_call 141; refine C.out.mono ?_; rintro e w' ⟨rfl, rfl⟩)
        go_round
        case rel =>
          refine ⟨k + 1, by omega, by go_num, fun j hj => ?_⟩
          rcases Nat.lt_or_ge j k with h' | h'
          · exact hok j h'
          · obtain rfl : j = k := by omega
            rw [← HX.out]; exact HQ.out.symm
        case measure => simp [intOf]; omega
    · go_wp2
      go_ret
      exact ⟨_, rfl, rfl, Or.inr ⟨rfl, fun j hj => hok j (by omega)⟩⟩

theorem containsT_calls (w : World) (s : ByteArray) (b c : Nat) (hs : s.size ≤ 60) (hc : ∀ j, j < s.size → w.cell? ⟨b, j, none⟩ = some (.int .u8 (byteAt s j))) :
    Calls Try.prog 140 #[.slice (some ⟨b, 0, none⟩) s.size c, .func (.func 141) #[] #[]] w fun e w' => e = .returned (.bool (!textB s)) ∧ w = w' := by
  have HI := Lib.hid (indexT_calls w s b c hs hc)
  clear hc
  go_enter Try.func140, Try.ntmps140
  go_wp2_with fail
  refine HI.out.mono ?_
  rintro e w' ⟨r, rfl, rfl, hr⟩
  rcases hr with ⟨h0, k, hk, hb⟩ | ⟨h0, hall⟩
  · have hc := textB_at hk hb
    have HC := Lib.hid hc; clear hc hb
    go_wp2
    go_ret
    exact ⟨by rw [HC.out]; rfl, rfl⟩
  · have hc := textB_yes hs hall
    have HC := Lib.hid hc; clear hc hall
    subst h0
    go_wp2
    go_ret
    exact ⟨by rw [HC.out]; rfl, rfl⟩

theorem text_calls (s : ByteArray) (w : World) : Calls Try.prog 122 #[.string s] w fun e w' => e = .returned (.bool (textB s)) ∧ Below w.heap.size w w' := by
  by_cases h1 : 60 < s.size
  · have hc := textB_long h1
    have HC := Lib.hid hc; clear hc
    have g1 : decide ((60 : Int) < s.size) = true := by simp; omega
    go_enter Try.func122, Try.ntmps122
    go_wp2
    go_ret
    exact ⟨by rw [HC.out]; rfl, Below.refl _ _⟩
  · have g1 : decide ((60 : Int) < s.size) = false := by simp; omega
    obtain ⟨w1, c, hrun, hb, hz, hcell⟩ := bytes_row (P := Try.prog) w 9 109 5 s Try.underlying9 Try.underlying109 Try.underlying5
    have hI := containsT_calls w1 s w.heap.size c (by omega) hcell
    obtain ⟨q, hq⟩ : ∃ q, q = textB s := ⟨_, rfl⟩
    rw [← hq] at hI ⊢
    have HI := Lib.hid hI; clear hI hq
    clear hcell hz
    go_enter Try.func122, Try.ntmps122
    go_wp2_with fail
    refine HI.out.mono ?_
    rintro e w' ⟨rfl, rfl⟩
    go_wp2
    go_ret
    exact ⟨by simp, hb⟩

def parOk (id : Int) (ps : List Int) (j : Nat) : Bool := !(ps.getD j 0 == 0) && decide (ps.getD j 0 < id) && (j == 0 || !(ps.getD j 0 == ps.getD 0 0))
def rightE (c : CommitD) : Int :=
  if c.id = 0 then 120 else if 2 < c.par.length then 120 else if ((c.par.length : Int) == 0) != (c.gen == 1) then 120 else if c.gen = 0 then 120
  else if (List.range c.par.length).all (parOk c.id c.par) then (if textB c.text then 0 else 121) else 120

theorem right_calls (w : World) (i g r : Int) (t : ByteArray) (A : Option Addr) (n k : Nat) (ps : List Int) (hn : ps.length = n) (hf : Flat w A (nums ps)) :
    Calls Try.prog 102 #[.agg #[.int .u64 i, .slice A n k, .int .u64 g, .int .u64 r, .string t]] w fun e w' => e = .returned (.int .i64 (rightE ⟨i, ps, g, r, t⟩)) ∧ Below w.heap.size w w' := by
  obtain ⟨x, hx⟩ : ∃ x, x = rightE ⟨i, ps, g, r, t⟩ := ⟨_, rfl⟩
  rw [← hx]
  unfold rightE at hx
  simp only [hn] at hx
  by_cases h1 : i = 0
  · rw [if_pos h1] at hx
    subst hx h1
    go_enter Try.func102, Try.ntmps102
    go_wp2
    go_step3
    go_wp2
    (try rw [Exit.noGoto_ret])
    go_ret
    exact ⟨rfl, by (repeat (first | (with_reducible exact Below.refl _ _) | (with_reducible assumption) | (with_reducible refine bel_al0 ?_ _) | (with_reducible refine bel_set ?_ (by first | (simp; done) | (simp; omega)) _) | (with_reducible refine bel_dr ?_) | (with_reducible refine bel_drn ?_ _) | (with_reducible refine bel_tr ?_ (by assumption))))⟩
  · rw [if_neg h1] at hx
    have g1 : (i == 0) = false := by simpa using h1
    by_cases h2 : 2 < n
    · rw [if_pos h2] at hx
      subst hx
      have g2 : decide ((2 : Int) < n) = true := by simp; omega
      clear h1
      go_enter Try.func102, Try.ntmps102
      go_wp2
      go_step3
      go_wp2
      (try rw [Exit.noGoto_ret])
      go_ret
      exact ⟨rfl, by (repeat (first | (with_reducible exact Below.refl _ _) | (with_reducible assumption) | (with_reducible refine bel_al0 ?_ _) | (with_reducible refine bel_set ?_ (by first | (simp; done) | (simp; omega)) _) | (with_reducible refine bel_dr ?_) | (with_reducible refine bel_drn ?_ _) | (with_reducible refine bel_tr ?_ (by assumption))))⟩
    · rw [if_neg h2] at hx
      have g2 : decide ((2 : Int) < n) = false := by simp; omega
      clear h1
      cases hb : (((n : Int) == 0) == (g == 1)) with
      | false =>
        rw [if_pos (by simpa [bne] using hb)] at hx
        subst hx
        go_enter Try.func102, Try.ntmps102
        go_wp2
        go_step3
        go_wp2
        (try rw [Exit.noGoto_ret])
        go_ret
        exact ⟨rfl, by (repeat (first | (with_reducible exact Below.refl _ _) | (with_reducible assumption) | (with_reducible refine bel_al0 ?_ _) | (with_reducible refine bel_set ?_ (by first | (simp; done) | (simp; omega)) _) | (with_reducible refine bel_dr ?_) | (with_reducible refine bel_drn ?_ _) | (with_reducible refine bel_tr ?_ (by assumption))))⟩
      | true =>
        rw [if_neg (by simpa [bne] using hb)] at hx
        have h3 : ((n : Int) == 0) = (g == 1) := by simpa using hb
        clear hb
        by_cases h4 : g = 0
        · rw [if_pos h4] at hx
          subst hx
          have g4 : (g == 0) = true := by simpa using h4
          clear h4
          go_enter Try.func102, Try.ntmps102
          go_wp2
          go_step3
          go_wp2
          (try rw [Exit.noGoto_ret])
          go_ret
          exact ⟨rfl, by (repeat (first | (with_reducible exact Below.refl _ _) | (with_reducible assumption) | (with_reducible refine bel_al0 ?_ _) | (with_reducible refine bel_set ?_ (by first | (simp; done) | (simp; omega)) _) | (with_reducible refine bel_dr ?_) | (with_reducible refine bel_drn ?_ _) | (with_reducible refine bel_tr ?_ (by assumption))))⟩
        · rw [if_neg h4] at hx
          have g4 : (g == 0) = false := by simpa using h4
          clear h4
          have HX := Lib.hid hx; clear hx
          have HF := Lib.hid hf; clear hf
          have HN := Lib.hid hn; clear hn
          have HT := Lib.hid (fun W => text_calls t W)
          obtain ⟨q, hq⟩ : ∃ q, q = textB t := ⟨_, rfl⟩
          rw [← hq] at HX HT
          clear hq
          go_enter Try.func102, Try.ntmps102
          go_wp2
          go_step3
          go_wp2
          go_step3
          go_wp2_with fail
          clear h3 g1 g2 g4
          have hfw : Flat (w.alloc (.cells #[.int .u64 i, .slice A n k, .int .u64 g, .int .u64 r, .string t] 69)) A (nums ps) := HF.out.below (by (repeat (first | (with_reducible exact Below.refl _ _) | (with_reducible assumption) | (with_reducible refine bel_al0 ?_ _) | (with_reducible refine bel_set ?_ (by first | (simp; done) | (simp; omega)) _) | (with_reducible refine bel_dr ?_) | (with_reducible refine bel_drn ?_ _) | (with_reducible refine bel_tr ?_ (by assumption)))))
          have HFW := Lib.hid hfw; clear hfw
          go_loop [32, 3, 4] (fun x _ _ => ∃ j : Nat, j ≤ n ∧ x = .int .i64 j ∧ Hid (∀ q, q < j → parOk i ps q = true)) (fun x _ _ => n - (intOf x).toNat)
          case atStart => exact ⟨0, Nat.zero_le _, rfl, fun j hj => absurd hj (Nat.not_lt_zero _)⟩
          case round =>
            obtain ⟨j, hj, rfl, hok⟩ := hrel
            by_cases hlt : j < n
            · have hnum : ∀ q, q < n → (nums ps)[q]? = some (.int .u64 (ps.getD q 0)) := fun q hq => by
                have : q < ps.length := by rw [HN.out]; exact hq
                simp [nums, List.getD_eq_getElem?_getD, List.getElem?_eq_getElem this]
              obtain ⟨b, off, rfl, hcell⟩ := HFW.out (by rw [nums_len, HN.out]; omega)
              have cj := hcell j _ (hnum j hlt)
              have c0 := hcell 0 _ (hnum 0 (by omega))
              rw [Nat.add_zero] at c0
              have hstep : parOk i ps j = true → Hid (∀ q, q < j + 1 → parOk i ps q = true) := fun h q hq => by
                rcases Nat.lt_or_ge q j with h' | h'
                · exact hok q h'
                · obtain rfl : q = j := by omega
                  exact h
              have hstop : parOk i ps j = false → x = 120 := fun h => by
                have : (List.range n).all (parOk i ps) = false := by
                  rw [List.all_eq_false]
                  exact ⟨j, List.mem_range.2 hlt, by simp [h]⟩
                rw [HX.out, this]; rfl
              obtain ⟨pj, hpj⟩ : ∃ pj, pj = ps.getD j 0 := ⟨_, rfl⟩
              obtain ⟨p0, hp0⟩ : ∃ p0, p0 = ps.getD 0 0 := ⟨_, rfl⟩
              have hpar : parOk i ps j = (!(pj == 0) && decide (pj < i) && (j == 0 || !(pj == p0))) := by rw [hpj, hp0]; rfl
              rw [← hpj] at cj
              rw [← hp0] at c0
              rw [hpar] at hstep hstop
              have hjp : j = 0 → p0 = pj := fun e => by rw [hpj, hp0, e]
              have HJP := Lib.hid hjp; clear hjp
              have HSTEP := Lib.hid hstep; clear hstep
              have HSTOP := Lib.hid hstop; clear hstop
              clear hpar hpj hp0 hcell hnum
              by_cases a1 : pj = 0
              · have e := HSTOP.out (by simp [a1])
                subst e a1
                go_wp2
                (try rw [Exit.noGoto_ret])
                go_ret
                exact ⟨rfl, by (repeat (first | (with_reducible exact Below.refl _ _) | (with_reducible assumption) | (with_reducible refine bel_al0 ?_ _) | (with_reducible refine bel_set ?_ (by first | (simp; done) | (simp; omega)) _) | (with_reducible refine bel_dr ?_) | (with_reducible refine bel_drn ?_ _) | (with_reducible refine bel_tr ?_ (by assumption))))⟩
              · have g1 : (pj == 0) = false := by simpa using a1
                clear a1
                by_cases a2 : pj < i
                · have g2 : decide (i ≤ pj) = false := by simp; omega
                  by_cases a3 : j = 0
                  · obtain rfl := HJP.out a3
                    subst a3
                    clear cj
                    have HS := HSTEP.out (by simp [g1, a2])
                    clear HSTEP HSTOP
                    go_wp2
                    go_round
                    case rel => exact ⟨1, by omega, rfl, HS⟩
                    case measure => simp [intOf]; omega
                  · have g3 : ((j : Int) == 0) = false := by simp; omega
                    by_cases a4 : pj = p0
                    · have e := HSTOP.out (by simp [a4, a3])
                      subst e a4
                      go_wp2
                      (try rw [Exit.noGoto_ret])
                      go_ret
                      exact ⟨rfl, by (repeat (first | (with_reducible exact Below.refl _ _) | (with_reducible assumption) | (with_reducible refine bel_al0 ?_ _) | (with_reducible refine bel_set ?_ (by first | (simp; done) | (simp; omega)) _) | (with_reducible refine bel_dr ?_) | (with_reducible refine bel_drn ?_ _) | (with_reducible refine bel_tr ?_ (by assumption))))⟩
                    · have g4 : (pj == p0) = false := by simpa using a4
                      have HS := HSTEP.out (by simp [g1, a2, g4])
                      clear HSTEP HSTOP a4
                      go_wp2
                      go_round
                      case rel => exact ⟨j + 1, by omega, by go_num, HS⟩
                      case measure => simp [intOf]; omega
                · have e := HSTOP.out (by simp [a2])
                  subst e
                  have g2 : decide (i ≤ pj) = true := by simp; omega
                  go_wp2
                  (try rw [Exit.noGoto_ret])
                  go_ret
                  exact ⟨rfl, by (repeat (first | (with_reducible exact Below.refl _ _) | (with_reducible assumption) | (with_reducible refine bel_al0 ?_ _) | (with_reducible refine bel_set ?_ (by first | (simp; done) | (simp; omega)) _) | (with_reducible refine bel_dr ?_) | (with_reducible refine bel_drn ?_ _) | (with_reducible refine bel_tr ?_ (by assumption))))⟩
            · have hall : (List.range n).all (parOk i ps) = true := by
                rw [List.all_eq_true]
                intro q hq
                exact hok q (by have := List.mem_range.1 hq; omega)
              have hx := HX.out
              rw [if_pos hall] at hx
              clear HX
              cases q with
              | true =>
                obtain rfl : x = 0 := by simpa using hx
                clear hx hall
                go_wp2_with (go_at_call 122; refine (HT.out _).mono ?_; rintro e w1 ⟨rfl, hb1⟩)
                (try rw [Exit.noGoto_ret])
                go_ret
                exact ⟨rfl, by (repeat (first | (with_reducible exact Below.refl _ _) | (with_reducible assumption) | (with_reducible refine bel_al0 ?_ _) | (with_reducible refine bel_set ?_ (by first | (simp; done) | (simp; omega)) _) | (with_reducible refine bel_dr ?_) | (with_reducible refine bel_drn ?_ _) | (with_reducible refine bel_tr ?_ (by assumption))))⟩
              | false =>
                obtain rfl : x = 121 := by simpa using hx
                clear hx hall
                go_wp2_with (go_at_call 122; refine (HT.out _).mono ?_; rintro e w1 ⟨rfl, hb1⟩)
                (try rw [Exit.noGoto_ret])
                go_ret
                exact ⟨rfl, by (repeat (first | (with_reducible exact Below.refl _ _) | (with_reducible assumption) | (with_reducible refine bel_al0 ?_ _) | (with_reducible refine bel_set ?_ (by first | (simp; done) | (simp; omega)) _) | (with_reducible refine bel_dr ?_) | (with_reducible refine bel_drn ?_ _) | (with_reducible refine bel_tr ?_ (by assumption))))⟩
end Go.Proofs.Ytehneliphhgegaa
