/- The document's words on commits: walked once; they say what the program's say. -/
import Derived.Test.YtehneliphhgegaaGraphAdd
set_option linter.unusedVariables false
set_option linter.unusedSimpArgs false
set_option maxRecDepth 100000
namespace Go.Proofs.Ytehneliphhgegaa
open Go.RowKit Go.Apo

theorem byteAt_get (s : ByteArray) (k : Nat) (h : k < s.size) : (s[k]).toNat = byteAt s k := by
  unfold byteAt
  have h' : k < s.data.toList.length := by simpa using h
  rw [List.getD_eq_getElem?_getD, List.getElem?_eq_getElem h']
  rfl

theorem rtext_calls (s : ByteArray) (hs : s.size ≤ 1000000) (w : World) : Calls Try.prog 125 #[.string s] w fun e w' => e = .returned (.bool (textB s)) ∧ w = w' := by
  go_enter Try.func125, Try.ntmps125
  go_wp2
  go_loop [3] (fun i => ∃ k : Nat, k ≤ s.size ∧ i = .int .i64 k ∧ Hid (∀ j, j < k → chT (byteAt s j) = false)) (fun i => s.size - (intOf i).toNat)
  case atStart => exact ⟨0, Nat.zero_le _, rfl, fun j hj => absurd hj (Nat.not_lt_zero _)⟩
  case round =>
    obtain ⟨k, hk, rfl, hok⟩ := hrel
    by_cases hlt : k < s.size
    · have hbt := byteAt_lt s k
      have hx := byteAt_get s k hlt
      by_cases h1 : byteAt s k < 32
      · have hf := textB_at hlt ((chT_iff _).2 (Or.inl h1))
        have HF := Lib.hid hf; clear hf
        have g1 : decide (((s[k]).toNat : Int) < 32) = true := by rw [hx]; simp; omega
        clear hx
        go_wp2
        go_ret
        exact ⟨by rw [HF.out]; rfl, rfl⟩
      · have g1 : decide (((s[k]).toNat : Int) < 32) = false := by rw [hx]; simp; omega
        by_cases h2 : 126 < byteAt s k
        · have hf := textB_at hlt ((chT_iff _).2 (Or.inr h2))
          have HF := Lib.hid hf; clear hf
          have g2 : decide ((126 : Int) < ((s[k]).toNat : Int)) = true := by rw [hx]; simp; omega
          clear hx
          go_wp2
          go_ret
          exact ⟨by rw [HF.out]; rfl, rfl⟩
        · have g2 : decide ((126 : Int) < ((s[k]).toNat : Int)) = false := by rw [hx]; simp; omega
          have hc : chT (byteAt s k) = false := by
            cases h : chT (byteAt s k)
            · rfl
            · have := (chT_iff _).1 h; omega
          have HC := Lib.hid hc; clear hc hx
          go_wp2
          go_round
          case rel =>
            refine ⟨k + 1, by omega, by go_num, fun j hj => ?_⟩
            rcases Nat.lt_or_ge j k with h' | h'
            · exact hok j h'
            · obtain rfl : j = k := by omega
              exact HC.out
          case measure => simp [intOf]; omega
    · have hf : textB s = decide ((s.size : Int) ≤ 60) := by
        by_cases h6 : s.size ≤ 60
        · rw [textB_yes h6 (fun j hj => hok j (by omega))]; simp; omega
        · rw [textB_long (by omega)]; simp; omega
      have HF := Lib.hid hf; clear hf
      go_wp2
      go_ret
      exact ⟨by rw [HF.out]; rfl, rfl⟩

theorem rightE_gen {c : CommitD} (hg : 0 ≤ c.gen) : rightE c =
    if c.id = 0 then 120 else if 2 < c.par.length then 120 else if (List.range c.par.length).all (parOk c.id c.par) then
      (if (c.par.length = 0 ∧ c.gen ≠ 1) ∨ (0 < c.par.length ∧ c.gen < 2) then 120 else if textB c.text then 0 else 121) else 120 := by
  unfold rightE
  generalize c.par.length = n
  generalize (List.range n).all (parOk c.id c.par) = q
  generalize (if textB c.text then (0 : Int) else 121) = z
  generalize c.gen = g at hg
  generalize c.id = d
  have e : (((n : Int) == 0) != (g == 1)) = true ∨ g = 0 ↔ (n = 0 ∧ g ≠ 1) ∨ (0 < n ∧ g < 2) := by
    by_cases h0 : n = 0
    · subst h0
      by_cases h2 : g = 1
      · subst h2; simp
      · have h3 : (g == 1) = false := by simpa using h2
        rw [h3]; simp [h2]
    · have h1 : ((n : Int) == 0) = false := by simpa using h0
      rw [h1]
      by_cases h2 : g = 1
      · subst h2; simp; omega
      · have h3 : (g == 1) = false := by simpa using h2
        rw [h3]; simp; omega
  by_cases h1 : d = 0
  · rw [if_pos h1, if_pos h1]
  rw [if_neg h1, if_neg h1]
  by_cases h2 : 2 < n
  · rw [if_pos h2, if_pos h2]
  rw [if_neg h2, if_neg h2]
  by_cases hc : (((n : Int) == 0) != (g == 1)) = true
  · rw [if_pos hc, if_pos (e.1 (Or.inl hc))]
    cases q <;> rfl
  rw [if_neg hc]
  by_cases h0 : g = 0
  · rw [if_pos h0, if_pos (e.1 (Or.inr h0))]
    cases q <;> rfl
  rw [if_neg h0]
  cases q
  · rfl
  · simp only [if_true]
    rw [if_neg (fun h => by
      rcases e.2 h with h | h
      · exact hc h
      · exact h0 h)]

theorem rcommit_calls (w : World) (i g r : Int) (t : ByteArray) (A : Option Addr) (n k : Nat) (ps : List Int) (hn : ps.length = n) (hf : Flat w A (nums ps)) (hg : 0 ≤ g) (ht : t.size ≤ 1000000) :
    Calls Try.prog 105 #[.agg #[.int .u64 i, .slice A n k, .int .u64 g, .int .u64 r, .string t]] w fun e w' => e = .returned (.int .i64 (rightE ⟨i, ps, g, r, t⟩)) ∧ Below w.heap.size w w' := by
  obtain ⟨x, hx⟩ : ∃ x, x = rightE ⟨i, ps, g, r, t⟩ := ⟨_, rfl⟩
  rw [← hx]
  rw [rightE_gen hg] at hx
  simp only [hn] at hx
  by_cases h1 : i = 0
  · rw [if_pos h1] at hx
    subst hx h1
    go_enter Try.func105, Try.ntmps105
    go_wp2
    go_ret
    exact ⟨rfl, by (repeat (first | (with_reducible exact Below.refl _ _) | (with_reducible assumption) | (with_reducible refine bel_al0 ?_ _) | (with_reducible refine bel_set ?_ (by first | (simp; done) | (simp; omega)) _) | (with_reducible refine bel_dr ?_) | (with_reducible refine bel_drn ?_ _) | (with_reducible refine bel_tr ?_ (by assumption))))⟩
  · rw [if_neg h1] at hx
    have g1 : (i == 0) = false := by simpa using h1
    by_cases h2 : 2 < n
    · rw [if_pos h2] at hx
      subst hx
      have g2 : decide ((2 : Int) < n) = true := by simp; omega
      clear h1
      go_enter Try.func105, Try.ntmps105
      go_wp2
      go_ret
      exact ⟨rfl, by (repeat (first | (with_reducible exact Below.refl _ _) | (with_reducible assumption) | (with_reducible refine bel_al0 ?_ _) | (with_reducible refine bel_set ?_ (by first | (simp; done) | (simp; omega)) _) | (with_reducible refine bel_dr ?_) | (with_reducible refine bel_drn ?_ _) | (with_reducible refine bel_tr ?_ (by assumption))))⟩
    · rw [if_neg h2] at hx
      have g2 : decide ((2 : Int) < n) = false := by simp; omega
      clear h1
      have HX := Lib.hid hx; clear hx
      have HF := Lib.hid hf; clear hf
      have HN := Lib.hid hn; clear hn
      have HT := Lib.hid (fun W => rtext_calls t ht W)
      obtain ⟨tq, hq⟩ : ∃ q, q = textB t := ⟨_, rfl⟩
      rw [← hq] at HX HT
      clear hq
      go_enter Try.func105, Try.ntmps105
      go_wp2
      clear g1 g2
      have hfw : Flat (w.alloc (.cells #[.int .u64 i, .slice A n k, .int .u64 g, .int .u64 r, .string t] 69)) A (nums ps) := HF.out.below (by (repeat (first | (with_reducible exact Below.refl _ _) | (with_reducible assumption) | (with_reducible refine bel_al0 ?_ _) | (with_reducible refine bel_set ?_ (by first | (simp; done) | (simp; omega)) _) | (with_reducible refine bel_dr ?_) | (with_reducible refine bel_drn ?_ _) | (with_reducible refine bel_tr ?_ (by assumption)))))
      have HFW := Lib.hid hfw; clear hfw
      go_loop [17, 3, 4] (fun x _ _ => ∃ j : Nat, j ≤ n ∧ x = .int .i64 j ∧ Hid (∀ q, q < j → parOk i ps q = true)) (fun x _ _ => n - (intOf x).toNat)
      case atStart => exact ⟨0, Nat.zero_le _, rfl, fun j hj => absurd hj (Nat.not_lt_zero _)⟩
      case round =>
        obtain ⟨j, hj, rfl, hok⟩ := hrel
        by_cases hlt : j < n
        · have hnum : ∀ q, q < n → (nums ps)[q]? = some (.int .u64 (ps.getD q 0)) := fun q hq => by
            have : q < ps.length := by rw [HN.out]; exact hq
            simp [nums, List.getD_eq_getElem?_getD, List.getElem?_eq_getElem this]
          obtain ⟨b, off, rfl, hcell⟩ := HFW.out (by rw [nums_len, HN.out]; omega)
          have cj := hcell j _ (hnum j hlt)
          have c0 := hcell 0 _ (hnum 0 (by omega))
          rw [Nat.add_zero] at c0
          have hstep : parOk i ps j = true → Hid (∀ q, q < j + 1 → parOk i ps q = true) := fun h q hq => by
            rcases Nat.lt_or_ge q j with h' | h'
            · exact hok q h'
            · obtain rfl : q = j := by omega
              exact h
          have hstop : parOk i ps j = false → x = 120 := fun h => by
            have : (List.range n).all (parOk i ps) = false := by
              rw [List.all_eq_false]
              exact ⟨j, List.mem_range.2 hlt, by simp [h]⟩
            rw [HX.out, this]; rfl
          obtain ⟨pj, hpj⟩ : ∃ pj, pj = ps.getD j 0 := ⟨_, rfl⟩
          obtain ⟨p0, hp0⟩ : ∃ p0, p0 = ps.getD 0 0 := ⟨_, rfl⟩
          have hpar : parOk i ps j = (!(pj == 0) && decide (pj < i) && (j == 0 || !(pj == p0))) := by rw [hpj, hp0]; rfl
          rw [← hpj] at cj
          rw [← hp0] at c0
          rw [hpar] at hstep hstop
          have hjp : j = 0 → p0 = pj := fun e => by rw [hpj, hp0, e]
          have HJP := Lib.hid hjp; clear hjp
          have HSTEP := Lib.hid hstep; clear hstep
          have HSTOP := Lib.hid hstop; clear hstop
          clear hpar hpj hp0 hcell hnum
          by_cases a1 : pj = 0
          · have e := HSTOP.out (by simp [a1])
            subst e a1
            go_wp2
            go_ret
            exact ⟨rfl, by (repeat (first | (with_reducible exact Below.refl _ _) | (with_reducible assumption) | (with_reducible refine bel_al0 ?_ _) | (with_reducible refine bel_set ?_ (by first | (simp; done) | (simp; omega)) _) | (with_reducible refine bel_dr ?_) | (with_reducible refine bel_drn ?_ _) | (with_reducible refine bel_tr ?_ (by assumption))))⟩
          · have g1 : (pj == 0) = false := by simpa using a1
            clear a1
            by_cases a2 : pj < i
            · have g2 : decide (i ≤ pj) = false := by simp; omega
              by_cases a3 : j = 1
              · subst a3
                by_cases a4 : pj = p0
                · have e := HSTOP.out (by simp [a4])
                  subst e a4
                  go_wp2
                  go_ret
                  exact ⟨rfl, by (repeat (first | (with_reducible exact Below.refl _ _) | (with_reducible assumption) | (with_reducible refine bel_al0 ?_ _) | (with_reducible refine bel_set ?_ (by first | (simp; done) | (simp; omega)) _) | (with_reducible refine bel_dr ?_) | (with_reducible refine bel_drn ?_ _) | (with_reducible refine bel_tr ?_ (by assumption))))⟩
                · have g4 : (pj == p0) = false := by simpa using a4
                  have HS := HSTEP.out (by simp [g1, a2, g4])
                  clear HSTEP HSTOP a4
                  go_wp2
                  go_round
                  case rel => exact ⟨2, by omega, rfl, HS⟩
                  case measure => simp [intOf]; omega
              · have hj0 : j = 0 := by omega
                subst hj0
                obtain rfl := HJP.out rfl
                clear cj
                have HS := HSTEP.out (by simp [g1, a2])
                clear HSTEP HSTOP
                go_wp2
                go_round
                case rel => exact ⟨1, by omega, rfl, HS⟩
                case measure => simp [intOf]; omega
            · have e := HSTOP.out (by simp [a2])
              subst e
              have g2 : decide (i ≤ pj) = true := by simp; omega
              go_wp2
              go_ret
              exact ⟨rfl, by (repeat (first | (with_reducible exact Below.refl _ _) | (with_reducible assumption) | (with_reducible refine bel_al0 ?_ _) | (with_reducible refine bel_set ?_ (by first | (simp; done) | (simp; omega)) _) | (with_reducible refine bel_dr ?_) | (with_reducible refine bel_drn ?_ _) | (with_reducible refine bel_tr ?_ (by assumption))))⟩
        · have hall : (List.range n).all (parOk i ps) = true := by
            rw [List.all_eq_true]
            intro q hq
            exact hok q (by have := List.mem_range.1 hq; omega)
          have hx := HX.out
          rw [if_pos hall] at hx
          clear HX
          clear hall hok
          by_cases hn0 : n = 0
          · subst hn0
            by_cases hg1 : g = 1
            · subst hg1
              rw [if_neg (by omega)] at hx
              cases tq with
              | true =>
                obtain rfl : x = 0 := by simpa using hx
                clear hx
                go_wp2_with (go_at_call 125; refine (HT.out _).mono ?_; rintro e w1 ⟨rfl, rfl⟩)
                go_ret
                exact ⟨rfl, by (repeat (first | (with_reducible exact Below.refl _ _) | (with_reducible assumption) | (with_reducible refine bel_al0 ?_ _) | (with_reducible refine bel_set ?_ (by first | (simp; done) | (simp; omega)) _) | (with_reducible refine bel_dr ?_) | (with_reducible refine bel_drn ?_ _) | (with_reducible refine bel_tr ?_ (by assumption))))⟩
              | false =>
                obtain rfl : x = 121 := by simpa using hx
                clear hx
                go_wp2_with (go_at_call 125; refine (HT.out _).mono ?_; rintro e w1 ⟨rfl, rfl⟩)
                go_ret
                exact ⟨rfl, by (repeat (first | (with_reducible exact Below.refl _ _) | (with_reducible assumption) | (with_reducible refine bel_al0 ?_ _) | (with_reducible refine bel_set ?_ (by first | (simp; done) | (simp; omega)) _) | (with_reducible refine bel_dr ?_) | (with_reducible refine bel_drn ?_ _) | (with_reducible refine bel_tr ?_ (by assumption))))⟩
            · rw [if_pos (Or.inl ⟨rfl, hg1⟩)] at hx
              subst hx
              have g1 : (g == 1) = false := by simpa using hg1
              go_wp2
              go_ret
              exact ⟨rfl, by (repeat (first | (with_reducible exact Below.refl _ _) | (with_reducible assumption) | (with_reducible refine bel_al0 ?_ _) | (with_reducible refine bel_set ?_ (by first | (simp; done) | (simp; omega)) _) | (with_reducible refine bel_dr ?_) | (with_reducible refine bel_drn ?_ _) | (with_reducible refine bel_tr ?_ (by assumption))))⟩
          · have hn1 : 0 < n := by omega
            have g3 : ((n : Int) == 0) = false := by simpa using hn0
            have g4 : decide ((0 : Int) < n) = true := by simp; omega
            by_cases hg2 : g < 2
            · rw [if_pos (Or.inr ⟨by omega, hg2⟩)] at hx
              subst hx
              have g5 : decide (g < 2) = true := by simpa using hg2
              go_wp2
              go_ret
              exact ⟨rfl, by (repeat (first | (with_reducible exact Below.refl _ _) | (with_reducible assumption) | (with_reducible refine bel_al0 ?_ _) | (with_reducible refine bel_set ?_ (by first | (simp; done) | (simp; omega)) _) | (with_reducible refine bel_dr ?_) | (with_reducible refine bel_drn ?_ _) | (with_reducible refine bel_tr ?_ (by assumption))))⟩
            · rw [if_neg (by omega)] at hx
              have g5 : decide (g < 2) = false := by simpa using hg2
              clear hn0 hg2
              cases tq with
              | true =>
                obtain rfl : x = 0 := by simpa using hx
                clear hx
                go_wp2_with (go_at_call 125; refine (HT.out _).mono ?_; rintro e w1 ⟨rfl, rfl⟩)
                go_ret
                exact ⟨rfl, by (repeat (first | (with_reducible exact Below.refl _ _) | (with_reducible assumption) | (with_reducible refine bel_al0 ?_ _) | (with_reducible refine bel_set ?_ (by first | (simp; done) | (simp; omega)) _) | (with_reducible refine bel_dr ?_) | (with_reducible refine bel_drn ?_ _) | (with_reducible refine bel_tr ?_ (by assumption))))⟩
              | false =>
                obtain rfl : x = 121 := by simpa using hx
                clear hx
                go_wp2_with (go_at_call 125; refine (HT.out _).mono ?_; rintro e w1 ⟨rfl, rfl⟩)
                go_ret
                exact ⟨rfl, by (repeat (first | (with_reducible exact Below.refl _ _) | (with_reducible assumption) | (with_reducible refine bel_al0 ?_ _) | (with_reducible refine bel_set ?_ (by first | (simp; done) | (simp; omega)) _) | (with_reducible refine bel_dr ?_) | (with_reducible refine bel_drn ?_ _) | (with_reducible refine bel_tr ?_ (by assumption))))⟩
end Go.Proofs.Ytehneliphhgegaa
