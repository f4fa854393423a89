/- The document's words on commits: walked once; they say what the program's say. · The document's graph: commits in a row, by their numbers; what each function does, walked once. · The document's graph takes a commit, or refuses it: walked once. -/
import Derived.Test.YtehneliphhgegaaGreatDoorZGGraphAll
import Derived.Test.YtehneliphhgegaaGreatDoorBase
import Derived.Test.YtehneliphhgegaaGreatDoorDFmt
import Derived.Test.YtehneliphhgegaaGreatDoorDName
import Derived.Test.YtehneliphhgegaaGreatDoorDRead
import Derived.Test.YtehneliphhgegaaGreatDoorRows2
import Derived.Deep.CutBlock
section
set_option linter.unusedVariables false
set_option linter.unusedSimpArgs false
set_option maxRecDepth 100000
namespace Go.Proofs.YtehneliphhgegaaGreatDoor
open Go.RowKit Go.Apo

theorem rtext_calls (s : ByteArray) (hs : s.size ≤ 1000000) (w : World) : Calls Tryz.prog 52 #[.string s] w fun e w' => e = .returned (.bool (textB s)) ∧ w = w' := by
  go_enter Tryz.func52, Tryz.ntmps52
  go_wp2
  go_loop [3] (fun i => ∃ k : Nat, k ≤ s.size ∧ i = .int .i64 k ∧ Hid (∀ j, j < k → chT (byteAt s j) = false)) (fun i => s.size - (intOf i).toNat)
  case atStart => exact ⟨0, Nat.zero_le _, rfl, fun j hj => absurd hj (Nat.not_lt_zero _)⟩
  case round =>
    obtain ⟨k, hk, rfl, hok⟩ := hrel
    by_cases hlt : k < s.size
    · have hbt := byteAt_lt s k
      have hx := byteAt_get s k hlt
      by_cases h1 : byteAt s k < 32
      · have hf := textB_at hlt ((chT_iff _).2 (Or.inl h1))
        have HF := Lib.hid hf; clear hf
        have g1 : decide (((s[k]).toNat : Int) < 32) = true := by rw [hx]; simp; omega
        clear hx
        go_wp2
        go_ret
        exact ⟨by rw [HF.out]; rfl, rfl⟩
      · have g1 : decide (((s[k]).toNat : Int) < 32) = false := by rw [hx]; simp; omega
        by_cases h2 : 126 < byteAt s k
        · have hf := textB_at hlt ((chT_iff _).2 (Or.inr h2))
          have HF := Lib.hid hf; clear hf
          have g2 : decide ((126 : Int) < ((s[k]).toNat : Int)) = true := by rw [hx]; simp; omega
          clear hx
          go_wp2
          go_ret
          exact ⟨by rw [HF.out]; rfl, rfl⟩
        · have g2 : decide ((126 : Int) < ((s[k]).toNat : Int)) = false := by rw [hx]; simp; omega
          have hc : chT (byteAt s k) = false := by
            cases h : chT (byteAt s k)
            · rfl
            · have := (chT_iff _).1 h; omega
          have HC := Lib.hid hc; clear hc hx
          go_wp2
          go_round
          case rel =>
            refine ⟨k + 1, by omega, by go_num, fun j hj => ?_⟩
            rcases Nat.lt_or_ge j k with h' | h'
            · exact hok j h'
            · obtain rfl : j = k := by omega
              exact HC.out
          case measure => simp [intOf]; omega
    · have hf : textB s = decide ((s.size : Int) ≤ 60) := by
        by_cases h6 : s.size ≤ 60
        · rw [textB_yes h6 (fun j hj => hok j (by omega))]; simp; omega
        · rw [textB_long (by omega)]; simp; omega
      have HF := Lib.hid hf; clear hf
      go_wp2
      go_ret
      exact ⟨by rw [HF.out]; rfl, rfl⟩

theorem rightE_gen {c : CommitD} (hg : 0 ≤ c.gen) : rightE c =
    if c.id = 0 then 120 else if 2 < c.par.length then 120 else if (List.range c.par.length).all (parOk c.id c.par) then
      (if (c.par.length = 0 ∧ c.gen ≠ 1) ∨ (0 < c.par.length ∧ c.gen < 2) then 120 else if textB c.text then 0 else 121) else 120 := by
  unfold rightE
  generalize c.par.length = n
  generalize (List.range n).all (parOk c.id c.par) = q
  generalize (if textB c.text then (0 : Int) else 121) = z
  generalize c.gen = g at hg
  generalize c.id = d
  have e : (((n : Int) == 0) != (g == 1)) = true ∨ g = 0 ↔ (n = 0 ∧ g ≠ 1) ∨ (0 < n ∧ g < 2) := by
    by_cases h0 : n = 0
    · subst h0
      by_cases h2 : g = 1
      · subst h2; simp
      · have h3 : (g == 1) = false := by simpa using h2
        rw [h3]; simp [h2]
    · have h1 : ((n : Int) == 0) = false := by simpa using h0
      rw [h1]
      by_cases h2 : g = 1
      · subst h2; simp; omega
      · have h3 : (g == 1) = false := by simpa using h2
        rw [h3]; simp; omega
  by_cases h1 : d = 0
  · rw [if_pos h1, if_pos h1]
  rw [if_neg h1, if_neg h1]
  by_cases h2 : 2 < n
  · rw [if_pos h2, if_pos h2]
  rw [if_neg h2, if_neg h2]
  by_cases hc : (((n : Int) == 0) != (g == 1)) = true
  · rw [if_pos hc, if_pos (e.1 (Or.inl hc))]
    cases q <;> rfl
  rw [if_neg hc]
  by_cases h0 : g = 0
  · rw [if_pos h0, if_pos (e.1 (Or.inr h0))]
    cases q <;> rfl
  rw [if_neg h0]
  cases q
  · rfl
  · simp only [if_true]
    rw [if_neg (fun h => by
      rcases e.2 h with h | h
      · exact hc h
      · exact h0 h)]

theorem rcommit_calls (w : World) (i g r : Int) (t : ByteArray) (A : Option Addr) (n k : Nat) (ps : List Int) (hn : ps.length = n) (hf : Flat w A (nums ps)) (hg : 0 ≤ g) (ht : t.size ≤ 1000000) :
    Calls Tryz.prog 36 #[.agg #[.int .u64 i, .slice A n k, .int .u64 g, .int .u64 r, .string t]] w fun e w' => e = .returned (.int .i64 (rightE ⟨i, ps, g, r, t⟩)) ∧ Below w.heap.size w w' := by
  obtain ⟨x, hx⟩ : ∃ x, x = rightE ⟨i, ps, g, r, t⟩ := ⟨_, rfl⟩
  rw [← hx]
  rw [rightE_gen hg] at hx
  simp only [hn] at hx
  by_cases h1 : i = 0
  · rw [if_pos h1] at hx
    subst hx h1
    go_enter Tryz.func36, Tryz.ntmps36
    go_wp2
    go_ret
    exact ⟨rfl, by (repeat (first | (with_reducible exact Below.refl _ _) | (with_reducible assumption) | (with_reducible refine bel_al0 ?_ _) | (with_reducible refine bel_set ?_ (by first | (simp; done) | (simp; omega)) _) | (with_reducible refine bel_dr ?_) | (with_reducible refine bel_drn ?_ _) | (with_reducible refine bel_tr ?_ (by assumption))))⟩
  · rw [if_neg h1] at hx
    have g1 : (i == 0) = false := by simpa using h1
    by_cases h2 : 2 < n
    · rw [if_pos h2] at hx
      subst hx
      have g2 : decide ((2 : Int) < n) = true := by simp; omega
      clear h1
      go_enter Tryz.func36, Tryz.ntmps36
      go_wp2
      go_ret
      exact ⟨rfl, by (repeat (first | (with_reducible exact Below.refl _ _) | (with_reducible assumption) | (with_reducible refine bel_al0 ?_ _) | (with_reducible refine bel_set ?_ (by first | (simp; done) | (simp; omega)) _) | (with_reducible refine bel_dr ?_) | (with_reducible refine bel_drn ?_ _) | (with_reducible refine bel_tr ?_ (by assumption))))⟩
    · rw [if_neg h2] at hx
      have g2 : decide ((2 : Int) < n) = false := by simp; omega
      clear h1
      have HX := Lib.hid hx; clear hx
      have HF := Lib.hid hf; clear hf
      have HN := Lib.hid hn; clear hn
      have HT := Lib.hid (fun W => rtext_calls t ht W)
      obtain ⟨tq, hq⟩ : ∃ q, q = textB t := ⟨_, rfl⟩
      rw [← hq] at HX HT
      clear hq
      go_enter Tryz.func36, Tryz.ntmps36
      go_wp2
      clear g1 g2
      have hfw : Flat (w.alloc (.cells #[.int .u64 i, .slice A n k, .int .u64 g, .int .u64 r, .string t] 41)) A (nums ps) := HF.out.below (by (repeat (first | (with_reducible exact Below.refl _ _) | (with_reducible assumption) | (with_reducible refine bel_al0 ?_ _) | (with_reducible refine bel_set ?_ (by first | (simp; done) | (simp; omega)) _) | (with_reducible refine bel_dr ?_) | (with_reducible refine bel_drn ?_ _) | (with_reducible refine bel_tr ?_ (by assumption)))))
      have HFW := Lib.hid hfw; clear hfw
      go_loop [17, 3, 4] (fun x _ _ => ∃ j : Nat, j ≤ n ∧ x = .int .i64 j ∧ Hid (∀ q, q < j → parOk i ps q = true)) (fun x _ _ => n - (intOf x).toNat)
      case atStart => exact ⟨0, Nat.zero_le _, rfl, fun j hj => absurd hj (Nat.not_lt_zero _)⟩
      case round =>
        obtain ⟨j, hj, rfl, hok⟩ := hrel
        by_cases hlt : j < n
        · have hnum : ∀ q, q < n → (nums ps)[q]? = some (.int .u64 (ps.getD q 0)) := fun q hq => by
            have : q < ps.length := by rw [HN.out]; exact hq
            simp [nums, List.getD_eq_getElem?_getD, List.getElem?_eq_getElem this]
          obtain ⟨b, off, rfl, hcell⟩ := HFW.out (by rw [nums_len, HN.out]; omega)
          have cj := hcell j _ (hnum j hlt)
          have c0 := hcell 0 _ (hnum 0 (by omega))
          rw [Nat.add_zero] at c0
          have hstep : parOk i ps j = true → Hid (∀ q, q < j + 1 → parOk i ps q = true) := fun h q hq => by
            rcases Nat.lt_or_ge q j with h' | h'
            · exact hok q h'
            · obtain rfl : q = j := by omega
              exact h
          have hstop : parOk i ps j = false → x = 120 := fun h => by
            have : (List.range n).all (parOk i ps) = false := by
              rw [List.all_eq_false]
              exact ⟨j, List.mem_range.2 hlt, by simp [h]⟩
            rw [HX.out, this]; rfl
          obtain ⟨pj, hpj⟩ : ∃ pj, pj = ps.getD j 0 := ⟨_, rfl⟩
          obtain ⟨p0, hp0⟩ : ∃ p0, p0 = ps.getD 0 0 := ⟨_, rfl⟩
          have hpar : parOk i ps j = (!(pj == 0) && decide (pj < i) && (j == 0 || !(pj == p0))) := by rw [hpj, hp0]; rfl
          rw [← hpj] at cj
          rw [← hp0] at c0
          rw [hpar] at hstep hstop
          have hjp : j = 0 → p0 = pj := fun e => by rw [hpj, hp0, e]
          have HJP := Lib.hid hjp; clear hjp
          have HSTEP := Lib.hid hstep; clear hstep
          have HSTOP := Lib.hid hstop; clear hstop
          clear hpar hpj hp0 hcell hnum
          by_cases a1 : pj = 0
          · have e := HSTOP.out (by simp [a1])
            subst e a1
            go_wp2
            go_ret
            exact ⟨rfl, by (repeat (first | (with_reducible exact Below.refl _ _) | (with_reducible assumption) | (with_reducible refine bel_al0 ?_ _) | (with_reducible refine bel_set ?_ (by first | (simp; done) | (simp; omega)) _) | (with_reducible refine bel_dr ?_) | (with_reducible refine bel_drn ?_ _) | (with_reducible refine bel_tr ?_ (by assumption))))⟩
          · have g1 : (pj == 0) = false := by simpa using a1
            clear a1
            by_cases a2 : pj < i
            · have g2 : decide (i ≤ pj) = false := by simp; omega
              by_cases a3 : j = 1
              · subst a3
                by_cases a4 : pj = p0
                · have e := HSTOP.out (by simp [a4])
                  subst e a4
                  go_wp2
                  go_ret
                  exact ⟨rfl, by (repeat (first | (with_reducible exact Below.refl _ _) | (with_reducible assumption) | (with_reducible refine bel_al0 ?_ _) | (with_reducible refine bel_set ?_ (by first | (simp; done) | (simp; omega)) _) | (with_reducible refine bel_dr ?_) | (with_reducible refine bel_drn ?_ _) | (with_reducible refine bel_tr ?_ (by assumption))))⟩
                · have g4 : (pj == p0) = false := by simpa using a4
                  have HS := HSTEP.out (by simp [g1, a2, g4])
                  clear HSTEP HSTOP a4
                  go_wp2
                  go_round
                  case rel => exact ⟨2, by omega, rfl, HS⟩
                  case measure => simp [intOf]; omega
              · have hj0 : j = 0 := by omega
                subst hj0
                obtain rfl := HJP.out rfl
                clear cj
                have HS := HSTEP.out (by simp [g1, a2])
                clear HSTEP HSTOP
                go_wp2
                go_round
                case rel => exact ⟨1, by omega, rfl, HS⟩
                case measure => simp [intOf]; omega
            · have e := HSTOP.out (by simp [a2])
              subst e
              have g2 : decide (i ≤ pj) = true := by simp; omega
              go_wp2
              go_ret
              exact ⟨rfl, by (repeat (first | (with_reducible exact Below.refl _ _) | (with_reducible assumption) | (with_reducible refine bel_al0 ?_ _) | (with_reducible refine bel_set ?_ (by first | (simp; done) | (simp; omega)) _) | (with_reducible refine bel_dr ?_) | (with_reducible refine bel_drn ?_ _) | (with_reducible refine bel_tr ?_ (by assumption))))⟩
        · have hall : (List.range n).all (parOk i ps) = true := by
            rw [List.all_eq_true]
            intro q hq
            exact hok q (by have := List.mem_range.1 hq; omega)
          have hx := HX.out
          rw [if_pos hall] at hx
          clear HX
          clear hall hok
          by_cases hn0 : n = 0
          · subst hn0
            by_cases hg1 : g = 1
            · subst hg1
              rw [if_neg (by omega)] at hx
              cases tq with
              | true =>
                obtain rfl : x = 0 := by simpa using hx
                clear hx
                go_wp2_with (go_at_call 52; refine (HT.out _).mono ?_; rintro e w1 ⟨rfl, rfl⟩)
                go_ret
                exact ⟨rfl, by (repeat (first | (with_reducible exact Below.refl _ _) | (with_reducible assumption) | (with_reducible refine bel_al0 ?_ _) | (with_reducible refine bel_set ?_ (by first | (simp; done) | (simp; omega)) _) | (with_reducible refine bel_dr ?_) | (with_reducible refine bel_drn ?_ _) | (with_reducible refine bel_tr ?_ (by assumption))))⟩
              | false =>
                obtain rfl : x = 121 := by simpa using hx
                clear hx
                go_wp2_with (go_at_call 52; refine (HT.out _).mono ?_; rintro e w1 ⟨rfl, rfl⟩)
                go_ret
                exact ⟨rfl, by (repeat (first | (with_reducible exact Below.refl _ _) | (with_reducible assumption) | (with_reducible refine bel_al0 ?_ _) | (with_reducible refine bel_set ?_ (by first | (simp; done) | (simp; omega)) _) | (with_reducible refine bel_dr ?_) | (with_reducible refine bel_drn ?_ _) | (with_reducible refine bel_tr ?_ (by assumption))))⟩
            · rw [if_pos (Or.inl ⟨rfl, hg1⟩)] at hx
              subst hx
              have g1 : (g == 1) = false := by simpa using hg1
              go_wp2
              go_ret
              exact ⟨rfl, by (repeat (first | (with_reducible exact Below.refl _ _) | (with_reducible assumption) | (with_reducible refine bel_al0 ?_ _) | (with_reducible refine bel_set ?_ (by first | (simp; done) | (simp; omega)) _) | (with_reducible refine bel_dr ?_) | (with_reducible refine bel_drn ?_ _) | (with_reducible refine bel_tr ?_ (by assumption))))⟩
          · have hn1 : 0 < n := by omega
            have g3 : ((n : Int) == 0) = false := by simpa using hn0
            have g4 : decide ((0 : Int) < n) = true := by simp; omega
            by_cases hg2 : g < 2
            · rw [if_pos (Or.inr ⟨by omega, hg2⟩)] at hx
              subst hx
              have g5 : decide (g < 2) = true := by simpa using hg2
              go_wp2
              go_ret
              exact ⟨rfl, by (repeat (first | (with_reducible exact Below.refl _ _) | (with_reducible assumption) | (with_reducible refine bel_al0 ?_ _) | (with_reducible refine bel_set ?_ (by first | (simp; done) | (simp; omega)) _) | (with_reducible refine bel_dr ?_) | (with_reducible refine bel_drn ?_ _) | (with_reducible refine bel_tr ?_ (by assumption))))⟩
            · rw [if_neg (by omega)] at hx
              have g5 : decide (g < 2) = false := by simpa using hg2
              clear hn0 hg2
              cases tq with
              | true =>
                obtain rfl : x = 0 := by simpa using hx
                clear hx
                go_wp2_with (go_at_call 52; refine (HT.out _).mono ?_; rintro e w1 ⟨rfl, rfl⟩)
                go_ret
                exact ⟨rfl, by (repeat (first | (with_reducible exact Below.refl _ _) | (with_reducible assumption) | (with_reducible refine bel_al0 ?_ _) | (with_reducible refine bel_set ?_ (by first | (simp; done) | (simp; omega)) _) | (with_reducible refine bel_dr ?_) | (with_reducible refine bel_drn ?_ _) | (with_reducible refine bel_tr ?_ (by assumption))))⟩
              | false =>
                obtain rfl : x = 121 := by simpa using hx
                clear hx
                go_wp2_with (go_at_call 52; refine (HT.out _).mono ?_; rintro e w1 ⟨rfl, rfl⟩)
                go_ret
                exact ⟨rfl, by (repeat (first | (with_reducible exact Below.refl _ _) | (with_reducible assumption) | (with_reducible refine bel_al0 ?_ _) | (with_reducible refine bel_set ?_ (by first | (simp; done) | (simp; omega)) _) | (with_reducible refine bel_dr ?_) | (with_reducible refine bel_drn ?_ _) | (with_reducible refine bel_tr ?_ (by assumption))))⟩
end Go.Proofs.YtehneliphhgegaaGreatDoor
end
section
set_option linter.unusedVariables false
set_option linter.unusedSimpArgs false
set_option maxRecDepth 100000
namespace Go.Proofs.YtehneliphhgegaaGreatDoor
open Go.RowKit Go.Apo

/-- these cells are these commits, five cells each -/
def CVals (w : World) : List CommitD → List Value → Prop
  | [], [] => True
  | c :: R, v0 :: v1 :: v2 :: v3 :: v4 :: cs => commitIs w c (.agg #[v0, v1, v2, v3, v4]) ∧ CVals w R cs
  | _, _ => False

theorem CVals.mono {w w' : World} (h : ∀ c v, commitIs w c v → commitIs w' c v) : ∀ {R : List CommitD} {cs : List Value}, CVals w R cs → CVals w' R cs
  | [], [], _ => trivial
  | _ :: _, _ :: _ :: _ :: _ :: _ :: _, H => ⟨h _ _ H.1, CVals.mono h H.2⟩
theorem CVals.length {w : World} : ∀ {R : List CommitD} {cs : List Value}, CVals w R cs → cs.length = R.length * 5
  | [], [], _ => rfl
  | _ :: R, _ :: _ :: _ :: _ :: _ :: cs, H => by have := CVals.length H.2; simp only [List.length_cons]; omega
theorem CVals.app {w : World} : ∀ {R S : List CommitD} {cs ds : List Value}, CVals w R cs → CVals w S ds → CVals w (R ++ S) (cs ++ ds)
  | [], _, [], _, _, h => h
  | _ :: R, S, _ :: _ :: _ :: _ :: _ :: cs, ds, H, h => ⟨H.1, CVals.app H.2 h⟩
theorem CVals.split {w : World} : ∀ (j : Nat) {R : List CommitD} {cs : List Value}, CVals w R cs → CVals w (R.take j) (cs.take (j * 5)) ∧ CVals w (R.drop j) (cs.drop (j * 5))
  | 0, R, cs, H => by simp [CVals, H]
  | j + 1, [], [], _ => by simp [CVals]
  | j + 1, c :: R, v0 :: v1 :: v2 :: v3 :: v4 :: cs, H => by
    have h := CVals.split j H.2
    have e : (j + 1) * 5 = (j * 5) + 1 + 1 + 1 + 1 + 1 := by omega
    rw [e]
    simp only [List.take_succ_cons, List.drop_succ_cons]
    exact ⟨⟨H.1, h.1⟩, h.2⟩
theorem CVals.one {w : World} : ∀ {R : List CommitD} {cs : List Value}, CVals w R cs → ∀ u ∈ cs, u.oneCell' = true
  | [], [], _, u, hu => by cases hu
  | c :: R, v0 :: v1 :: v2 :: v3 :: v4 :: cs, H, u, hu => by
    obtain ⟨A, k, e, _⟩ := H.1
    simp only [Value.agg.injEq, Array.mk.injEq, List.cons.injEq, and_true] at e
    obtain ⟨e0, e1, e2, e3, e4⟩ := e
    simp only [List.mem_cons] at hu
    rcases hu with rfl | rfl | rfl | rfl | rfl | hu
    · rw [e0]; rfl
    · rw [e1]; rfl
    · rw [e2]; rfl
    · rw [e3]; rfl
    · rw [e4]; rfl
    · exact CVals.one H.2 u hu
/-- the cells of one of them -/
theorem CVals.at_ {w : World} : ∀ {R : List CommitD} {cs : List Value} {j : Nat} {c : CommitD}, CVals w R cs → R[j]? = some c →
    ∃ A k, cs[j * 5]? = some (.int .u64 c.id) ∧ cs[j * 5 + 1]? = some (.slice A c.par.length k) ∧ cs[j * 5 + 2]? = some (.int .u64 c.gen) ∧ cs[j * 5 + 3]? = some (.int .u64 c.root) ∧ cs[j * 5 + 4]? = some (.string c.text) ∧ Flat w A (nums c.par) ∧ (A = none → c.par = [])
  | c' :: R, v0 :: v1 :: v2 :: v3 :: v4 :: cs, 0, c, H, h => by
    simp only [List.getElem?_cons_zero, Option.some.injEq] at h
    subst h
    obtain ⟨A, k, e, h2, h3⟩ := H.1
    simp only [Value.agg.injEq, Array.mk.injEq, List.cons.injEq, and_true] at e
    obtain ⟨rfl, rfl, rfl, rfl, rfl⟩ := e
    exact ⟨A, k, rfl, rfl, rfl, rfl, rfl, h2, h3⟩
  | c' :: R, v0 :: v1 :: v2 :: v3 :: v4 :: cs, j + 1, c, H, h => by
    obtain ⟨A, k, h0, h1, h2, h3, h4, h5⟩ := CVals.at_ (j := j) H.2 (by simpa using h)
    have e : ∀ q, (j + 1) * 5 + q = (j * 5 + q) + 1 + 1 + 1 + 1 + 1 := fun q => by omega
    have e0 : (j + 1) * 5 = (j * 5) + 1 + 1 + 1 + 1 + 1 := by omega
    refine ⟨A, k, ?_, ?_, ?_, ?_, ?_, h5⟩
    · rw [e0]; simpa using h0
    · rw [e]; simpa using h1
    · rw [e]; simpa using h2
    · rw [e]; simpa using h3
    · rw [e]; simpa using h4

/-- commits in a row from an address on -/
def CRow (w : World) (A : Option Addr) (R : List CommitD) : Prop := ∃ cs, CVals w R cs ∧ Flat w A cs
theorem CRow.below {w w' : World} {A : Option Addr} {R : List CommitD} (h : CRow w A R) (hb : Below w.heap.size w w') : CRow w' A R := by
  obtain ⟨cs, h1, h2⟩ := h
  exact ⟨cs, h1.mono (fun c v hc => commitIs_below hc hb), h2.below hb⟩
theorem CRow.cells {w w' : World} {A : Option Addr} {R : List CommitD} (h : CRow w A R) (hk : ∀ (b : Nat) (o : Obj), w.heap[b]? = some o → o.isCells = true → w'.heap[b]? = some o) : CRow w' A R := by
  obtain ⟨cs, h1, h2⟩ := h
  exact ⟨cs, h1.mono (fun c v hc => commits_onCells w w' c v hk hc), h2.cells hk⟩
theorem CRow.at_ {w : World} {A : Option Addr} {R : List CommitD} {j : Nat} {c : CommitD} (h : CRow w A R) (hj : R[j]? = some c) :
    ∃ b off A' k, A = some ⟨b, off, none⟩ ∧ w.cell? ⟨b, off + j * 5, none⟩ = some (.int .u64 c.id) ∧ w.cell? ⟨b, off + j * 5 + 1, none⟩ = some (.slice A' c.par.length k) ∧ w.cell? ⟨b, off + j * 5 + 2, none⟩ = some (.int .u64 c.gen) ∧ w.cell? ⟨b, off + j * 5 + 3, none⟩ = some (.int .u64 c.root) ∧ w.cell? ⟨b, off + j * 5 + 4, none⟩ = some (.string c.text) ∧ Flat w A' (nums c.par) ∧ (A' = none → c.par = []) := by
  obtain ⟨cs, h1, h2⟩ := h
  obtain ⟨A', k, q0, q1, q2, q3, q4, q5⟩ := h1.at_ hj
  have hl := (List.getElem?_eq_some_iff.1 q0).1
  obtain ⟨b, off, e, hc⟩ := h2 (by omega)
  exact ⟨b, off, A', k, e, hc _ _ q0, by have := hc _ _ q1; rwa [← Nat.add_assoc] at this, by have := hc _ _ q2; rwa [← Nat.add_assoc] at this, by have := hc _ _ q3; rwa [← Nat.add_assoc] at this, by have := hc _ _ q4; rwa [← Nat.add_assoc] at this, q5⟩

/-- the document's graph behind a pointer -/
def RGraphAt (w : World) (x : Nat) (R : List CommitD) : Prop := ∃ A k, Blk w x #[.slice A R.length k] 38 ∧ CRow w A R ∧ (A = none → R = [] ∧ k = 0) ∧ R.length ≤ k
theorem RGraphAt.below {w w' : World} {x : Nat} {R : List CommitD} (h : RGraphAt w x R) (hb : Below w.heap.size w w') : RGraphAt w' x R := by
  obtain ⟨A, k, h1, h2, h3⟩ := h
  exact ⟨A, k, h1.below hb, h2.below hb, h3⟩

/-- what stands in rows of numbers stays where one block of a slice alone has turned -/
theorem flat_but {w w' : World} {x : Nat} {v : Value} {t : TypeId} {A : Option Addr} {cs : List Value} (h : Flat w A cs) (hB : Blk w x #[v] t) (hne : ∀ u, cs[0]? = some u → u ≠ v) (hb : But x w w') : Flat w' A cs := fun h0 => by
  obtain ⟨b, off, e, hc⟩ := h h0
  obtain ⟨u, hu⟩ : ∃ u, cs[0]? = some u := ⟨_, List.getElem?_eq_getElem h0⟩
  have hbx : b ≠ x := by
    intro e; subst e
    have h1 := hc 0 u hu
    unfold World.cell? at h1
    rw [hB] at h1
    simp only at h1
    have : off + 0 = 0 := by
      have := (Array.getElem?_eq_some_iff.1 h1).1
      simpa using this
    rw [this] at h1
    simp at h1
    exact hne u hu h1.symm
  refine ⟨b, off, e, fun j u hj => ?_⟩
  have h1 := hc j u hj
  exact (hb.cell (p := ⟨b, off + j, none⟩) (cell_lt h1) hbx).trans h1
theorem commitIs_but {w w' : World} {x : Nat} {A0 : Option Addr} {n0 k0 : Nat} {t : TypeId} (hB : Blk w x #[.slice A0 n0 k0] t) (hb : But x w w') {c : CommitD} {v : Value} (h : commitIs w c v) : commitIs w' c v := by
  obtain ⟨A, k, h1, h2, h3⟩ := h
  refine ⟨A, k, h1, flat_but h2 hB (fun u hu e => ?_) hb, h3⟩
  subst e
  obtain ⟨y, _, hy⟩ := List.mem_map.1 (List.mem_of_getElem? hu)
  cases hy
theorem CRow.but {w w' : World} {x : Nat} {A0 : Option Addr} {n0 k0 : Nat} {t : TypeId} (hB : Blk w x #[.slice A0 n0 k0] t) (hb : But x w w') {A : Option Addr} {R : List CommitD} (h : CRow w A R) : CRow w' A R := by
  obtain ⟨cs, h1, h2⟩ := h
  refine ⟨cs, h1.mono (fun c v => commitIs_but hB hb), flat_but h2 hB (fun u hu e => ?_) hb⟩
  subst e
  cases R with
  | nil => cases cs with
    | nil => cases hu
    | cons _ _ => exact h1
  | cons c R => match cs, h1 with
    | _ :: _ :: _ :: _ :: _ :: cs, h1 =>
      obtain ⟨⟨A, k, e, _⟩, _⟩ := h1
      simp only [Value.agg.injEq, Array.mk.injEq, List.cons.injEq, and_true] at e
      simp only [List.getElem?_cons_zero, Option.some.injEq] at hu
      rw [e.1] at hu; cases hu

/-- a commit's place -/
def rAt (R : List CommitD) (i : Int) : Int := match R.findIdx? (fun c => c.id == i) with
  | some k => k
  | none => -1
theorem rAt_some {R : List CommitD} {i : Int} {k : Nat} (h1 : ∀ (j : Nat) (c : CommitD), j < k → R[j]? = some c → c.id ≠ i) {c : CommitD} (h2 : R[k]? = some c) (h3 : c.id = i) : rAt R i = k := by
  unfold rAt
  have : R.findIdx? (fun c => c.id == i) = some k := by
    rw [List.findIdx?_eq_some_iff_getElem]
    obtain ⟨hk, hc⟩ := List.getElem?_eq_some_iff.1 h2
    refine ⟨hk, by rw [hc]; simpa using h3, fun j hj => ?_⟩
    have := h1 j R[j] hj (List.getElem?_eq_getElem _)
    simpa using this
  rw [this]
theorem rAt_none {R : List CommitD} {i : Int} (h : ∀ (j : Nat) (c : CommitD), R[j]? = some c → c.id ≠ i) : rAt R i = -1 := by
  unfold rAt
  have : R.findIdx? (fun c => c.id == i) = none := by
    rw [List.findIdx?_eq_none_iff]
    intro c hc
    obtain ⟨j, hj⟩ := List.mem_iff_getElem?.1 hc
    have := h j c hj
    simpa using this
  rw [this]

theorem rat_calls (w : World) (x : Nat) (R : List CommitD) (h : RGraphAt w x R) (hR : R.length ≤ 1000000) (i : Int) :
    Calls Tryz.prog 37 #[.pointer (some ⟨x, 0, none⟩), .int .u64 i] w fun e w' => e = .returned (.int .i64 (rAt R i)) ∧ Below w.heap.size w w' := by
  obtain ⟨A, k, hblk, hrow, hA, _⟩ := h
  have hc := hblk.one.1; clear hblk
  obtain ⟨n, hn⟩ : ∃ n, n = R.length := ⟨_, rfl⟩
  rw [← hn] at hc hR
  have HROW := Lib.hid hrow; clear hrow
  have HN := Lib.hid hn; clear hn hA
  go_enter Tryz.func37, Tryz.ntmps37
  go_wp2
  go_loopw [12, 5, 6] (fun v _ _ wr => ∃ j : Nat, j ≤ n ∧ v = .int .i64 j ∧ Hid (∀ q c, q < j → R[q]? = some c → c.id ≠ i) ∧ Below w.heap.size w wr) (fun v _ _ _ => n - (intOf v).toNat)
  case atStart => exact ⟨0, Nat.zero_le _, rfl, fun q _ hq => absurd hq (Nat.not_lt_zero _), by (repeat (first | (with_reducible exact Below.refl _ _) | (with_reducible assumption) | (with_reducible refine bel_al0 ?_ _) | (with_reducible refine bel_set ?_ (by first | (simp; done) | (simp; omega)) _) | (with_reducible refine bel_dr ?_) | (with_reducible refine bel_drn ?_ _) | (with_reducible refine bel_tr ?_ (by assumption))))⟩
  case round =>
    obtain ⟨j, hj, rfl, hok, hB⟩ := hrel
    by_cases hlt : j < n
    · obtain ⟨c, hcj⟩ : ∃ c, R[j]? = some c := ⟨_, List.getElem?_eq_getElem (by rw [← HN.out]; exact hlt)⟩
      obtain ⟨b, off, A', k', rfl, c0, c1, c2, c3, c4, _⟩ := HROW.out.at_ hcj
      replace c0 := cell_bel c0 hB
      replace c1 := cell_bel c1 hB
      replace c2 := cell_bel c2 hB
      replace c3 := cell_bel c3 hB
      replace c4 := cell_bel c4 hB
      have HC := Lib.hid hcj; clear hcj
      by_cases hi : c.id = i
      · have hf := rAt_some hok.out HC.out hi
        have HF := Lib.hid hf; clear hf
        have g1 : (c.id == i) = true := by simpa using hi
        clear hi
        go_wp2
        go_ret
        exact ⟨by rw [HF.out]; rfl, by (repeat (first | (with_reducible exact Below.refl _ _) | (with_reducible assumption) | (with_reducible refine bel_al0 ?_ _) | (with_reducible refine bel_set ?_ (by first | (simp; done) | (simp; omega)) _) | (with_reducible refine bel_dr ?_) | (with_reducible refine bel_drn ?_ _) | (with_reducible refine bel_tr ?_ (by assumption))))⟩
      · have g1 : (c.id == i) = false := by simpa using hi
        go_wp2
        go_roundw
        case rel =>
          refine ⟨j + 1, by omega, by go_num, fun q c' hq hq' => ?_, by (repeat (first | (with_reducible exact Below.refl _ _) | (with_reducible assumption) | (with_reducible refine bel_al0 ?_ _) | (with_reducible refine bel_set ?_ (by first | (simp; done) | (simp; omega)) _) | (with_reducible refine bel_dr ?_) | (with_reducible refine bel_drn ?_ _) | (with_reducible refine bel_tr ?_ (by assumption))))⟩
          rcases Nat.lt_or_ge q j with h' | h'
          · exact hok q c' h' hq'
          · obtain rfl : q = j := by omega
            rw [HC.out] at hq'; cases hq'; exact hi
        case measure => simp [intOf]; omega
    · have hf : rAt R i = -1 := rAt_none (fun q c hq => hok q c (by have := (List.getElem?_eq_some_iff.1 hq).1; have := HN.out; omega) hq)
      have HF := Lib.hid hf; clear hf
      go_wp2
      go_ret
      exact ⟨by rw [HF.out]; rfl, hB⟩

def rFind (R : List CommitD) (i : Int) : Option CommitD := R.find? (fun c => c.id == i)
theorem rAt_cases (R : List CommitD) (i : Int) : (rAt R i = -1 ∧ rFind R i = none) ∨ ∃ (k : Nat) (c : CommitD), rAt R i = k ∧ R[k]? = some c ∧ c.id = i ∧ rFind R i = some c := by
  unfold rAt rFind
  cases h : R.findIdx? (fun c => c.id == i) with
  | none =>
    refine Or.inl ⟨rfl, ?_⟩
    rw [List.findIdx?_eq_none_iff] at h
    rw [List.find?_eq_none]
    intro c hc; simp [h c hc]
  | some k =>
    refine Or.inr ⟨k, ?_⟩
    rw [List.findIdx?_eq_some_iff_getElem] at h
    obtain ⟨hk, h1, h2⟩ := h
    refine ⟨R[k], rfl, List.getElem?_eq_getElem hk, by simpa using h1, ?_⟩
    rw [List.find?_eq_some_iff_getElem]
    exact ⟨h1, k, hk, rfl, fun j hj => by have := h2 j hj; simpa using this⟩

/-- what the document's Get leaves: the parents lie where they lay -/
def GetPost (w0 w : World) (c : CommitD) (b : Bool) (e : Ending) (w' : World) : Prop :=
  ∃ A k, e = .returned (.tuple #[.agg #[.int .u64 c.id, .slice A c.par.length k, .int .u64 c.gen, .int .u64 c.root, .string c.text], .bool b]) ∧ Flat w0 A (nums c.par) ∧ (A = none → c.par = []) ∧ Below w.heap.size w w'
theorem rget_calls (w0 w : World) (x : Nat) (R : List CommitD) (h0 : RGraphAt w0 x R) (hb0 : Below w0.heap.size w0 w) (hR : R.length ≤ 1000000) (i : Int) :
    Calls Tryz.prog 38 #[.pointer (some ⟨x, 0, none⟩), .int .u64 i] w (GetPost w0 w ((rFind R i).getD CommitD.zero) (rFind R i).isSome) := by
  have HA := Lib.hid (fun W hW => rat_calls W x R hW hR i)
  have hB := bel_al0 (Below.refl w.heap.size w) (.cells #[.int .u64 0, .slice none 0 0, .int .u64 0, .int .u64 0, .string ⟨#[]⟩] 41)
  have H := Lib.hid (h0.below hb0)
  have H0 := Lib.hid h0; clear h0
  have HB0 := Lib.hid hb0; clear hb0
  rcases rAt_cases R i with ⟨h1, h2⟩ | ⟨k, c, h1, h2, h3, h4⟩
  · rw [h1] at HA
    rw [h2]
    clear h1 h2
    go_enter Tryz.func38, Tryz.ntmps38
    go_wp2_with fail
    refine (HA.out _ (H.out.below hB)).mono ?_
    rintro e w1 ⟨rfl, hb1⟩
    have B0 := (blk_new w _ _).below hb1
    obtain ⟨x0, x1, x2, x3, x4, xf⟩ := B0.five
    clear B0
    go_wp2
    refine bodyPost_ret (v := .tuple #[.agg #[.int .u64 0, .slice none 0 0, .int .u64 0, .int .u64 0, .string ⟨#[]⟩], .bool false]) ?_ rfl ?_
    · simp [results, Tryz.results38, go_sem, x0, x1, x2, x3, x4]
    · exact ⟨none, 0, rfl, Flat.nil _ _, (fun _ => rfl), by (repeat (first | (with_reducible exact Below.refl _ _) | (with_reducible assumption) | (with_reducible refine bel_al0 ?_ _) | (with_reducible refine bel_set ?_ (by first | (simp; done) | (simp; omega)) _) | (with_reducible refine bel_dr ?_) | (with_reducible refine bel_drn ?_ _) | (with_reducible refine bel_tr ?_ (by assumption))))⟩
  · rw [h1] at HA
    rw [h4]
    clear h1 h4
    go_enter Tryz.func38, Tryz.ntmps38
    go_wp2_with fail
    refine (HA.out _ (H.out.below hB)).mono ?_
    rintro e w1 ⟨rfl, hb1⟩
    have B0 := (blk_new w _ _).below hb1
    obtain ⟨x0, x1, x2, x3, x4, xf⟩ := B0.five
    clear B0
    have hB1 := bel_tr HB0.out (bel_tr hB hb1)
    obtain ⟨A, q, hblk, hrow, _⟩ := H0.out
    have hc := hblk.one.1; clear hblk
    obtain ⟨b, off, A', k', rfl, c0, c1, c2, c3, c4, hf, hA'⟩ := hrow.at_ h2
    replace hc := cell_bel hc hB1
    replace c0 := cell_bel c0 hB1
    replace c1 := cell_bel c1 hB1
    replace c2 := cell_bel c2 hB1
    replace c3 := cell_bel c3 hB1
    replace c4 := cell_bel c4 hB1
    have hlt : k < R.length := (List.getElem?_eq_some_iff.1 h2).1
    have HFL := Lib.hid hf; clear hf
    have HAN := Lib.hid hA'; clear hA'
    obtain ⟨n, hn⟩ : ∃ n, n = R.length := ⟨_, rfl⟩
    rw [← hn] at hc hlt hR
    clear hn hrow h3 h2
    go_wp2
    refine bodyPost_ret (v := .tuple #[.agg #[.int .u64 c.id, .slice A' c.par.length k', .int .u64 c.gen, .int .u64 c.root, .string c.text], .bool true]) ?_ rfl ?_
    · simp [results, Tryz.results38, go_sem, x0, x1, x2, x3, x4]
    · refine ⟨A', k', rfl, HFL.out, HAN.out, ?_⟩
      clear hB1
      (repeat (first | (with_reducible exact Below.refl _ _) | (with_reducible assumption) | (with_reducible refine bel_al0 ?_ _) | (with_reducible refine bel_set ?_ (by first | (simp; done) | (simp; omega)) _) | (with_reducible refine bel_dr ?_) | (with_reducible refine bel_drn ?_ _) | (with_reducible refine bel_tr ?_ (by assumption))))
end Go.Proofs.YtehneliphhgegaaGreatDoor
end
section
set_option linter.unusedVariables false
set_option linter.unusedSimpArgs false
set_option maxRecDepth 100000
namespace Go.Proofs.YtehneliphhgegaaGreatDoor
open Go.RowKit Go.Apo

def parGenF (f : Int → Option CommitD) : List Int → Int → Option Int
  | [], g => some g
  | p :: ps, g => match f p with
    | none => none
    | some x => parGenF f ps (max g x.gen)
theorem parGenF_snoc (f : Int → Option CommitD) (p : Int) : ∀ (l : List Int) (g : Int), parGenF f (l ++ [p]) g = (parGenF f l g).bind fun g' => (f p).map fun x => max g' x.gen
  | [], g => by simp only [List.nil_append, parGenF]; cases f p <;> rfl
  | q :: l, g => by
    simp only [List.cons_append, parGenF]
    cases f q with
    | none => rfl
    | some x => exact parGenF_snoc f p l _
theorem parGenF_stop {f : Int → Option CommitD} {p : Int} (h : f p = none) : ∀ (l : List Int) (g : Int), p ∈ l → parGenF f l g = none
  | q :: l, g, hm => by
    simp only [parGenF]
    rcases List.mem_cons.1 hm with rfl | hm
    · rw [h]
    · cases f q with
      | none => rfl
      | some x => exact parGenF_stop h l _ hm
theorem parGen_F (L : List (Int × CommitD)) : ∀ (l : List Int) (g : Int), parGen L l g = parGenF (mget L) l g
  | [], g => rfl
  | p :: l, g => by
    simp only [parGen, parGenF]
    cases mget L p with
    | none => rfl
    | some x => exact parGen_F L l _

def raddE (R : List CommitD) (c : CommitD) : Int :=
  if rightE c = 0 then (if (rFind R c.id).isSome then 112 else match parGenF (rFind R) c.par 0 with
    | none => 120
    | some g => if c.gen = g + 1 then 0 else 120) else rightE c
/-- where a commit goes in -/
def rPos (R : List CommitD) (i : Int) : Nat := (R.takeWhile fun c => decide (c.id < i)).length
def rIns (R : List CommitD) (c : CommitD) : List CommitD := R.take (rPos R c.id) ++ [c] ++ R.drop (rPos R c.id)
def raddL (R : List CommitD) (c : CommitD) : List CommitD := if raddE R c = 0 then rIns R c else R
theorem rPos_le (R : List CommitD) (i : Int) : rPos R i ≤ R.length := by
  unfold rPos
  exact (List.takeWhile_sublist _).length_le
theorem rPos_stop {R : List CommitD} {i : Int} : ∀ {j : Nat}, (∀ (q : Nat) (c : CommitD), q < j → R[q]? = some c → c.id < i) → j ≤ R.length → (j = R.length ∨ ∃ c, R[j]? = some c ∧ ¬ c.id < i) → rPos R i = j := by
  induction R with
  | nil => intro j _ h2 _; simp at h2; subst h2; rfl
  | cons a R ih =>
    intro j h1 h2 h3
    cases j with
    | zero =>
      rcases h3 with h3 | ⟨c, hc, hn⟩
      · simp at h3
      · simp at hc; subst hc
        unfold rPos
        rw [List.takeWhile_cons_of_neg (by simpa using hn)]; rfl
    | succ j =>
      have ha : a.id < i := h1 0 a (by omega) rfl
      have := ih (j := j) (fun q c hq hc => h1 (q + 1) c (by omega) (by simpa using hc)) (by simp at h2; omega) (by
        rcases h3 with h3 | ⟨c, hc, hn⟩
        · left; simp at h3; omega
        · right; exact ⟨c, by simpa using hc, hn⟩)
      unfold rPos at this ⊢
      rw [List.takeWhile_cons_of_pos (by simpa using ha)]
      simp [this]
def RSmall (R : List CommitD) : Prop := ∀ i c, rFind R i = some c → 0 ≤ c.gen ∧ c.gen ≤ 1000000000
theorem infoCommit : (Tryz.prog.info? 41).map (fun i => (i.zero, i.size, i.bytes)) = some (some (.agg #[.int .u64 0, .slice none 0 0, .int .u64 0, .int .u64 0, .string ⟨#[]⟩]), 5, 64) := by kernel_rfl
/-- what a call of the document's Add leaves -/
structure RAdded (w : World) (x : Nat) (v : Int) (R' : List CommitD) (e : Ending) (w' : World) : Prop where
  e : e = .returned (.int .i64 v)
  t : RGraphAt w' x R'
  b : But x w w'

/-- a commit is set in between the others: the two appends -/
theorem ins_runs (wr : World) (x : Nat) (R : List CommitD) (A : Option Addr) (k : Nat) (hrow : CRow wr A R) (hA : A = none → R = [] ∧ k = 0) (j : Nat) (hj : j ≤ R.length) (hR : R.length ≤ 100000) (c : CommitD) (v0 v1 v2 v3 v4 : Value) (hc : commitIs wr c (.agg #[v0, v1, v2, v3, v4]))
    (A2 : Option Addr) (hA2 : ∀ b off, A = some ⟨b, off, none⟩ → j < R.length → A2 = some ⟨b, off + j * 5, none⟩) :
    ∃ u w2 g q w3, (Builtin.append_ #[22, 22] 22 #[.slice (some ⟨wr.heap.size, 0, none⟩) 1 1, .slice A2 (R.length - j) (k - j)]).run Tryz.prog (wr.drew.alloc (.cells #[v0, v1, v2, v3, v4] 41)) = .ok u w2 ∧
      (Builtin.append_ #[22, 22] 22 #[.slice A j j, u]).run Tryz.prog w2 = .ok (.slice (some ⟨g, 0, none⟩) (R.length + 1) q) w3 ∧ Below wr.heap.size wr w2 ∧ Below wr.heap.size wr w3 ∧ CRow w3 (some ⟨g, 0, none⟩) (R.take j ++ [c] ++ R.drop j) ∧ R.length + 1 ≤ q := by
  obtain ⟨cs, hcv, hfl⟩ := hrow
  have hlen := hcv.length
  obtain ⟨hcv1, hcv2⟩ := hcv.split j
  have hb1 : Below wr.heap.size wr (wr.drew.alloc (.cells #[v0, v1, v2, v3, v4] 41)) := (bel_dr (Below.refl _ wr)).alloc (Nat.le_refl _) _
  have hown := World.ownsRow_lit (base := wr.heap.size) (e := 41) (size := 5) wr.drew #[v0, v1, v2, v3, v4] 1 (Nat.le_refl _) (by unfold maxLen; omega) rfl
  have hnews : Flat wr A2 (cs.drop (j * 5)) := by
    intro h0
    rw [List.length_drop] at h0
    obtain ⟨b, off, e, hcc⟩ := hfl (by omega)
    refine ⟨b, off + j * 5, hA2 b off e (by omega), fun q u hq => ?_⟩
    rw [List.getElem?_drop] at hq
    have := hcc _ u hq
    rwa [← Nat.add_assoc] at this
  obtain ⟨u, w2, r1, r2, r3, r4⟩ := run_append_flat (P := Tryz.prog) (w := wr.drew.alloc (.cells #[v0, v1, v2, v3, v4] 41)) wr.heap.size 22 22 41 _ 5 64 Tryz.underlying22 infoCommit rfl (by decide) _ 1 _ hown A2 (R.length - j) (k - j) (cs.drop (j * 5)) (by rw [List.length_drop, hlen, Nat.sub_mul]) (hnews.below hb1) (fun u hu => hcv.one u (List.mem_of_mem_drop hu)) (by unfold maxLen; omega) (by omega) hb1.size
  have hb2 : Below wr.heap.size wr w2 := hb1.grown r3 hb1.size (fun kk hk => (hown.lt kk hk).1)
  obtain ⟨A3, c3, rfl, hc3⟩ := own_form r2
  have hx := hfl
  have hpre : Flat w2 A (cs.take (j * 5)) := by
    refine Flat.below ?_ hb2
    intro h0
    rw [List.length_take] at h0
    obtain ⟨b, off, e, hcc⟩ := hfl (by omega)
    refine ⟨b, off, e, fun q u hq => hcc q u ?_⟩
    rw [List.getElem?_take] at hq
    split at hq
    · exact hq
    · cases hq
  obtain ⟨g, q, w3, s1, s2, s3, s4, s5, s6⟩ := run_append_new (P := Tryz.prog) (w := w2) 22 22 41 _ 5 64 Tryz.underlying22 infoCommit rfl (by decide) A j j (cs.take (j * 5)) (by rw [List.length_take, hlen]; omega) hpre (fun e => by have := (hA e).1; subst this; simp at hj; exact ⟨hj, hj⟩) A3 (1 + (R.length - j)) c3 (by omega) (#[v0, v1, v2, v3, v4].toList ++ cs.drop (j * 5)) (by simp [hlen]; omega) (own_flat r2) (by unfold maxLen; omega) (by omega) (by omega)
  have hb3 : Below wr.heap.size wr w3 := bel_tr hb2 s5
  have e1 : j + (1 + (R.length - j)) = R.length + 1 := by omega
  rw [e1] at s1 s6
  refine ⟨_, w2, g, q, w3, r1, s1, hb2, hb3, ⟨_, ?_, s4⟩, s6⟩
  have hm : ∀ c v, commitIs wr c v → commitIs w3 c v := fun c v h => commitIs_below h hb3
  rw [List.append_assoc]
  exact (hcv1.mono hm).app (CVals.app (R := [c]) (cs := [v0, v1, v2, v3, v4]) ⟨hm _ _ hc, trivial⟩ (hcv2.mono hm))
theorem rFind_isSome {R : List CommitD} {i : Int} : ((0 : Int) ≤ rAt R i) ↔ (rFind R i).isSome = true := by
  rcases rAt_cases R i with ⟨h1, h2⟩ | ⟨k, c, h1, _, _, h4⟩
  · rw [h1, h2]; simp
  · rw [h1, h4]; simp
set_option maxHeartbeats 8000000 in
theorem radd_calls (w : World) (x : Nat) (R : List CommitD) (h : RGraphAt w x R) (hS : RSmall R) (hR : R.length ≤ 100000) (i g r : Int) (t : ByteArray) (A : Option Addr) (n k : Nat) (ps : List Int) (hn : ps.length = n) (hf : Flat w A (nums ps)) (hA : A = none → ps = []) (hg : 0 ≤ g) (ht : t.size ≤ 1000000) :
    Calls Tryz.prog 17 #[.pointer (some ⟨x, 0, none⟩), .agg #[.int .u64 i, .slice A n k, .int .u64 g, .int .u64 r, .string t]] w (RAdded w x (raddE R ⟨i, ps, g, r, t⟩) (raddL R ⟨i, ps, g, r, t⟩)) := by
  obtain ⟨z, hz⟩ : ∃ z, z = raddE R ⟨i, ps, g, r, t⟩ := ⟨_, rfl⟩
  obtain ⟨R', hR'⟩ : ∃ R', R' = raddL R ⟨i, ps, g, r, t⟩ := ⟨_, rfl⟩
  rw [← hz, ← hR']
  have hL' : R' = if z = 0 then rIns R ⟨i, ps, g, r, t⟩ else R := by rw [hR', hz]; rfl
  clear hR'
  unfold raddE at hz
  have HR := Lib.hid (fun W hW => rcommit_calls W i g r t A n k ps hn hW hg ht)
  have hp2 := @rightE_par ⟨i, ps, g, r, t⟩
  obtain ⟨e, he⟩ : ∃ e, e = rightE ⟨i, ps, g, r, t⟩ := ⟨_, rfl⟩
  rw [← he] at hz HR hp2
  clear he
  simp only at hz hp2
  have H := Lib.hid h; clear h
  have HF := Lib.hid hf; clear hf
  have HA := Lib.hid hA; clear hA
  have HN := Lib.hid hn; clear hn
  have HS := Lib.hid hS; clear hS
  have HL := Lib.hid hL'; clear hL'
  have HX := Lib.hid hz; clear hz
  have HP := Lib.hid hp2; clear hp2
  have HRR := Lib.hid hR; clear hR
  go_enter Tryz.func17, Tryz.ntmps17
  go_wp2_with fail
  have hB1 : Below w.heap.size w (w.alloc (.cells #[.int .u64 i, .slice A n k, .int .u64 g, .int .u64 r, .string t] 41)) := by (repeat (first | (with_reducible exact Below.refl _ _) | (with_reducible assumption) | (with_reducible refine bel_al0 ?_ _) | (with_reducible refine bel_set ?_ (by first | (simp; done) | (simp; omega)) _) | (with_reducible refine bel_dr ?_) | (with_reducible refine bel_drn ?_ _) | (with_reducible refine bel_tr ?_ (by assumption))))
  refine (HR.out _ (HF.out.below hB1)).mono ?_
  rintro e' w1 ⟨rfl, hb1⟩
  have hB : Below w.heap.size w w1 := bel_tr hB1 hb1
  by_cases he0 : e = 0
  · subst he0
    have hx := HX.out
    rw [if_pos rfl] at hx
    clear HX
    have HX := Lib.hid hx; clear hx
    have HB1 := Lib.hid ((blk_new w _ _).below hb1)
    obtain ⟨x0, x1, x2, x3, x4, xf⟩ := HB1.out.five
    have hn2 : n ≤ 2 := by have := HP.out rfl; rw [HN.out] at this; exact this
    have HAT := Lib.hid (rat_calls w1 x R (H.out.below hB) (by have := HRR.out; omega) i)
    have hfs := @rFind_isSome R i
    obtain ⟨ai, hai⟩ : ∃ ai, ai = rAt R i := ⟨_, rfl⟩
    rw [← hai] at HAT hfs
    clear hai
    by_cases hin : (rFind R i).isSome = true
    · rw [if_pos hin] at HX
      have ha0 : (0 : Int) ≤ ai := hfs.2 hin
      clear hfs hin
      have hx := HX.out
      subst hx
      have hl := HL.out
      obtain rfl : R' = R := by simpa using hl
      clear hl HL HX xf
      go_wp2_with (go_at_call 37; refine HAT.out.mono ?_; rintro e w2 ⟨rfl, hb2⟩)
      go_ret
      have hbb := bel_tr hB hb2
      exact ⟨rfl, H.out.below hbb, But.of_below hbb⟩
    · rw [if_neg hin] at HX
      have ha0 : ¬ (0 : Int) ≤ ai := fun q => hin (hfs.1 q)
      clear hfs
      have HIN := Lib.hid hin; clear hin
      go_wp2_with (go_at_call 37; refine HAT.out.mono ?_; rintro e w2 ⟨rfl, hb2⟩; replace x0 := cell_bel x0 hb2; replace x1 := cell_bel x1 hb2; replace x2 := cell_bel x2 hb2; replace x3 := cell_bel x3 hb2; replace x4 := cell_bel x4 hb2)
      have hB2 := bel_tr hB hb2
      go_loopw [25, 6, 8, 9, 10] (fun v u _ _ _ wr => ∃ (j : Nat) (gj : Int), j ≤ n ∧ v = .int .i64 j ∧ u = .int .u64 gj ∧ Hid (parGenF (rFind R) (ps.take j) 0 = some gj) ∧ 0 ≤ gj ∧ gj ≤ 1000000000 ∧ Below w2.heap.size w2 wr) (fun v _ _ _ _ _ => n - (intOf v).toNat)
      case atStart => exact ⟨0, 0, Nat.zero_le _, rfl, rfl, rfl, by omega, by omega, by (repeat (first | (with_reducible exact Below.refl _ _) | (with_reducible assumption) | (with_reducible refine bel_al0 ?_ _) | (with_reducible refine bel_set ?_ (by first | (simp; done) | (simp; omega)) _) | (with_reducible refine bel_dr ?_) | (with_reducible refine bel_drn ?_ _) | (with_reducible refine bel_tr ?_ (by assumption))))⟩
      case round =>
        obtain ⟨j, gj, hj, rfl, rfl, hpg, hg0, hg1, hBr⟩ := hrel
        replace x0 := cell_bel x0 hBr
        replace x1 := cell_bel x1 hBr
        replace x2 := cell_bel x2 hBr
        replace x3 := cell_bel x3 hBr
        replace x4 := cell_bel x4 hBr
        by_cases hjn : j < n
        · obtain ⟨pj, hpj⟩ : ∃ pj, ps[j]? = some pj := ⟨_, List.getElem?_eq_getElem (by rw [HN.out]; exact hjn)⟩
          obtain ⟨b, off, rfl, cj⟩ := HF.out.at_ (nums_at hpj)
          replace cj := cell_bel cj (bel_tr hB2 hBr)
          have htk : ps.take (j + 1) = ps.take j ++ [pj] := by rw [List.take_add_one, hpj]; rfl
          have hmem : pj ∈ ps := List.mem_of_getElem? hpj
          have HTK := Lib.hid htk; clear htk hpj
          have HMEM := Lib.hid hmem; clear hmem
          have hgc := fun W hW => rget_calls W W x R hW (Below.refl _ _) (by have := HRR.out; omega) pj
          cases hpl : rFind R pj with
          | none =>
            have hx := HX.out
            rw [parGenF_stop hpl ps 0 HMEM.out] at hx
            simp only at hx
            subst hx
            have hl' := HL.out
            obtain rfl : R' = R := by simpa using hl'
            clear hl' HL HX
            rw [hpl] at hgc
            clear hpl
            have HGC := Lib.hid hgc; clear hgc
            go_wp2_with (go_at_call 38; refine (HGC.out _ (H.out.below (bel_tr hB2 hBr))).mono ?_; rintro e w3 ⟨A3, k3, rfl, hf3, hA3, hb3⟩; clear hf3 hA3)
            go_ret
            have hbb := bel_al0 (bel_tr (bel_tr hB2 hBr) hb3) (.cells #[.int .u64 0, .slice A3 0 k3, .int .u64 0, .int .u64 0, .string ⟨#[]⟩] 41)
            exact ⟨rfl, H.out.below hbb, But.of_below hbb⟩
          | some cp =>
            have hsm := HS.out pj cp hpl
            have hnew : Hid (parGenF (rFind R) (ps.take (j + 1)) 0 = some (max gj cp.gen)) := by
              show parGenF (rFind R) (ps.take (j + 1)) 0 = _
              rw [HTK.out, parGenF_snoc, hpg.out, Option.bind_some, hpl]; rfl
            rw [hpl] at hgc
            clear hpl
            have HGC := Lib.hid hgc; clear hgc
            by_cases hgt : gj < cp.gen
            · have hmx : max gj cp.gen = cp.gen := by omega
              rw [hmx] at hnew
              clear hmx
              go_wp2_with (go_at_call 38; refine (HGC.out _ (H.out.below (bel_tr hB2 hBr))).mono ?_; rintro e w3 ⟨A3, k3, rfl, hf3, hA3, hb3⟩; clear hf3 hA3)
              go_roundw
              case rel => exact ⟨j + 1, _, by omega, by go_num, rfl, hnew, hsm.1, hsm.2, by (repeat (first | (with_reducible exact Below.refl _ _) | (with_reducible assumption) | (with_reducible refine bel_al0 ?_ _) | (with_reducible refine bel_set ?_ (by first | (simp; done) | (simp; omega)) _) | (with_reducible refine bel_dr ?_) | (with_reducible refine bel_drn ?_ _) | (with_reducible refine bel_tr ?_ (by assumption))))⟩
              case measure => simp [intOf]; omega
            · have hmx : max gj cp.gen = gj := by omega
              rw [hmx] at hnew
              clear hmx
              have hgt' : decide (gj < cp.gen) = false := by simpa using hgt
              go_wp2_with (go_at_call 38; refine (HGC.out _ (H.out.below (bel_tr hB2 hBr))).mono ?_; rintro e w3 ⟨A3, k3, rfl, hf3, hA3, hb3⟩; clear hf3 hA3)
              go_roundw
              case rel => exact ⟨j + 1, _, by omega, by go_num, rfl, hnew, hg0, hg1, by (repeat (first | (with_reducible exact Below.refl _ _) | (with_reducible assumption) | (with_reducible refine bel_al0 ?_ _) | (with_reducible refine bel_set ?_ (by first | (simp; done) | (simp; omega)) _) | (with_reducible refine bel_dr ?_) | (with_reducible refine bel_drn ?_ _) | (with_reducible refine bel_tr ?_ (by assumption))))⟩
              case measure => simp [intOf]; omega
        · have hjn' : j = n := by omega
          have htk : ps.take j = ps := by rw [List.take_of_length_le]; rw [HN.out]; omega
          have hpg' := hpg.out
          rw [htk] at hpg'
          have hx := HX.out
          rw [hpg'] at hx
          simp only at hx
          clear HX hpg hpg' htk
          by_cases hgg : g = gj + 1
          · rw [if_pos hgg] at hx
            subst hx
            have hl' := HL.out
            obtain rfl : R' = rIns R ⟨i, ps, g, r, t⟩ := by simpa using hl'
            clear hl' HL
            have g5 : (g == gj + 1) = true := by simpa using hgg
            clear hgg
            have hBB := bel_tr hB2 hBr
            obtain ⟨A4, k4, hblk, hrow, hA4, hk4⟩ := H.out
            have hxc := cell_bel hblk.one.1 hBB
            obtain ⟨m, hm⟩ : ∃ m, m = R.length := ⟨_, rfl⟩
            rw [← hm] at hxc hk4
            have HM := Lib.hid hm; clear hm
            have HBLK := Lib.hid (hblk.below hBB); clear hblk
            have HROW := Lib.hid (hrow.below hBB); clear hrow
            have HA4 := Lib.hid hA4; clear hA4
            have hm1 : m ≤ 100000 := by have := HRR.out; rw [HM.out]; exact this
            go_upto_block 2 with fail
            go_cut [11] from 49 to 70 (fun s11 wx => ∃ jj : Nat, jj ≤ m ∧ s11 = .int .i64 jj ∧ Hid (rPos R i = jj) ∧ Below wr.heap.size wr wx)
            case first =>
              go_wp2_with fail
              go_loopw [11] (fun v wq => ∃ jj : Nat, jj ≤ m ∧ v = .int .i64 jj ∧ Hid (∀ q c, q < jj → R[q]? = some c → c.id < i) ∧ Below wr.heap.size wr wq) (fun v _ => m - (intOf v).toNat)
              case atStart => exact ⟨0, Nat.zero_le _, rfl, fun q _ hq => absurd hq (Nat.not_lt_zero _), by (repeat (first | (with_reducible exact Below.refl _ _) | (with_reducible assumption) | (with_reducible refine bel_al0 ?_ _) | (with_reducible refine bel_set ?_ (by first | (simp; done) | (simp; omega)) _) | (with_reducible refine bel_dr ?_) | (with_reducible refine bel_drn ?_ _) | (with_reducible refine bel_tr ?_ (by assumption))))⟩
              case round =>
                obtain ⟨jj, hjj, rfl, hok, hBq⟩ := hrel
                replace hxc := cell_bel hxc hBq
                replace x0 := cell_bel x0 hBq
                replace x1 := cell_bel x1 hBq
                replace x2 := cell_bel x2 hBq
                replace x3 := cell_bel x3 hBq
                replace x4 := cell_bel x4 hBq
                by_cases hlt : jj < m
                · obtain ⟨c, hcj⟩ : ∃ c, R[jj]? = some c := ⟨_, List.getElem?_eq_getElem (by rw [← HM.out]; exact hlt)⟩
                  obtain ⟨b, off, A', k', rfl, c0, c1, c2, c3, c4, _⟩ := HROW.out.at_ hcj
                  replace c0 := cell_bel c0 hBq
                  have HC := Lib.hid hcj; clear hcj c1 c2 c3 c4
                  have hd1 : decide ((jj : Int) < (m : Int)) = true := by simp; omega
                  by_cases hci : c.id < i
                  · have hd2 : decide (c.id < i) = true := by simpa using hci
                    go_wp2
                    go_quiet (fail)
                    go_wp2
                    go_roundw
                    case rel =>
                      refine ⟨jj + 1, by omega, by go_num, fun q c' hq hq' => ?_, by (repeat (first | (with_reducible exact Below.refl _ _) | (with_reducible assumption) | (with_reducible refine bel_al0 ?_ _) | (with_reducible refine bel_set ?_ (by first | (simp; done) | (simp; omega)) _) | (with_reducible refine bel_dr ?_) | (with_reducible refine bel_drn ?_ _) | (with_reducible refine bel_tr ?_ (by assumption))))⟩
                      rcases Nat.lt_or_ge q jj with h' | h'
                      · exact hok.out q c' h' hq'
                      · obtain rfl : q = jj := by omega
                        rw [HC.out] at hq'; cases hq'; exact hci
                    case measure => simp [intOf]; omega
                  · have hd2 : decide (c.id < i) = false := by simpa using hci
                    have hpos := Lib.hid (rPos_stop (R := R) hok.out (by rw [← HM.out]; omega) (Or.inr ⟨c, HC.out, hci⟩))
                    clear hci
                    go_wp2
                    go_quiet (fail)
                    go_wp2
                    go_meet
                    exact ⟨jj, hjj, rfl, hpos, by (repeat (first | (with_reducible exact Below.refl _ _) | (with_reducible assumption) | (with_reducible refine bel_al0 ?_ _) | (with_reducible refine bel_set ?_ (by first | (simp; done) | (simp; omega)) _) | (with_reducible refine bel_dr ?_) | (with_reducible refine bel_drn ?_ _) | (with_reducible refine bel_tr ?_ (by assumption))))⟩
                · have hd1 : decide ((jj : Int) < (m : Int)) = false := by simp; omega
                  have hpos := Lib.hid (rPos_stop (R := R) hok.out (by rw [← HM.out]; omega) (Or.inl (by rw [← HM.out]; omega)))
                  go_wp2
                  go_quiet (fail)
                  go_wp2
                  go_meet
                  exact ⟨jj, hjj, rfl, hpos, by (repeat (first | (with_reducible exact Below.refl _ _) | (with_reducible assumption) | (with_reducible refine bel_al0 ?_ _) | (with_reducible refine bel_set ?_ (by first | (simp; done) | (simp; omega)) _) | (with_reducible refine bel_dr ?_) | (with_reducible refine bel_drn ?_ _) | (with_reducible refine bel_tr ?_ (by assumption))))⟩
            case rest =>
              obtain ⟨jj, hjj, rfl, hpos, hBq⟩ := hcut
              replace hxc := cell_bel hxc hBq
              replace x0 := cell_bel x0 hBq
              replace x1 := cell_bel x1 hBq
              replace x2 := cell_bel x2 hBq
              replace x3 := cell_bel x3 hBq
              replace x4 := cell_bel x4 hBq
              have hfz : wc.frozen? ⟨x, 0, none⟩ = false := (HBLK.out.below hBq).one.2 0
              have hxl := cell_lt hxc
              have hjk : jj ≤ k4 := by omega
              obtain ⟨A2, hA2, hA2'⟩ : ∃ A2, (if k4 = jj then A4 else Option.map (fun a => a.add (jj * 5)) A4) = A2 ∧ (∀ b off, A4 = some ⟨b, off, none⟩ → jj < R.length → A2 = some ⟨b, off + jj * 5, none⟩) := ⟨_, rfl, fun b off e hl => by
                rw [← HM.out] at hl
                rw [if_neg (by omega), e]
                simp [add_pl']⟩
              obtain ⟨u, w5, q5, q6, w6, r1, r2, r0, r3, r4, r5⟩ := ins_runs wc x R A4 k4 (HROW.out.below hBq) HA4.out jj (by rw [← HM.out]; exact hjj) HRR.out ⟨i, ps, g, r, t⟩ (.int .u64 i) (.slice A n k) (.int .u64 g) (.int .u64 r) (.string t) ⟨A, k, by rw [← HN.out], HF.out.below (bel_tr hBB hBq), HA.out⟩ A2 hA2'
              rw [← HM.out] at r1 r2 r5
              have hxc5 := cell_bel hxc r0; clear r0
              have hxc6 := cell_bel hxc r3
              have hfz6 : w6.frozen? ⟨x, 0, none⟩ = false := (r3.frozen (p := ⟨x, 0, none⟩) hxl).trans hfz
              have e : (rIns R ⟨i, ps, g, r, t⟩).length = m + 1 := by unfold rIns; rw [hpos.out]; simp [HM.out]; have := HM.out; omega
              have hblk6 := (HBLK.out.below hBq).below r3
              have hFIN : RAdded w x 0 (rIns R ⟨i, ps, g, r, t⟩) (.returned (.int .i64 0)) (w6.setCell ⟨x, 0, none⟩ (.slice (some ⟨q5, 0, none⟩) (m + 1) q6)) := by
                refine ⟨rfl, ⟨some ⟨q5, 0, none⟩, q6, ?_, CRow.but hblk6 (But.set _ _ _ _) ?_, (fun e => by cases e), ?_⟩, ?_⟩
                · have := hblk6.set 0 (.slice (some ⟨q5, 0, none⟩) (m + 1) q6)
                  rw [e]; exact this
                · unfold rIns; rw [hpos.out]; exact r4
                · rw [e]; exact r5
                · exact (But.of_below (bel_tr (bel_tr hBB hBq) r3)).trans (But.set _ _ _ _)
              have HFIN := Lib.hid hFIN
              have HR1 := Lib.hid r1
              have HR2 := Lib.hid r2
              clear hFIN r1 r2 r3 r4 r5 hblk6 e hpos hBB hBr hb1 hb2 hB1 hB2 hB hBq HN HF HA HP HM HBLK HROW HA4 HRR HS HR H HB1 HAT HIN hA2' hg ht
              go_wp2
              go_region_law (first | (refine step_append_run rfl (.tmp 80) (.tmp 86) 22 rfl _ _ rfl rfl HR1.out ?_) | (refine step_append_run rfl (.tmp 78) (.tmp 87) 22 rfl _ _ rfl rfl HR2.out ?_))
              all_goals (
                go_wp2
                go_ret
                exact HFIN.out)
          · rw [if_neg hgg] at hx
            subst hx
            have hl' := HL.out
            obtain rfl : R' = R := by simpa using hl'
            clear hl' HL
            have g5 : (g == gj + 1) = false := by simpa using hgg
            clear hgg
            go_wp2
            go_ret
            exact ⟨rfl, H.out.below (bel_tr hB2 hBr), But.of_below (bel_tr hB2 hBr)⟩
  · have hx := HX.out
    rw [if_neg he0] at hx
    subst hx
    have hl := HL.out
    rw [if_neg he0] at hl
    subst hl
    have g1 : (z == 0) = false := by simpa using he0
    have g2 : (!(z == 0)) = true := by simpa using he0
    clear he0
    go_wp2
    go_ret
    exact ⟨rfl, H.out.below hB, But.of_below hB⟩
end Go.Proofs.YtehneliphhgegaaGreatDoor
end
