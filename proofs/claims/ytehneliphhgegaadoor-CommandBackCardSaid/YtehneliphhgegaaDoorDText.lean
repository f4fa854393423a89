/- Which texts may be: the program's and the document's, each walked once (turned from the other seat's GraphAll, RefGraphAll). -/
import Derived.Test.YtehneliphhgegaaDoorDName
set_option linter.unusedVariables false
set_option linter.unusedSimpArgs false
set_option maxRecDepth 100000
namespace Go.Proofs.YtehneliphhgegaaDoor
open Go.RowKit Go.Apo

def chT (c : Nat) : Bool := decide (c < 32) || decide (126 < c)
theorem chT_iff (c : Nat) : chT c = true ↔ c < 32 ∨ 126 < c := by simp [chT]
def textB (s : ByteArray) : Bool := decide (s.size ≤ 60) && (List.range s.size).all fun k => !chT (byteAt s k)
theorem textB_long {s : ByteArray} (h : 60 < s.size) : textB s = false := by unfold textB; simp; omega
theorem textB_at {s : ByteArray} {k : Nat} (hk : k < s.size) (h : chT (byteAt s k) = true) : textB s = false := by
  unfold textB
  have : ((List.range s.size).all fun k => !chT (byteAt s k)) = false := by
    rw [List.all_eq_false]
    exact ⟨k, List.mem_range.2 hk, by simp [h]⟩
  simp [this]
theorem textB_yes {s : ByteArray} (h2 : s.size ≤ 60) (h : ∀ k, k < s.size → chT (byteAt s k) = false) : textB s = true := by
  unfold textB
  simp only [h2, decide_true, Bool.true_and, List.all_eq_true, List.mem_range]
  intro k hk; simp [h k hk]

theorem text1_calls (b : Nat) (hb : b < 256) (w : World) : Calls Tryd.prog 93 #[.int .u8 b] w fun e w' => e = .returned (.bool (chT b)) ∧ w = w' := by
  by_cases h1 : b < 32
  · have hc : chT b = true := (chT_iff b).2 (Or.inl h1)
    have HC := Lib.hid hc; clear hc
    have g1 : decide ((b : Int) < 32) = true := by simp; omega
    go_enter Tryd.func93, Tryd.ntmps93
    go_wp2
    go_ret
    exact ⟨by rw [HC.out]; rfl, rfl⟩
  · have hc : chT b = decide ((126 : Int) < b) := by
      unfold chT
      rw [show decide (b < 32) = false from by simpa using h1, Bool.false_or]
      by_cases h : 126 < b
      · simp [h]; omega
      · simp [h]; omega
    have HC := Lib.hid hc; clear hc
    have g1 : decide ((b : Int) < 32) = false := by simp; omega
    go_enter Tryd.func93, Tryd.ntmps93
    go_wp2
    go_ret
    exact ⟨by rw [HC.out]; rfl, rfl⟩

/-- the first bad byte's place, or -1 -/
def IdxPost (w : World) (s : ByteArray) (e : Ending) (w' : World) : Prop :=
  ∃ r : Int, e = .returned (.int .i64 r) ∧ w = w' ∧ ((0 ≤ r ∧ ∃ k, k < s.size ∧ chT (byteAt s k) = true) ∨ (r = -1 ∧ ∀ k, k < s.size → chT (byteAt s k) = false))
theorem indexT_calls (w : World) (s : ByteArray) (b c : Nat) (hs : s.size ≤ 60) (hc : ∀ j, j < s.size → w.cell? ⟨b, j, none⟩ = some (.int .u8 (byteAt s j))) :
    Calls Tryd.prog 123 #[.slice (some ⟨b, 0, none⟩) s.size c, .func (.func 93) #[] #[]] w (IdxPost w s) := by
  have HC := Lib.hid hc; clear hc
  go_enter Tryd.func123, Tryd.ntmps123
  go_wp2
  go_loop [8, 5] (fun i _ => ∃ k : Nat, k ≤ s.size ∧ i = .int .i64 k ∧ Hid (∀ j, j < k → chT (byteAt s j) = false)) (fun i _ => s.size - (intOf i).toNat)
  case atStart => exact ⟨0, Nat.zero_le _, rfl, fun j hj => absurd hj (Nat.not_lt_zero _)⟩
  case round =>
    obtain ⟨k, hk, rfl, hok⟩ := hrel
    by_cases hlt : k < s.size
    · have hcell := HC.out k hlt
      have hbt := byteAt_lt s k
      obtain ⟨x, hx⟩ : ∃ x, x = byteAt s k := ⟨_, rfl⟩
      rw [← hx] at hcell hbt
      have HX := Lib.hid hx; clear hx
      have C := Lib.hid (text1_calls x hbt w)
      obtain ⟨q, hq⟩ : ∃ q, q = chT x := ⟨_, rfl⟩
      rw [← hq] at C
      have HQ := Lib.hid hq; clear hq
      cases q with
      | true =>
        go_wp2_with (go_at_call 93; refine C.out.mono ?_; rintro e w' ⟨rfl, rfl⟩)
        go_ret
        exact ⟨_, rfl, rfl, Or.inl ⟨by omega, k, hlt, by rw [← HX.out]; exact HQ.out.symm⟩⟩
      | false =>
        go_wp2_with (go_at_call 93; refine C.out.mono ?_; rintro e w' ⟨rfl, rfl⟩)
        go_round
        case rel =>
          refine ⟨k + 1, by omega, by go_num, fun j hj => ?_⟩
          rcases Nat.lt_or_ge j k with h' | h'
          · exact hok j h'
          · obtain rfl : j = k := by omega
            rw [← HX.out]; exact HQ.out.symm
        case measure => simp [intOf]; omega
    · go_wp2
      go_ret
      exact ⟨_, rfl, rfl, Or.inr ⟨rfl, fun j hj => hok j (by omega)⟩⟩

theorem containsT_calls (w : World) (s : ByteArray) (b c : Nat) (hs : s.size ≤ 60) (hc : ∀ j, j < s.size → w.cell? ⟨b, j, none⟩ = some (.int .u8 (byteAt s j))) :
    Calls Tryd.prog 92 #[.slice (some ⟨b, 0, none⟩) s.size c, .func (.func 93) #[] #[]] w fun e w' => e = .returned (.bool (!textB s)) ∧ w = w' := by
  have HI := Lib.hid (indexT_calls w s b c hs hc)
  clear hc
  go_enter Tryd.func92, Tryd.ntmps92
  go_wp2_with fail
  refine HI.out.mono ?_
  rintro e w' ⟨r, rfl, rfl, hr⟩
  rcases hr with ⟨h0, k, hk, hb⟩ | ⟨h0, hall⟩
  · have hc := textB_at hk hb
    have HC := Lib.hid hc; clear hc hb
    go_wp2
    go_ret
    exact ⟨by rw [HC.out]; rfl, rfl⟩
  · have hc := textB_yes hs hall
    have HC := Lib.hid hc; clear hc hall
    subst h0
    go_wp2
    go_ret
    exact ⟨by rw [HC.out]; rfl, rfl⟩

theorem text_calls (s : ByteArray) (w : World) : Calls Tryd.prog 49 #[.string s] w fun e w' => e = .returned (.bool (textB s)) ∧ Below w.heap.size w w' := by
  by_cases h1 : 60 < s.size
  · have hc := textB_long h1
    have HC := Lib.hid hc; clear hc
    have g1 : decide ((60 : Int) < s.size) = true := by simp; omega
    go_enter Tryd.func49, Tryd.ntmps49
    go_wp2
    go_ret
    exact ⟨by rw [HC.out]; rfl, Below.refl _ _⟩
  · have g1 : decide ((60 : Int) < s.size) = false := by simp; omega
    obtain ⟨w1, c, hrun, hb, hz, hcell⟩ := bytes_row (P := Tryd.prog) w 9 35 5 s Tryd.underlying9 Tryd.underlying35 Tryd.underlying5
    have hI := containsT_calls w1 s w.heap.size c (by omega) hcell
    obtain ⟨q, hq⟩ : ∃ q, q = textB s := ⟨_, rfl⟩
    rw [← hq] at hI ⊢
    have HI := Lib.hid hI; clear hI hq
    clear hcell hz
    go_enter Tryd.func49, Tryd.ntmps49
    go_wp2_with fail
    refine HI.out.mono ?_
    rintro e w' ⟨rfl, rfl⟩
    go_wp2
    go_ret
    exact ⟨by simp, hb⟩

theorem rtext_calls (s : ByteArray) (hs : s.size ≤ 1000000) (w : World) : Calls Tryd.prog 54 #[.string s] w fun e w' => e = .returned (.bool (textB s)) ∧ w = w' := by
  go_enter Tryd.func54, Tryd.ntmps54
  go_wp2
  go_loop [3] (fun i => ∃ k : Nat, k ≤ s.size ∧ i = .int .i64 k ∧ Hid (∀ j, j < k → chT (byteAt s j) = false)) (fun i => s.size - (intOf i).toNat)
  case atStart => exact ⟨0, Nat.zero_le _, rfl, fun j hj => absurd hj (Nat.not_lt_zero _)⟩
  case round =>
    obtain ⟨k, hk, rfl, hok⟩ := hrel
    by_cases hlt : k < s.size
    · have hbt := byteAt_lt s k
      have hx := byteAt_get s k hlt
      by_cases h1 : byteAt s k < 32
      · have hf := textB_at hlt ((chT_iff _).2 (Or.inl h1))
        have HF := Lib.hid hf; clear hf
        have g1 : decide (((s[k]).toNat : Int) < 32) = true := by rw [hx]; simp; omega
        clear hx
        go_wp2
        go_ret
        exact ⟨by rw [HF.out]; rfl, rfl⟩
      · have g1 : decide (((s[k]).toNat : Int) < 32) = false := by rw [hx]; simp; omega
        by_cases h2 : 126 < byteAt s k
        · have hf := textB_at hlt ((chT_iff _).2 (Or.inr h2))
          have HF := Lib.hid hf; clear hf
          have g2 : decide ((126 : Int) < ((s[k]).toNat : Int)) = true := by rw [hx]; simp; omega
          clear hx
          go_wp2
          go_ret
          exact ⟨by rw [HF.out]; rfl, rfl⟩
        · have g2 : decide ((126 : Int) < ((s[k]).toNat : Int)) = false := by rw [hx]; simp; omega
          have hc : chT (byteAt s k) = false := by
            cases h : chT (byteAt s k)
            · rfl
            · have := (chT_iff _).1 h; omega
          have HC := Lib.hid hc; clear hc hx
          go_wp2
          go_round
          case rel =>
            refine ⟨k + 1, by omega, by go_num, fun j hj => ?_⟩
            rcases Nat.lt_or_ge j k with h' | h'
            · exact hok j h'
            · obtain rfl : j = k := by omega
              exact HC.out
          case measure => simp [intOf]; omega
    · have hf : textB s = decide ((s.size : Int) ≤ 60) := by
        by_cases h6 : s.size ≤ 60
        · rw [textB_yes h6 (fun j hj => hok j (by omega))]; simp; omega
        · rw [textB_long (by omega)]; simp; omega
      have HF := Lib.hid hf; clear hf
      go_wp2
      go_ret
      exact ⟨by rw [HF.out]; rfl, rfl⟩

end Go.Proofs.YtehneliphhgegaaDoor
