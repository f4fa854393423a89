/- Branches and tags: what each function of the package refs does, walked once. -/
import Derived.Test.YtehneliphhgegaaBase
set_option linter.unusedVariables false
set_option linter.unusedSimpArgs false
set_option maxRecDepth 100000
namespace Go.Proofs.Ytehneliphhgegaa
open Go.RowKit Go.Apo

structure RefD where
  name : ByteArray
  tag : Bool
  id : Int
def RefD.zero : RefD := ⟨⟨#[]⟩, false, 0⟩
def refIs (_ : World) (r : RefD) (v : Value) : Prop := v = .agg #[.string r.name, .bool r.tag, .int .u64 r.id]

/-- a table behind a pointer -/
def TableAt (w : World) (p : Nat) (m : Nat) (L : List (ByteArray × RefD)) : Prop := w.cell? ⟨p, 0, none⟩ = some (.map (some m)) ∧ MapIs Value.string refIs w m L

theorem keyS : KeyT Try.prog 9 Value.string := keyT_string Try.underlying9
theorem zeroRef (W : World) : (zeroValue 26).run Try.prog W = .ok (.agg #[.string ⟨#[]⟩, .bool false, .int .u64 0]) W := by kernel_rfl
theorem refs_onCells : OnCells refIs := onCells_plain _

theorem TableAt.below {w w' : World} {p m : Nat} {L : List (ByteArray × RefD)} (h : TableAt w p m L) (hb : Below w.heap.size w w') : TableAt w' p m L :=
  ⟨cell_bel h.1 hb, h.2.below refs_onCells hb⟩

theorem ok_yes (p m : Nat) (w : World) (h : w.cell? ⟨p, 0, none⟩ = some (.map (some m))) :
    Calls Try.prog 74 #[.pointer (some ⟨p, 0, none⟩)] w fun e w' => e = .returned (.bool true) ∧ w = w' := by
  have hn := fun w r => run_neq_map_nil (P := Try.prog) w 97 9 26 r Try.underlying97
  go_enter Try.func74, Try.ntmps74
  go_wp2
  go_ret
  exact ⟨rfl, rfl⟩
theorem ok_nil  (w : World) :
    Calls Try.prog 74 #[.pointer none] w fun e w' => e = .returned (.bool false) ∧ w = w' := by
  have hn := fun w r => run_neq_map_nil (P := Try.prog) w 97 9 26 r Try.underlying97
  go_enter Try.func74, Try.ntmps74
  go_wp2
  go_ret
  exact ⟨rfl, rfl⟩

theorem get_none (p m : Nat) (w : World) (L : List (ByteArray × RefD)) (h : TableAt w p m L) (s : ByteArray) (hl : mget L s = none) :
    Calls Try.prog 22 #[.pointer (some ⟨p, 0, none⟩), .string s] w fun e w' => e = .returned (.tuple #[.agg #[.string ⟨#[]⟩, .bool false, .int .u64 0], .bool false]) ∧ Below w.heap.size w w' := by
  have hc := h.1
  have hlt : p < w.heap.size := cell_lt hc
  have hB := (Below.refl w.heap.size w).alloc (Nat.le_refl _) (.cells #[.string ⟨#[]⟩, .bool false, .int .u64 0] 26)
  go_enter Try.func22, Try.ntmps22
  go_wp2_with (first | (go_at_call 74; refine (ok_yes p m _ (cell_al hc _)).mono ?_; rintro e w' ⟨rfl, rfl⟩) | (at_lookup; refine wpl_look_none rfl true _ _ 97 26 rfl keyS Try.underlying97 _ (fun W => zeroRef W) rfl s rfl (h.below ?_).2 hl ?_; exact hB))
  refine bodyPost_ret (v := .tuple #[.agg #[.string ⟨#[]⟩, .bool false, .int .u64 0], .bool false]) (by simp [results, Try.results22, go_sem]) rfl ⟨rfl, ?_⟩
  clear hB
  (repeat (first | (with_reducible exact Below.refl _ _) | (with_reducible assumption) | (with_reducible refine bel_al0 ?_ _) | (with_reducible refine bel_set ?_ (by first | (simp; done) | (simp; omega)) _) | (with_reducible refine bel_dr ?_) | (with_reducible refine bel_drn ?_ _) | (with_reducible refine bel_tr ?_ (by assumption))))

theorem get_some (p m : Nat) (w : World) (L : List (ByteArray × RefD)) (h : TableAt w p m L) (s : ByteArray) {r : RefD} (hl : mget L s = some r) :
    Calls Try.prog 22 #[.pointer (some ⟨p, 0, none⟩), .string s] w fun e w' => e = .returned (.tuple #[.agg #[.string r.name, .bool r.tag, .int .u64 r.id], .bool true]) ∧ Below w.heap.size w w' := by
  have hc := h.1
  have hlt : p < w.heap.size := cell_lt hc
  have hB := (Below.refl w.heap.size w).alloc (Nat.le_refl _) (.cells #[.string ⟨#[]⟩, .bool false, .int .u64 0] 26)
  go_enter Try.func22, Try.ntmps22
  go_wp2_with (first | (go_at_call 74; refine (ok_yes p m _ (cell_al hc _)).mono ?_; rintro e w' ⟨rfl, rfl⟩) | (at_lookup; refine wpl_look_some rfl true _ _ 97 26 rfl keyS Try.underlying97 rfl s rfl (h.below ?_).2 hl ?_; exact hB; rintro u hu; subst hu))
  refine bodyPost_ret (v := .tuple #[.agg #[.string r.name, .bool r.tag, .int .u64 r.id], .bool true]) (by simp [results, Try.results22, go_sem]) rfl ⟨rfl, ?_⟩
  clear hB
  (repeat (first | (with_reducible exact Below.refl _ _) | (with_reducible assumption) | (with_reducible refine bel_al0 ?_ _) | (with_reducible refine bel_set ?_ (by first | (simp; done) | (simp; omega)) _) | (with_reducible refine bel_dr ?_) | (with_reducible refine bel_drn ?_ _) | (with_reducible refine bel_tr ?_ (by assumption))))

/-- whether a byte may stand at a place of a name -/
def chOk (k c : Nat) : Bool := (decide (97 ≤ c) && decide (c ≤ 122)) || (decide (0 < k) && ((decide (48 ≤ c) && decide (c ≤ 57)) || c == 45))
theorem chOk_iff (k c : Nat) : chOk k c = true ↔ (97 ≤ c ∧ c ≤ 122) ∨ (0 < k ∧ ((48 ≤ c ∧ c ≤ 57) ∨ c = 45)) := by simp [chOk]
theorem chOk_no (k c : Nat) : chOk k c = false ↔ ¬ ((97 ≤ c ∧ c ≤ 122) ∨ (0 < k ∧ ((48 ≤ c ∧ c ≤ 57) ∨ c = 45))) := by rw [← chOk_iff, Bool.not_eq_true]
/-- whether a text may be a ref's name -/
def nameB (s : ByteArray) : Bool := decide (1 ≤ s.size) && decide (s.size ≤ 20) && (List.range s.size).all fun k => chOk k (byteAt s k)
theorem nameB_no {s : ByteArray} (h : s.size < 1 ∨ 20 < s.size) : nameB s = false := by
  unfold nameB
  rcases h with h | h <;> simp [h] <;> omega
theorem nameB_at {s : ByteArray} {k : Nat} (hk : k < s.size) (h : chOk k (byteAt s k) = false) : nameB s = false := by
  unfold nameB
  have : ((List.range s.size).all fun k => chOk k (byteAt s k)) = false := by
    rw [List.all_eq_false]
    exact ⟨k, List.mem_range.2 hk, by simp [h]⟩
  simp [this]
theorem nameB_yes {s : ByteArray} (h1 : 1 ≤ s.size) (h2 : s.size ≤ 20) (h : ∀ k, k < s.size → chOk k (byteAt s k) = true) : nameB s = true := by
  unfold nameB
  simp only [h1, h2, decide_true, Bool.true_and, List.all_eq_true, List.mem_range]
  exact h

theorem name_calls (s : ByteArray) (w : World) :
    Calls Try.prog 41 #[.string s] w fun e w' => e = .returned (.bool (nameB s)) ∧ Below w.heap.size w w' := by
  by_cases h1 : s.size < 1
  · have hn := nameB_no (s := s) (Or.inl h1)
    have HN := Lib.hid hn; clear hn
    have g1 : decide ((s.size : Int) < 1) = true := by simp; omega
    go_enter Try.func41, Try.ntmps41
    go_wp2
    go_ret
    exact ⟨by rw [HN.out]; rfl, Below.refl _ _⟩
  · by_cases h2 : 20 < s.size
    · have hn := nameB_no (s := s) (Or.inr h2)
      have HN := Lib.hid hn; clear hn
      have g1 : decide ((s.size : Int) < 1) = false := by simp; omega
      have g2 : decide ((20 : Int) < s.size) = true := by simp; omega
      go_enter Try.func41, Try.ntmps41
      go_wp2
      go_ret
      exact ⟨by rw [HN.out]; rfl, Below.refl _ _⟩
    · obtain ⟨w1, c, hrun, hb, hz, hcell⟩ := bytes_row (P := Try.prog) w 9 109 5 s Try.underlying9 Try.underlying109 Try.underlying5
      have HZ := Lib.hid hz; clear hz
      have HC := Lib.hid hcell; clear hcell
      have g1 : decide ((s.size : Int) < 1) = false := by simp; omega
      have g2 : decide ((20 : Int) < s.size) = false := by simp; omega
      go_enter Try.func41, Try.ntmps41
      go_wp2
      go_loop [18, 3, 4, 5, 6] (fun i _ _ _ _ => ∃ k : Nat, k ≤ s.size ∧ i = .int .i64 k ∧ Hid (∀ j, j < k → chOk j (byteAt s j) = true)) (fun i _ _ _ _ => s.size - (intOf i).toNat)
      case atStart => exact ⟨0, Nat.zero_le _, rfl, fun j hj => absurd hj (Nat.not_lt_zero _)⟩
      case round =>
        obtain ⟨k, hk, rfl, hok⟩ := hrel
        by_cases hlt : k < s.size
        · have hcell := HC.out k hlt
          have hbt := byteAt_lt s k
          obtain ⟨b, hbe⟩ : ∃ b, b = byteAt s k := ⟨_, rfl⟩
          rw [← hbe] at hcell hbt
          have HB := Lib.hid hbe; clear hbe
          have step : chOk k b = true → Hid (∀ j, j < k + 1 → chOk j (byteAt s j) = true) := fun h j hj => by
            rcases Nat.lt_or_ge j k with h' | h'
            · exact hok j h'
            · obtain rfl : j = k := by omega
              rw [← HB.out]; exact h
          have STEP := Lib.hid step; clear step
          have stop : chOk k b = false → nameB s = false := fun h => nameB_at hlt (by rw [← HB.out]; exact h)
          have STOP := Lib.hid stop; clear stop
          go_wp2
          all_goals first
            | (go_round
               case rel => exact ⟨k + 1, by omega, by go_num, STEP.out (by rw [chOk_iff]; (try simp only [Bool.not_eq_true', Bool.not_eq_false', decide_eq_true_eq, decide_eq_false_iff_not, beq_iff_eq, beq_eq_false_iff_ne, ne_eq] at *); omega)⟩
               case measure => simp [intOf]; omega)
            | (go_ret
               exact ⟨by rw [STOP.out (by rw [chOk_no]; (try simp only [Bool.not_eq_true', Bool.not_eq_false', decide_eq_true_eq, decide_eq_false_iff_not, beq_iff_eq, beq_eq_false_iff_ne, ne_eq] at *); omega)]; rfl, by assumption⟩)
        · have yes : nameB s = true := nameB_yes (by omega) (by omega) (fun j hj => hok j (by omega))
          have YES := Lib.hid yes; clear yes
          go_wp2
          go_ret
          exact ⟨by rw [YES.out]; rfl, by assumption⟩

/-- what a table tells of a name: the ref, or none with zeros -/
def rGet (L : List (ByteArray × RefD)) (s : ByteArray) : RefD := (mget L s).getD RefD.zero
theorem get_calls (p m : Nat) (w : World) (L : List (ByteArray × RefD)) (h : TableAt w p m L) (s : ByteArray) :
    Calls Try.prog 22 #[.pointer (some ⟨p, 0, none⟩), .string s] w fun e w' => e = .returned (.tuple #[.agg #[.string (rGet L s).name, .bool (rGet L s).tag, .int .u64 (rGet L s).id], .bool (mget L s).isSome]) ∧ Below w.heap.size w w' := by
  unfold rGet
  cases hl : mget L s with
  | none => exact get_none p m w L h s hl
  | some r => exact get_some p m w L h s hl
end Go.Proofs.Ytehneliphhgegaa
