/- Branches and tags: what each function of the package refs does, walked once. · Making, setting and dropping refs: each function walked once. · Setting and dropping refs, and a new table: each function walked once. · Dropping a ref, and a new table of some: each function walked once. · The statements of layer 16: their guards. · A tag has the commit with which it was made, as long as it is there: the statement's own walk. -/
import Derived.Test.YtehneliphhgegaaBase
section
set_option linter.unusedVariables false
set_option linter.unusedSimpArgs false
set_option maxRecDepth 100000
namespace Go.Proofs.Ytehneliphhgegaa
open Go.RowKit Go.Apo

structure RefD where
  name : ByteArray
  tag : Bool
  id : Int
def RefD.zero : RefD := ⟨⟨#[]⟩, false, 0⟩
def refIs (_ : World) (r : RefD) (v : Value) : Prop := v = .agg #[.string r.name, .bool r.tag, .int .u64 r.id]

/-- a table behind a pointer -/
def TableAt (w : World) (p : Nat) (m : Nat) (L : List (ByteArray × RefD)) : Prop := w.cell? ⟨p, 0, none⟩ = some (.map (some m)) ∧ MapIs Value.string refIs w m L

theorem keyS : KeyT Try.prog 9 Value.string := keyT_string Try.underlying9
theorem zeroRef (W : World) : (zeroValue 26).run Try.prog W = .ok (.agg #[.string ⟨#[]⟩, .bool false, .int .u64 0]) W := by kernel_rfl
theorem refs_onCells : OnCells refIs := onCells_plain _

theorem TableAt.below {w w' : World} {p m : Nat} {L : List (ByteArray × RefD)} (h : TableAt w p m L) (hb : Below w.heap.size w w') : TableAt w' p m L :=
  ⟨cell_bel h.1 hb, h.2.below refs_onCells hb⟩

theorem ok_yes (p m : Nat) (w : World) (h : w.cell? ⟨p, 0, none⟩ = some (.map (some m))) :
    Calls Try.prog 74 #[.pointer (some ⟨p, 0, none⟩)] w fun e w' => e = .returned (.bool true) ∧ w = w' := by
  have hn := fun w r => run_neq_map_nil (P := Try.prog) w 97 9 26 r Try.underlying97
  go_enter Try.func74, Try.ntmps74
  go_wp2
  go_ret
  exact ⟨rfl, rfl⟩
theorem ok_nil  (w : World) :
    Calls Try.prog 74 #[.pointer none] w fun e w' => e = .returned (.bool false) ∧ w = w' := by
  have hn := fun w r => run_neq_map_nil (P := Try.prog) w 97 9 26 r Try.underlying97
  go_enter Try.func74, Try.ntmps74
  go_wp2
  go_ret
  exact ⟨rfl, rfl⟩

theorem get_none (p m : Nat) (w : World) (L : List (ByteArray × RefD)) (h : TableAt w p m L) (s : ByteArray) (hl : mget L s = none) :
    Calls Try.prog 22 #[.pointer (some ⟨p, 0, none⟩), .string s] w fun e w' => e = .returned (.tuple #[.agg #[.string ⟨#[]⟩, .bool false, .int .u64 0], .bool false]) ∧ Below w.heap.size w w' := by
  have hc := h.1
  have hlt : p < w.heap.size := cell_lt hc
  have hB := (Below.refl w.heap.size w).alloc (Nat.le_refl _) (.cells #[.string ⟨#[]⟩, .bool false, .int .u64 0] 26)
  go_enter Try.func22, Try.ntmps22
  go_wp2_with (first | (go_at_call 74; refine (ok_yes p m _ (cell_al hc _)).mono ?_; rintro e w' ⟨rfl, rfl⟩) | (at_lookup; refine wpl_look_none rfl true _ _ 97 26 rfl keyS Try.underlying97 _ (fun W => zeroRef W) rfl s rfl (h.below ?_).2 hl ?_; exact hB))
  refine bodyPost_ret (v := .tuple #[.agg #[.string ⟨#[]⟩, .bool false, .int .u64 0], .bool false]) (by simp [results, Try.results22, go_sem]) rfl ⟨rfl, ?_⟩
  clear hB
  (repeat (first | (with_reducible exact Below.refl _ _) | (with_reducible assumption) | (with_reducible refine bel_al0 ?_ _) | (with_reducible refine bel_set ?_ (by first | (simp; done) | (simp; omega)) _) | (with_reducible refine bel_dr ?_) | (with_reducible refine bel_drn ?_ _) | (with_reducible refine bel_tr ?_ (by assumption))))

theorem get_some (p m : Nat) (w : World) (L : List (ByteArray × RefD)) (h : TableAt w p m L) (s : ByteArray) {r : RefD} (hl : mget L s = some r) :
    Calls Try.prog 22 #[.pointer (some ⟨p, 0, none⟩), .string s] w fun e w' => e = .returned (.tuple #[.agg #[.string r.name, .bool r.tag, .int .u64 r.id], .bool true]) ∧ Below w.heap.size w w' := by
  have hc := h.1
  have hlt : p < w.heap.size := cell_lt hc
  have hB := (Below.refl w.heap.size w).alloc (Nat.le_refl _) (.cells #[.string ⟨#[]⟩, .bool false, .int .u64 0] 26)
  go_enter Try.func22, Try.ntmps22
  go_wp2_with (first | (go_at_call 74; refine (ok_yes p m _ (cell_al hc _)).mono ?_; rintro e w' ⟨rfl, rfl⟩) | (at_lookup; refine wpl_look_some rfl true _ _ 97 26 rfl keyS Try.underlying97 rfl s rfl (h.below ?_).2 hl ?_; exact hB; rintro u hu; subst hu))
  refine bodyPost_ret (v := .tuple #[.agg #[.string r.name, .bool r.tag, .int .u64 r.id], .bool true]) (by simp [results, Try.results22, go_sem]) rfl ⟨rfl, ?_⟩
  clear hB
  (repeat (first | (with_reducible exact Below.refl _ _) | (with_reducible assumption) | (with_reducible refine bel_al0 ?_ _) | (with_reducible refine bel_set ?_ (by first | (simp; done) | (simp; omega)) _) | (with_reducible refine bel_dr ?_) | (with_reducible refine bel_drn ?_ _) | (with_reducible refine bel_tr ?_ (by assumption))))

/-- whether a byte may stand at a place of a name -/
def chOk (k c : Nat) : Bool := (decide (97 ≤ c) && decide (c ≤ 122)) || (decide (0 < k) && ((decide (48 ≤ c) && decide (c ≤ 57)) || c == 45))
theorem chOk_iff (k c : Nat) : chOk k c = true ↔ (97 ≤ c ∧ c ≤ 122) ∨ (0 < k ∧ ((48 ≤ c ∧ c ≤ 57) ∨ c = 45)) := by simp [chOk]
theorem chOk_no (k c : Nat) : chOk k c = false ↔ ¬ ((97 ≤ c ∧ c ≤ 122) ∨ (0 < k ∧ ((48 ≤ c ∧ c ≤ 57) ∨ c = 45))) := by rw [← chOk_iff, Bool.not_eq_true]
/-- whether a text may be a ref's name -/
def nameB (s : ByteArray) : Bool := decide (1 ≤ s.size) && decide (s.size ≤ 20) && (List.range s.size).all fun k => chOk k (byteAt s k)
theorem nameB_no {s : ByteArray} (h : s.size < 1 ∨ 20 < s.size) : nameB s = false := by
  unfold nameB
  rcases h with h | h <;> simp [h] <;> omega
theorem nameB_at {s : ByteArray} {k : Nat} (hk : k < s.size) (h : chOk k (byteAt s k) = false) : nameB s = false := by
  unfold nameB
  have : ((List.range s.size).all fun k => chOk k (byteAt s k)) = false := by
    rw [List.all_eq_false]
    exact ⟨k, List.mem_range.2 hk, by simp [h]⟩
  simp [this]
theorem nameB_yes {s : ByteArray} (h1 : 1 ≤ s.size) (h2 : s.size ≤ 20) (h : ∀ k, k < s.size → chOk k (byteAt s k) = true) : nameB s = true := by
  unfold nameB
  simp only [h1, h2, decide_true, Bool.true_and, List.all_eq_true, List.mem_range]
  exact h

theorem name_calls (s : ByteArray) (w : World) :
    Calls Try.prog 41 #[.string s] w fun e w' => e = .returned (.bool (nameB s)) ∧ Below w.heap.size w w' := by
  by_cases h1 : s.size < 1
  · have hn := nameB_no (s := s) (Or.inl h1)
    have HN := Lib.hid hn; clear hn
    have g1 : decide ((s.size : Int) < 1) = true := by simp; omega
    go_enter Try.func41, Try.ntmps41
    go_wp2
    go_ret
    exact ⟨by rw [HN.out]; rfl, Below.refl _ _⟩
  · by_cases h2 : 20 < s.size
    · have hn := nameB_no (s := s) (Or.inr h2)
      have HN := Lib.hid hn; clear hn
      have g1 : decide ((s.size : Int) < 1) = false := by simp; omega
      have g2 : decide ((20 : Int) < s.size) = true := by simp; omega
      go_enter Try.func41, Try.ntmps41
      go_wp2
      go_ret
      exact ⟨by rw [HN.out]; rfl, Below.refl _ _⟩
    · obtain ⟨w1, c, hrun, hb, hz, hcell⟩ := bytes_row (P := Try.prog) w 9 109 5 s Try.underlying9 Try.underlying109 Try.underlying5
      have HZ := Lib.hid hz; clear hz
      have HC := Lib.hid hcell; clear hcell
      have g1 : decide ((s.size : Int) < 1) = false := by simp; omega
      have g2 : decide ((20 : Int) < s.size) = false := by simp; omega
      go_enter Try.func41, Try.ntmps41
      go_wp2
      go_loop [18, 3, 4, 5, 6] (fun i _ _ _ _ => ∃ k : Nat, k ≤ s.size ∧ i = .int .i64 k ∧ Hid (∀ j, j < k → chOk j (byteAt s j) = true)) (fun i _ _ _ _ => s.size - (intOf i).toNat)
      case atStart => exact ⟨0, Nat.zero_le _, rfl, fun j hj => absurd hj (Nat.not_lt_zero _)⟩
      case round =>
        obtain ⟨k, hk, rfl, hok⟩ := hrel
        by_cases hlt : k < s.size
        · have hcell := HC.out k hlt
          have hbt := byteAt_lt s k
          obtain ⟨b, hbe⟩ : ∃ b, b = byteAt s k := ⟨_, rfl⟩
          rw [← hbe] at hcell hbt
          have HB := Lib.hid hbe; clear hbe
          have step : chOk k b = true → Hid (∀ j, j < k + 1 → chOk j (byteAt s j) = true) := fun h j hj => by
            rcases Nat.lt_or_ge j k with h' | h'
            · exact hok j h'
            · obtain rfl : j = k := by omega
              rw [← HB.out]; exact h
          have STEP := Lib.hid step; clear step
          have stop : chOk k b = false → nameB s = false := fun h => nameB_at hlt (by rw [← HB.out]; exact h)
          have STOP := Lib.hid stop; clear stop
          go_wp2
          all_goals first
            | (go_round
               case rel => exact ⟨k + 1, by omega, by go_num, STEP.out (by rw [chOk_iff]; (try simp only [Bool.not_eq_true', Bool.not_eq_false', decide_eq_true_eq, decide_eq_false_iff_not, beq_iff_eq, beq_eq_false_iff_ne, ne_eq] at *); omega)⟩
               case measure => simp [intOf]; omega)
            | (go_ret
               exact ⟨by rw [STOP.out (by rw [chOk_no]; (try simp only [Bool.not_eq_true', Bool.not_eq_false', decide_eq_true_eq, decide_eq_false_iff_not, beq_iff_eq, beq_eq_false_iff_ne, ne_eq] at *); omega)]; rfl, by assumption⟩)
        · have yes : nameB s = true := nameB_yes (by omega) (by omega) (fun j hj => hok j (by omega))
          have YES := Lib.hid yes; clear yes
          go_wp2
          go_ret
          exact ⟨by rw [YES.out]; rfl, by assumption⟩

/-- what a table tells of a name: the ref, or none with zeros -/
def rGet (L : List (ByteArray × RefD)) (s : ByteArray) : RefD := (mget L s).getD RefD.zero
theorem get_calls (p m : Nat) (w : World) (L : List (ByteArray × RefD)) (h : TableAt w p m L) (s : ByteArray) :
    Calls Try.prog 22 #[.pointer (some ⟨p, 0, none⟩), .string s] w fun e w' => e = .returned (.tuple #[.agg #[.string (rGet L s).name, .bool (rGet L s).tag, .int .u64 (rGet L s).id], .bool (mget L s).isSome]) ∧ Below w.heap.size w w' := by
  unfold rGet
  cases hl : mget L s with
  | none => exact get_none p m w L h s hl
  | some r => exact get_some p m w L h s hl
end Go.Proofs.Ytehneliphhgegaa
end
section
set_option linter.unusedVariables false
set_option linter.unusedSimpArgs false
set_option maxRecDepth 100000
namespace Go.Proofs.Ytehneliphhgegaa
open Go.RowKit Go.Apo

def makeE (L : List (ByteArray × RefD)) (r : RefD) : Int :=
  if nameB r.name then (if (mget L r.name).isSome then 112 else if 40 ≤ L.length then 4 else 0) else 110
def makeL (L : List (ByteArray × RefD)) (r : RefD) : List (ByteArray × RefD) :=
  if makeE L r = 0 then mput L r.name r else L

/-- what a call of Make leaves -/
structure Made (w : World) (p m : Nat) (L : List (ByteArray × RefD)) (x : Int) (L' : List (ByteArray × RefD)) (e : Ending) (w' : World) : Prop where
  e : e = .returned (.int .i64 x)
  t : TableAt w' p m L'
  b : But m w w'

theorem TableAt.ne {w : World} {p m : Nat} {L : List (ByteArray × RefD)} (h : TableAt w p m L) : p ≠ m := by
  intro e; subst e
  obtain ⟨o, ho, hc⟩ := h.2.notCells
  obtain ⟨o', ho', hc'⟩ := cells_of_cell h.1
  rw [ho] at ho'; cases ho'; rw [hc] at hc'; cases hc'

theorem make_calls (p m : Nat) (w : World) (L : List (ByteArray × RefD)) (h : TableAt w p m L) (n : ByteArray) (t : Bool) (i : Int) :
    Calls Try.prog 20 #[.pointer (some ⟨p, 0, none⟩), .agg #[.string n, .bool t, .int .u64 i]] w (Made w p m L (makeE L ⟨n, t, i⟩) (makeL L ⟨n, t, i⟩)) := by
  have hc := h.1
  have hlt : p < w.heap.size := cell_lt hc
  have hltm : m < w.heap.size := h.2.lt
  obtain ⟨x, hx⟩ : ∃ x, x = makeE L ⟨n, t, i⟩ := ⟨_, rfl⟩
  obtain ⟨L', hL⟩ : ∃ L', L' = makeL L ⟨n, t, i⟩ := ⟨_, rfl⟩
  rw [← hx, ← hL]
  obtain ⟨b, hb⟩ : ∃ b, b = (mget L n).isSome := ⟨_, rfl⟩
  obtain ⟨q, hq⟩ : ∃ q, q = nameB n := ⟨_, rfl⟩
  have hx' : x = if q then (if b then 112 else if 40 ≤ L.length then 4 else 0) else 110 := by rw [hx, hb, hq]; rfl
  have hL' : L' = if x = 0 then mput L n ⟨n, t, i⟩ else L := by rw [hx, hL]; rfl
  clear hx hL
  have G := fun W hW => get_calls p m W L hW n
  rw [← hb] at G
  obtain ⟨r, hr⟩ : ∃ r, r = rGet L n := ⟨_, rfl⟩
  rw [← hr] at G
  have N := name_calls n
  rw [← hq] at N
  have HG := Lib.hid G; clear G
  have HN := Lib.hid N; clear N
  clear hb hq hr
  have hB := bel_al0 (Below.refl w.heap.size w) (.cells #[.string n, .bool t, .int .u64 i] 26)
  have HT := Lib.hid (h.below hB)
  have H := Lib.hid h; clear h
  cases q with
  | false =>
    obtain rfl : x = 110 := by simpa using hx'
    obtain rfl : L' = L := by simpa using hL'
    clear hx' hL'
    go_enter Try.func20, Try.ntmps20
    go_wp2_with (first | (go_at_call 22; refine (HG.out _ HT.out).mono ?_; rintro e w1 ⟨rfl, hb1⟩; obtain ⟨hc1, hf1⟩ := bcell hb1; have ht1 := HT.out.below hb1; have hp1 := ht1.1; have HT1 := Lib.hid ht1; clear ht1; have hz1 : w.heap.size < w1.heap.size := (by have := hb1.size; simp at this; omega)) | (go_at_call 74; refine (ok_yes p m _ (cell_al hp1 _)).mono ?_; rintro e w' ⟨rfl, rfl⟩) | (go_at_call 41; refine (HN.out _).mono ?_; rintro e w2 ⟨rfl, hb2⟩))
    go_ret
    have hbb : Below w.heap.size w w2 := by (repeat (first | (with_reducible exact Below.refl _ _) | (with_reducible assumption) | (with_reducible refine bel_al0 ?_ _) | (with_reducible refine bel_set ?_ (by first | (simp; done) | (simp; omega)) _) | (with_reducible refine bel_dr ?_) | (with_reducible refine bel_drn ?_ _) | (with_reducible refine bel_tr ?_ (by assumption))))
    exact ⟨rfl, H.out.below hbb, But.of_below hbb⟩
  | true =>
    cases b with
    | true =>
      obtain rfl : x = 112 := by simpa using hx'
      obtain rfl : L' = L := by simpa using hL'
      clear hx' hL'
      go_enter Try.func20, Try.ntmps20
      go_wp2_with (first | (go_at_call 22; refine (HG.out _ HT.out).mono ?_; rintro e w1 ⟨rfl, hb1⟩; obtain ⟨hc1, hf1⟩ := bcell hb1; have ht1 := HT.out.below hb1; have hp1 := ht1.1; have HT1 := Lib.hid ht1; clear ht1; have hz1 : w.heap.size < w1.heap.size := (by have := hb1.size; simp at this; omega)) | (go_at_call 74; refine (ok_yes p m _ (cell_al hp1 _)).mono ?_; rintro e w' ⟨rfl, rfl⟩) | (go_at_call 41; refine (HN.out _).mono ?_; rintro e w2 ⟨rfl, hb2⟩))
      go_ret
      have hbb : Below w.heap.size w w2 := by (repeat (first | (with_reducible exact Below.refl _ _) | (with_reducible assumption) | (with_reducible refine bel_al0 ?_ _) | (with_reducible refine bel_set ?_ (by first | (simp; done) | (simp; omega)) _) | (with_reducible refine bel_dr ?_) | (with_reducible refine bel_drn ?_ _) | (with_reducible refine bel_tr ?_ (by assumption))))
      exact ⟨rfl, H.out.below hbb, But.of_below hbb⟩
    | false =>
      by_cases hlen : 40 ≤ L.length
      · obtain rfl : x = 4 := by simpa [hlen] using hx'
        obtain rfl : L' = L := by simpa using hL'
        clear hx' hL'
        have g1 : decide ((40 : Int) ≤ L'.length) = true := by simp; omega
        clear hlen
        go_enter Try.func20, Try.ntmps20
        go_wp2_with (first | (go_at_call 22; refine (HG.out _ HT.out).mono ?_; rintro e w1 ⟨rfl, hb1⟩; obtain ⟨hc1, hf1⟩ := bcell hb1; have ht1 := HT.out.below hb1; have hp1 := ht1.1; have HT1 := Lib.hid ht1; clear ht1; have hz1 : w.heap.size < w1.heap.size := (by have := hb1.size; simp at this; omega)) | (go_at_call 74; refine (ok_yes p m _ (cell_al hp1 _)).mono ?_; rintro e w' ⟨rfl, rfl⟩) | (go_at_call 41; refine (HN.out _).mono ?_; rintro e w2 ⟨rfl, hb2⟩; have HT2 := Lib.hid ((HT1.out.below (bel_al0 (Below.refl _ _) _)).below hb2); have hp2 := HT2.out.1) | (at_len; refine wpl_len rfl _ 97 26 rfl Try.underlying97 rfl HT2.out.2 ?_))
        go_ret
        have hbb : Below w.heap.size w w2 := by (repeat (first | (with_reducible exact Below.refl _ _) | (with_reducible assumption) | (with_reducible refine bel_al0 ?_ _) | (with_reducible refine bel_set ?_ (by first | (simp; done) | (simp; omega)) _) | (with_reducible refine bel_dr ?_) | (with_reducible refine bel_drn ?_ _) | (with_reducible refine bel_tr ?_ (by assumption))))
        exact ⟨rfl, H.out.below hbb, But.of_below hbb⟩
      · obtain rfl : x = 0 := by simpa [hlen] using hx'
        obtain rfl : L' = mput L n ⟨n, t, i⟩ := by simpa using hL'
        clear hx' hL'
        have g1 : decide ((40 : Int) ≤ L.length) = false := by simp; omega
        clear hlen
        go_enter Try.func20, Try.ntmps20
        go_wp2_with (first | (go_at_call 22; refine (HG.out _ HT.out).mono ?_; rintro e w1 ⟨rfl, hb1⟩; obtain ⟨hc1, hf1⟩ := bcell hb1; have ht1 := HT.out.below hb1; have hp1 := ht1.1; have HT1 := Lib.hid ht1; clear ht1; have hz1 : w.heap.size < w1.heap.size := (by have := hb1.size; simp at this; omega)) | (go_at_call 74; refine (ok_yes p m _ (cell_al hp1 _)).mono ?_; rintro e w' ⟨rfl, rfl⟩) | (go_at_call 41; refine (HN.out _).mono ?_; rintro e w2 ⟨rfl, hb2⟩; obtain ⟨hc2, hf2⟩ := bcell hb2; have HT2 := Lib.hid ((HT1.out.below (bel_al0 (Below.refl _ _) _)).below hb2); have hp2 := HT2.out.1; have hz2 : w1.heap.size < w2.heap.size := (by have := hb2.size; simp at this; omega)) | (at_len; refine wpl_len rfl _ 97 26 rfl Try.underlying97 rfl HT2.out.2 ?_))
        go_still_tail 7, (by kernel_rfl)
        go_wp2_with (at_mapUpdate; refine wpl_store (R := refIs) rfl _ _ _ 97 26 rfl keyS refs_onCells Try.underlying97 rfl n rfl _ rfl (HT2.out.below (bel_dr (Below.refl _ _))).2 (v := ⟨n, t, i⟩) rfl ?_; intro w3 hm3 hg3 hz3; clear hz3)
        go_ret
        have hbb : Below w.heap.size w w2.drew := by (repeat (first | (with_reducible exact Below.refl _ _) | (with_reducible assumption) | (with_reducible refine bel_al0 ?_ _) | (with_reducible refine bel_set ?_ (by first | (simp; done) | (simp; omega)) _) | (with_reducible refine bel_dr ?_) | (with_reducible refine bel_drn ?_ _) | (with_reducible refine bel_tr ?_ (by assumption))))
        have hbut := (But.of_below (m := m) hbb).trans (But.of_grown hg3)
        exact ⟨rfl, ⟨hbut.cell (p := ⟨p, 0, none⟩) hlt H.out.ne ▸ hc, hm3⟩, hbut⟩
end Go.Proofs.Ytehneliphhgegaa
end
section
set_option linter.unusedVariables false
set_option linter.unusedSimpArgs false
set_option maxRecDepth 100000
namespace Go.Proofs.Ytehneliphhgegaa
open Go.RowKit Go.Apo

def setE (L : List (ByteArray × RefD)) (s : ByteArray) (old : Int) : Int :=
  if (mget L s).isSome then (if (rGet L s).tag then 114 else if (rGet L s).id = old then 0 else 113) else 111
def setL (L : List (ByteArray × RefD)) (s : ByteArray) (old id : Int) : List (ByteArray × RefD) :=
  if setE L s old = 0 then mput L s ⟨(rGet L s).name, (rGet L s).tag, id⟩ else L
def dropE (L : List (ByteArray × RefD)) (s : ByteArray) : Int := if (mget L s).isSome then 0 else 111

theorem set_calls (p m : Nat) (w : World) (L : List (ByteArray × RefD)) (h : TableAt w p m L) (s : ByteArray) (old id : Int) :
    Calls Try.prog 21 #[.pointer (some ⟨p, 0, none⟩), .string s, .int .u64 old, .int .u64 id] w (Made w p m L (setE L s old) (setL L s old id)) := by
  have hc := h.1
  have hlt : p < w.heap.size := cell_lt hc
  obtain ⟨x, hx⟩ : ∃ x, x = setE L s old := ⟨_, rfl⟩
  obtain ⟨L', hL⟩ : ∃ L', L' = setL L s old id := ⟨_, rfl⟩
  rw [← hx, ← hL]
  have G := get_calls p m w L h s
  obtain ⟨b, hb⟩ : ∃ b, b = (mget L s).isSome := ⟨_, rfl⟩
  obtain ⟨r, hr⟩ : ∃ r, r = rGet L s := ⟨_, rfl⟩
  rw [← hb, ← hr] at G
  have hx' : x = if b then (if r.tag then 114 else if r.id = old then 0 else 113) else 111 := by rw [hx, hb, hr]; rfl
  have hL' : L' = if x = 0 then mput L s ⟨r.name, r.tag, id⟩ else L := by rw [hL, hx, hr]; rfl
  clear hx hL hb hr
  obtain ⟨rn, rt, ri⟩ := r
  simp only at hx' hL' G
  have HG := Lib.hid G; clear G
  have H := Lib.hid h; clear h
  cases b with
  | false =>
    obtain rfl : x = 111 := by simpa using hx'
    obtain rfl : L' = L := by simpa using hL'
    clear hx' hL'
    go_enter Try.func21, Try.ntmps21
    go_wp2_with (go_at_call 22; refine HG.out.mono ?_; rintro e w1 ⟨rfl, hb1⟩)
    go_ret
    have hbb : Below w.heap.size w (w1.alloc (.cells #[.string rn, .bool rt, .int .u64 ri] 26)) := by (repeat (first | (with_reducible exact Below.refl _ _) | (with_reducible assumption) | (with_reducible refine bel_al0 ?_ _) | (with_reducible refine bel_set ?_ (by first | (simp; done) | (simp; omega)) _) | (with_reducible refine bel_dr ?_) | (with_reducible refine bel_drn ?_ _) | (with_reducible refine bel_tr ?_ (by assumption))))
    exact ⟨rfl, H.out.below hbb, But.of_below hbb⟩
  | true =>
    cases rt with
    | true =>
      obtain rfl : x = 114 := by simpa using hx'
      obtain rfl : L' = L := by simpa using hL'
      clear hx' hL'
      go_enter Try.func21, Try.ntmps21
      go_wp2_with (go_at_call 22; refine HG.out.mono ?_; rintro e w1 ⟨rfl, hb1⟩)
      go_ret
      have hbb : Below w.heap.size w (w1.alloc (.cells #[.string rn, .bool true, .int .u64 ri] 26)) := by (repeat (first | (with_reducible exact Below.refl _ _) | (with_reducible assumption) | (with_reducible refine bel_al0 ?_ _) | (with_reducible refine bel_set ?_ (by first | (simp; done) | (simp; omega)) _) | (with_reducible refine bel_dr ?_) | (with_reducible refine bel_drn ?_ _) | (with_reducible refine bel_tr ?_ (by assumption))))
      exact ⟨rfl, H.out.below hbb, But.of_below hbb⟩
    | false =>
      by_cases hid : ri = old
      · subst hid
        obtain rfl : x = 0 := by simpa using hx'
        obtain rfl : L' = mput L s ⟨rn, false, id⟩ := by simpa using hL'
        clear hx' hL'
        have hne := H.out.ne
        have HNE := Lib.hid hne; clear hne
        go_enter Try.func21, Try.ntmps21
        go_wp2_with (go_at_call 22; refine HG.out.mono ?_; rintro e w1 ⟨rfl, hb1⟩; have HT1 := Lib.hid (H.out.below hb1); have hp1 := HT1.out.1; have hz1 := hb1.size; have hlt1 := cell_lt hp1)

        generalize hW : w1.alloc (.cells #[.string rn, .bool false, .int .u64 id] 26) = W
        have hbW : Below w1.heap.size w1 W := by rw [← hW]; (repeat (first | (with_reducible exact Below.refl _ _) | (with_reducible assumption) | (with_reducible refine bel_al0 ?_ _) | (with_reducible refine bel_set ?_ (by first | (simp; done) | (simp; omega)) _) | (with_reducible refine bel_dr ?_) | (with_reducible refine bel_drn ?_ _) | (with_reducible refine bel_tr ?_ (by assumption))))
        have hpW := cell_bel hp1 hbW
        have c0 : W.cell? ⟨w1.heap.size, 0, none⟩ = some (.string rn) := by rw [← hW]; exact cell_at_new _ _ _ _ rfl
        have c1 : W.cell? ⟨w1.heap.size, 1, none⟩ = some (.bool false) := by rw [← hW]; exact cell_at_new _ _ _ _ rfl
        have c2 : W.cell? ⟨w1.heap.size, 2, none⟩ = some (.int .u64 id) := by rw [← hW]; exact cell_at_new _ _ _ _ rfl
        clear hW
        go_still_tail 6, (by kernel_rfl)
        go_wp2_with (at_mapUpdate; refine wpl_store (R := refIs) rfl _ _ _ 97 26 rfl keyS refs_onCells Try.underlying97 rfl s rfl _ rfl (HT1.out.below (bel_dr hbW)).2 (v := ⟨rn, false, id⟩) rfl ?_; intro w3 hm3 hg3 hz3; clear hz3)
        go_ret
        have hbb : Below w.heap.size w W.drew := bel_dr (bel_tr hb1 hbW)
        have hbut := (But.of_below (m := m) hbb).trans (But.of_grown hg3)
        exact ⟨rfl, ⟨hbut.cell (p := ⟨p, 0, none⟩) hlt HNE.out ▸ hc, hm3⟩, hbut⟩
      · obtain rfl : x = 113 := by simpa [hid] using hx'
        obtain rfl : L' = L := by simpa using hL'
        clear hx' hL'
        have g1 : (ri == old) = false := by simpa using hid
        have g2 : (!(ri == old)) = true := by simpa using hid
        clear hid
        go_enter Try.func21, Try.ntmps21
        go_wp2_with (go_at_call 22; refine HG.out.mono ?_; rintro e w1 ⟨rfl, hb1⟩)
        go_ret
        have hbb : Below w.heap.size w (w1.alloc (.cells #[.string rn, .bool false, .int .u64 ri] 26)) := by (repeat (first | (with_reducible exact Below.refl _ _) | (with_reducible assumption) | (with_reducible refine bel_al0 ?_ _) | (with_reducible refine bel_set ?_ (by first | (simp; done) | (simp; omega)) _) | (with_reducible refine bel_dr ?_) | (with_reducible refine bel_drn ?_ _) | (with_reducible refine bel_tr ?_ (by assumption))))
        exact ⟨rfl, H.out.below hbb, But.of_below hbb⟩
end Go.Proofs.Ytehneliphhgegaa
end
section
set_option linter.unusedVariables false
set_option linter.unusedSimpArgs false
set_option maxRecDepth 100000
namespace Go.Proofs.Ytehneliphhgegaa
open Go.RowKit Go.Apo

theorem drop_calls (p m : Nat) (w : World) (L : List (ByteArray × RefD)) (h : TableAt w p m L) (s : ByteArray) :
    Calls Try.prog 23 #[.pointer (some ⟨p, 0, none⟩), .string s] w (Made w p m L (dropE L s) (mdel L s)) := by
  have hc := h.1
  have hlt : p < w.heap.size := cell_lt hc
  have HNE := Lib.hid h.ne
  obtain ⟨x, hx⟩ : ∃ x, x = dropE L s := ⟨_, rfl⟩
  obtain ⟨L', hL⟩ : ∃ L', L' = mdel L s := ⟨_, rfl⟩
  rw [← hx, ← hL]
  have G := get_calls p m w L h s
  obtain ⟨b, hb⟩ : ∃ b, b = (mget L s).isSome := ⟨_, rfl⟩
  obtain ⟨r, hr⟩ : ∃ r, r = rGet L s := ⟨_, rfl⟩
  rw [← hb, ← hr] at G
  have hx' : x = if b then 0 else 111 := by rw [hx, hb]; rfl
  clear hr
  obtain ⟨rn, rt, ri⟩ := r
  simp only at G
  have HG := Lib.hid G; clear G
  have H := Lib.hid h; clear h
  cases b with
  | false =>
    obtain rfl : x = 111 := by simpa using hx'
    obtain rfl : L' = L := by
      rw [hL]; apply mdel_none
      cases hg : mget L s with
      | none => rfl
      | some v => rw [hg] at hb; cases hb
    clear hx' hL hx hb
    go_enter Try.func23, Try.ntmps23
    go_wp2_with (go_at_call 22; refine HG.out.mono ?_; rintro e w1 ⟨rfl, hb1⟩)
    go_ret
    have hbb : Below w.heap.size w (w1.alloc (.cells #[.string rn, .bool rt, .int .u64 ri] 26)) := by (repeat (first | (with_reducible exact Below.refl _ _) | (with_reducible assumption) | (with_reducible refine bel_al0 ?_ _) | (with_reducible refine bel_set ?_ (by first | (simp; done) | (simp; omega)) _) | (with_reducible refine bel_dr ?_) | (with_reducible refine bel_drn ?_ _) | (with_reducible refine bel_tr ?_ (by assumption))))
    exact ⟨rfl, H.out.below hbb, But.of_below hbb⟩
  | true =>
    obtain rfl : x = 0 := by simpa using hx'
    clear hx' hx hb
    have HL := Lib.hid hL; clear hL
    go_enter Try.func23, Try.ntmps23
    go_wp2_with (first | (go_at_call 22; refine HG.out.mono ?_; rintro e w1 ⟨rfl, hb1⟩; have HT1 := Lib.hid (H.out.below hb1); have hp1 := HT1.out.1; have hz1 := hb1.size; have hlt1 := cell_lt hp1) | (at_delete; refine wpl_strike (R := refIs) rfl _ _ 97 26 rfl keyS refs_onCells Try.underlying97 rfl s rfl (HT1.out.below (bel_al0 (Below.refl _ _) _)).2 ?_; intro w3 hm3 hg3 hz3; clear hz3))
    go_ret
    have hbb : Below w.heap.size w (w1.alloc (.cells #[.string rn, .bool rt, .int .u64 ri] 26)) := by (repeat (first | (with_reducible exact Below.refl _ _) | (with_reducible assumption) | (with_reducible refine bel_al0 ?_ _) | (with_reducible refine bel_set ?_ (by first | (simp; done) | (simp; omega)) _) | (with_reducible refine bel_dr ?_) | (with_reducible refine bel_drn ?_ _) | (with_reducible refine bel_tr ?_ (by assumption))))
    have hbut := (But.of_below (m := m) hbb).trans (But.of_grown hg3)
    exact ⟨rfl, ⟨hbut.cell (p := ⟨p, 0, none⟩) hlt HNE.out ▸ hc, HL.out ▸ hm3⟩, hbut⟩

/-- a slice of refs that is read -/
structure RefRow (w : World) (A : Option Addr) (n : Nat) (l : List RefD) : Prop where
  len : l.length = n
  le : n * 24 ≤ 140737488351232
  at_ : 0 < n → ∃ b off, A = some ⟨b, off, none⟩ ∧ ∀ j r, l[j]? = some r → w.cell? ⟨b, off + j * 3, none⟩ = some (.string r.name) ∧ w.cell? ⟨b, off + j * 3 + 1, none⟩ = some (.bool r.tag) ∧ w.cell? ⟨b, off + j * 3 + 2, none⟩ = some (.int .u64 r.id)

theorem new_calls (w : World) (A : Option Addr) (n c : Nat) (l : List RefD) (h : RefRow w A n l) :
    Calls Try.prog 19 #[.slice A n c] w fun e w' => ∃ p m, e = .returned (.pointer (some ⟨p, 0, none⟩)) ∧ TableAt w' p m (l.foldl makeL []) ∧ w.heap.size ≤ m ∧ w.heap.size ≤ p ∧ Below w.heap.size w w' := by
  have hmm := @run_makeMap Try.prog
  have hn := h.le
  go_enter Try.func19, Try.ntmps19
  go_wp2
  go_loopw [14, 6] (fun i _ wr => ∃ k : Nat, k ≤ n ∧ i = .int .i64 k ∧ Hid (TableAt wr (w.heap.size + 1) w.heap.size ((l.take k).foldl makeL [])) ∧ Below w.heap.size w wr) (fun i _ _ => n - (intOf i).toNat)
  case atStart =>
    refine ⟨0, Nat.zero_le _, rfl, ?_, by (repeat (first | (with_reducible exact Below.refl _ _) | (with_reducible assumption) | (with_reducible refine bel_al0 ?_ _) | (with_reducible refine bel_set ?_ (by first | (simp; done) | (simp; omega)) _) | (with_reducible refine bel_dr ?_) | (with_reducible refine bel_drn ?_ _) | (with_reducible refine bel_tr ?_ (by assumption))))⟩
    have h0 := mapIs_made Value.string refIs w
    refine ⟨?_, h0.below refs_onCells (by (repeat (first | (with_reducible exact Below.refl _ _) | (with_reducible assumption) | (with_reducible refine bel_al0 ?_ _) | (with_reducible refine bel_set ?_ (by first | (simp; done) | (simp; omega)) _) | (with_reducible refine bel_dr ?_) | (with_reducible refine bel_drn ?_ _) | (with_reducible refine bel_tr ?_ (by assumption)))))⟩
    simp
  case round =>
    obtain ⟨k, hk, rfl, ht, hB⟩ := hrel
    by_cases hlt : k < n
    · obtain ⟨b, off, rfl, hcell⟩ := h.at_ (by omega)
      have hlk : l[k]? = some (l[k]'(by rw [h.len]; exact hlt)) := List.getElem?_eq_getElem _
      obtain ⟨r, hr⟩ : ∃ r, r = l[k]'(by rw [h.len]; exact hlt) := ⟨_, rfl⟩
      rw [← hr] at hlk
      have hstep : (l.take (k + 1)).foldl makeL [] = makeL ((l.take k).foldl makeL []) r := by
        rw [List.take_add_one, hlk]; simp
      have HS := Lib.hid hstep; clear hstep hr
      obtain ⟨c0, c1, c2⟩ := hcell k r hlk
      replace c0 := cell_bel c0 hB
      replace c1 := cell_bel c1 hB
      replace c2 := cell_bel c2 hB
      obtain ⟨rn, rt, ri⟩ := r
      simp only at c0 c1 c2
      clear hcell hlk
      have HT1 := fun o => Lib.hid (ht.out.below (bel_al0 (Below.refl wr.heap.size wr) o))
      go_wp2_with (go_at_call 20; refine (make_calls _ _ _ _ (HT1 _).out _ _ _).mono ?_; rintro e w2 ⟨rfl, ht2, hb2⟩; have HT2 := Lib.hid ht2; clear ht2)
      go_roundw
      case rel => exact ⟨k + 1, by omega, by go_num, by rw [HS.out]; exact HT2.out, But.below (bel_al0 hB _) (Nat.le_refl _) (Nat.le_refl _) hb2⟩
      case measure => simp [intOf]; omega
    · have hk' : k = n := by omega
      have e1 : l.take k = l := by rw [List.take_of_length_le]; rw [h.len]; omega
      rw [e1] at ht
      go_wp2
      go_ret
      exact ⟨_, _, rfl, ht.out, Nat.le_refl _, Nat.le_succ _, hB⟩
end Go.Proofs.Ytehneliphhgegaa
end
section
set_option linter.unusedVariables false
set_option linter.unusedSimpArgs false
set_option maxRecDepth 100000
namespace Go.Proofs.Ytehneliphhgegaa
open Go.RowKit Go.Apo

def fewB (l : List RefD) : Bool := l.all (fun r => decide (r.name.size ≤ 40)) && decide (l.length ≤ 45)

theorem few16_calls (w : World) (A : Option Addr) (n c : Nat) (l : List RefD) (h : RefRow w A n l) :
    Calls Try.prog 18 #[.slice A n c] w fun e w' => e = .returned (.bool (fewB l)) ∧ Below w.heap.size w w' := by
  have hn := h.le
  go_enter Try.func18, Try.ntmps18
  go_wp2
  go_loopw [7, 4] (fun i _ wr => ∃ k : Nat, k ≤ n ∧ i = .int .i64 k ∧ Hid (∀ j r, j < k → l[j]? = some r → r.name.size ≤ 40) ∧ Below w.heap.size w wr) (fun i _ _ => n - (intOf i).toNat)
  case atStart => exact ⟨0, Nat.zero_le _, rfl, fun j _ hj => absurd hj (Nat.not_lt_zero _), by (repeat (first | (with_reducible exact Below.refl _ _) | (with_reducible assumption) | (with_reducible refine bel_al0 ?_ _) | (with_reducible refine bel_set ?_ (by first | (simp; done) | (simp; omega)) _) | (with_reducible refine bel_dr ?_) | (with_reducible refine bel_drn ?_ _) | (with_reducible refine bel_tr ?_ (by assumption))))⟩
  case round =>
    obtain ⟨k, hk, rfl, hok, hB⟩ := hrel
    by_cases hlt : k < n
    · obtain ⟨b, off, rfl, hcell⟩ := h.at_ (by omega)
      have hlk : l[k]? = some (l[k]'(by rw [h.len]; exact hlt)) := List.getElem?_eq_getElem _
      obtain ⟨r, hr⟩ : ∃ r, r = l[k]'(by rw [h.len]; exact hlt) := ⟨_, rfl⟩
      rw [← hr] at hlk
      obtain ⟨c0, c1, c2⟩ := hcell k r hlk
      replace c0 := cell_bel c0 hB
      replace c1 := cell_bel c1 hB
      replace c2 := cell_bel c2 hB
      have HL := Lib.hid hlk; clear hlk hr
      clear hcell
      by_cases h40 : r.name.size ≤ 40
      · have g1 : decide ((40 : Int) < r.name.size) = false := by simp; omega
        go_wp2
        go_roundw
        case rel =>
          refine ⟨k + 1, by omega, by go_num, fun j r' hj hj' => ?_, by (repeat (first | (with_reducible exact Below.refl _ _) | (with_reducible assumption) | (with_reducible refine bel_al0 ?_ _) | (with_reducible refine bel_set ?_ (by first | (simp; done) | (simp; omega)) _) | (with_reducible refine bel_dr ?_) | (with_reducible refine bel_drn ?_ _) | (with_reducible refine bel_tr ?_ (by assumption))))⟩
          rcases Nat.lt_or_ge j k with h' | h'
          · exact hok j r' h' hj'
          · obtain rfl : j = k := by omega
            rw [HL.out] at hj'; cases hj'; exact h40
        case measure => simp [intOf]; omega
      · have g1 : decide ((40 : Int) < r.name.size) = true := by simp; omega
        have hf : fewB l = false := by
          unfold fewB
          have : l.all (fun r => decide (r.name.size ≤ 40)) = false := by
            rw [List.all_eq_false]
            exact ⟨r, List.mem_of_getElem? HL.out, by simpa using h40⟩
          simp [this]
        have HF := Lib.hid hf; clear hf
        go_wp2
        go_ret
        exact ⟨by rw [HF.out]; rfl, by (repeat (first | (with_reducible exact Below.refl _ _) | (with_reducible assumption) | (with_reducible refine bel_al0 ?_ _) | (with_reducible refine bel_set ?_ (by first | (simp; done) | (simp; omega)) _) | (with_reducible refine bel_dr ?_) | (with_reducible refine bel_drn ?_ _) | (with_reducible refine bel_tr ?_ (by assumption))))⟩
    · have hf : fewB l = decide (l.length ≤ 45) := by
        unfold fewB
        have : l.all (fun r => decide (r.name.size ≤ 40)) = true := by
          rw [List.all_eq_true]
          intro r hr
          obtain ⟨j, hj⟩ := List.mem_iff_getElem?.1 hr
          have := (List.getElem?_eq_some_iff.1 hj).1
          have := h.len
          simpa using hok j r (by omega) hj
        simp [this]
      have hl := h.len
      have hf' : fewB l = decide ((n : Int) ≤ 45) := by rw [hf, hl]; simp; omega
      have HF := Lib.hid hf'; clear hf' hf hl
      go_wp2
      go_ret
      exact ⟨by rw [HF.out]; rfl, hB⟩

def aText : ByteArray := ⟨#[97]⟩
def a1Text : ByteArray := ⟨#[97, 45, 49]⟩
theorem nameB_a : nameB ⟨#[97]⟩ = true := by decide +kernel
theorem nameB_a1 : nameB ⟨#[97, 45, 49]⟩ = true := by decide +kernel
theorem makeE_a1 : makeE [] ⟨⟨#[97]⟩, false, 0⟩ = 0 := by unfold makeE; rw [nameB_a]; rfl
theorem makeL_a1 : makeL [] ⟨⟨#[97]⟩, false, 0⟩ = [(⟨#[97]⟩, ⟨⟨#[97]⟩, false, 0⟩)] := by unfold makeL; rw [makeE_a1]; rfl
theorem makeE_a2 : makeE [(⟨#[97]⟩, ⟨⟨#[97]⟩, false, 0⟩)] ⟨⟨#[97]⟩, false, 0⟩ = 112 := by unfold makeE; rw [nameB_a]; simp [mget_cons]

theorem refRow_nil (w : World) : RefRow w none 0 [] := ⟨rfl, by omega, fun h => absurd h (by omega)⟩

def LA : List (ByteArray × RefD) := [(⟨#[97]⟩, ⟨⟨#[97]⟩, false, 0⟩)]
theorem awake16_calls (w : World) : Calls Try.prog 17 #[] w fun e w' => e = .returned (.bool true) ∧ Below w.heap.size w w' := by
  have HN := Lib.hid (new_calls w none 0 0 [] (refRow_nil w))
  have M1 : ∀ p m W, TableAt W p m [] → Calls Try.prog 20 #[.pointer (some ⟨p, 0, none⟩), .agg #[.string ⟨#[97]⟩, .bool false, .int .u64 0]] W (Made W p m [] 0 LA) := fun p m W h => by
    have := make_calls p m W [] h ⟨#[97]⟩ false 0
    rw [makeE_a1, makeL_a1] at this; exact this
  have M2 : ∀ p m W, TableAt W p m LA → Calls Try.prog 20 #[.pointer (some ⟨p, 0, none⟩), .agg #[.string ⟨#[97]⟩, .bool false, .int .u64 0]] W (Made W p m LA 112 LA) := fun p m W h => by
    have := make_calls p m W LA h ⟨#[97]⟩ false 0
    have e : makeL LA ⟨⟨#[97]⟩, false, 0⟩ = LA := by unfold makeL LA; rw [makeE_a2]; rfl
    rw [e] at this
    unfold LA at this ⊢
    rw [makeE_a2] at this; exact this
  have N1 := name_calls ⟨#[97, 45, 49]⟩
  rw [nameB_a1] at N1
  have HM1 := Lib.hid M1; clear M1
  have HM2 := Lib.hid M2; clear M2
  have HN1 := Lib.hid N1; clear N1
  go_enter Try.func17, Try.ntmps17
  go_wp2_with fail
  refine HN.out.mono ?_
  rintro e w1 ⟨p, m, rfl, ht1, hm1, hp1, hb1⟩
  have HT1 := Lib.hid ht1; clear ht1
  go_wp2_with fail
  refine (HM1.out p m _ HT1.out).mono ?_
  rintro e w2 ⟨rfl, ht2, hb2⟩
  have HT2 := Lib.hid ht2; clear ht2
  go_wp2_with fail
  refine (HM2.out p m _ HT2.out).mono ?_
  rintro e w3 ⟨rfl, ht3, hb3⟩
  go_wp2_with fail
  refine (HN1.out _).mono ?_
  rintro e w4 ⟨rfl, hb4⟩
  go_wp2
  go_ret
  exact ⟨rfl, bel_tr (But.below (But.below hb1 (Nat.le_refl _) hm1 hb2) (Nat.le_refl _) hm1 hb3) hb4⟩
end Go.Proofs.Ytehneliphhgegaa
end
section
set_option linter.unusedVariables false
set_option linter.unusedSimpArgs false
set_option maxRecDepth 100000
namespace Go.Proofs.Ytehneliphhgegaa
open Go.RowKit Go.Apo

structure DeedD where
  kind : Int
  name : ByteArray
  tag : Bool
  id : Int
  old : Int
/-- a slice of deeds that is read -/
structure DeedRow (w : World) (A : Option Addr) (n : Nat) (l : List DeedD) : Prop where
  len : l.length = n
  le : n * 40 ≤ 140737488351232
  at_ : 0 < n → ∃ b off, A = some ⟨b, off, none⟩ ∧ ∀ j r, l[j]? = some r → w.cell? ⟨b, off + j * 5, none⟩ = some (.int .i64 r.kind) ∧ w.cell? ⟨b, off + j * 5 + 1, none⟩ = some (.string r.name) ∧ w.cell? ⟨b, off + j * 5 + 2, none⟩ = some (.bool r.tag) ∧ w.cell? ⟨b, off + j * 5 + 3, none⟩ = some (.int .u64 r.id) ∧ w.cell? ⟨b, off + j * 5 + 4, none⟩ = some (.int .u64 r.old)

theorem RefRow.below {w w' : World} {A : Option Addr} {n : Nat} {l : List RefD} (h : RefRow w A n l) (hb : Below w.heap.size w w') : RefRow w' A n l :=
  ⟨h.len, h.le, fun h0 => by
    obtain ⟨b, off, e, hc⟩ := h.at_ h0
    exact ⟨b, off, e, fun j r hj => by
      obtain ⟨c0, c1, c2⟩ := hc j r hj
      exact ⟨cell_bel c0 hb, cell_bel c1 hb, cell_bel c2 hb⟩⟩⟩
theorem TableAt.but {w w' : World} {p m k : Nat} {L : List (ByteArray × RefD)} (h : TableAt w p m L) (hb : But k w w') (hp : p ≠ k) (hm : m ≠ k) : TableAt w' p m L :=
  ⟨(hb.cell (p := ⟨p, 0, none⟩) (cell_lt h.1) hp).trans h.1, ⟨by
    obtain ⟨es, c, h1, h2, h3⟩ := h.2.ex
    exact ⟨es, c, (hb.block m h.2.lt hm).trans h1, h2, h3⟩⟩⟩
theorem makeL_ok {L : List (ByteArray × RefD)} {r : RefD} (h : makeE L r = 0) : makeL L r = mput L r.name r := by unfold makeL; rw [if_pos h]
theorem tag_make {L : List (ByteArray × RefD)} {n : ByteArray} {v : RefD} (h : mget L n = some v) (r : RefD) : mget (makeL L r) n = some v := by
  unfold makeL
  split
  · rename_i he
    rw [mget_mput]
    split
    · rename_i hn
      unfold makeE at he
      rw [← hn, h] at he
      split at he <;> simp at he
    · exact h
  · exact h
theorem tag_set {L : List (ByteArray × RefD)} {n : ByteArray} {v : RefD} (h : mget L n = some v) (ht : v.tag = true) (s : ByteArray) (old id : Int) : mget (setL L s old id) n = some v := by
  unfold setL
  split
  · rename_i he
    rw [mget_mput]
    split
    · rename_i hn
      subst hn
      unfold setE rGet at he
      rw [h] at he
      simp [ht] at he
    · exact h
  · exact h
theorem tag_set_ne {L : List (ByteArray × RefD)} {n : ByteArray} {v : RefD} (h : mget L n = some v) (ht : v.tag = true) (s : ByteArray) (old : Int) (he : setE L s old = 0) : s ≠ n := by
  intro e; subst e
  unfold setE rGet at he
  rw [h] at he
  simp [ht] at he

theorem refsTags_calls (w : World) (A : Option Addr) (n c : Nat) (l : List RefD) (h : RefRow w A n l) (D : Option Addr) (dn dc : Nat) (ds : List DeedD) (hd : DeedRow w D dn ds) (tn : ByteArray) (tt : Bool) (ti : Int) :
    Calls Try.prog 3 #[.slice A n c, .slice D dn dc, .agg #[.string tn, .bool tt, .int .u64 ti]] w fun e w' => e = .returned (.bool true) ∧ Below w.heap.size w w' := by
  have hdn := hd.le
  have HF := Lib.hid (fun W hW => few16_calls W A n c l hW)
  have H := Lib.hid h; clear h
  have HD := Lib.hid hd; clear hd
  obtain ⟨fb, hfb⟩ : ∃ fb, fb = fewB l := ⟨_, rfl⟩
  rw [← hfb] at HF
  clear hfb
  go_enter Try.func3, Try.ntmps3
  go_wp2_with fail
  refine (awake16_calls _).mono ?_
  rintro e w1 ⟨rfl, hb1⟩
  go_wp2_with fail
  have hB1 : Below w.heap.size w w1 := by (repeat (first | (with_reducible exact Below.refl _ _) | (with_reducible assumption) | (with_reducible refine bel_al0 ?_ _) | (with_reducible refine bel_set ?_ (by first | (simp; done) | (simp; omega)) _) | (with_reducible refine bel_dr ?_) | (with_reducible refine bel_drn ?_ _) | (with_reducible refine bel_tr ?_ (by assumption))))
  refine (HF.out _ (H.out.below hB1)).mono ?_
  rintro e w2 ⟨rfl, hb2⟩
  have hB2 : Below w.heap.size w w2 := bel_tr hB1 hb2
  cases fb with
  | false =>
    go_wp2
    go_ret
    exact ⟨rfl, hB2⟩
  | true =>
    by_cases h40 : 40 < dn
    · have g1 : decide ((40 : Int) < dn) = true := by simp; omega
      go_wp2
      go_ret
      exact ⟨rfl, hB2⟩
    · have g1 : decide ((40 : Int) < dn) = false := by simp; omega
      go_wp2_with fail
      clear g1
      refine (new_calls _ _ _ _ _ (H.out.below hB2)).mono ?_
      rintro e w3 ⟨p, m, rfl, ht3, hm3, hp3, hb3⟩
      have hB3 : Below w.heap.size w w3 := bel_tr hB2 hb3
      have hz1 : w.heap.size < w1.heap.size := by have := hb1.size; simp at this; omega
      have hz2 := hb2.size
      have hz3 := hb3.size
      obtain ⟨hc1, hf1⟩ := bcell hb1
      obtain ⟨hc2, hf2⟩ := bcell hb2
      obtain ⟨hc3, hf3⟩ := bcell hb3
      have c0 : w3.cell? ⟨w.heap.size, 0, none⟩ = some (.string tn) := by rw [hc3 _ _ (by omega), hc2 _ _ (by omega), hc1 _ _ (by simp)]; exact cell_at_new _ _ _ _ rfl
      have c1 : w3.cell? ⟨w.heap.size, 1, none⟩ = some (.bool tt) := by rw [hc3 _ _ (by omega), hc2 _ _ (by omega), hc1 _ _ (by simp)]; exact cell_at_new _ _ _ _ rfl
      have c2 : w3.cell? ⟨w.heap.size, 2, none⟩ = some (.int .u64 ti) := by rw [hc3 _ _ (by omega), hc2 _ _ (by omega), hc1 _ _ (by simp)]; exact cell_at_new _ _ _ _ rfl
      have f1 : w3.frozen? ⟨w.heap.size, 1, none⟩ = false := by rw [hf3 _ _ (by omega), hf2 _ _ (by omega), hf1 _ _ (by simp)]; exact frozen_at_new _ _ _ _
      clear hc1 hf1 hc2 hf2 hc3 hf3
      have HT3 := Lib.hid ht3; clear ht3
      go_wp2_with fail
      generalize hW : w3.setCell ⟨w.heap.size, 1, none⟩ (.bool true) = W
      have hbut : But w.heap.size w3 W := by rw [← hW]; exact But.set _ _ _ _
      have d0 : W.cell? ⟨w.heap.size, 0, none⟩ = some (.string tn) := by rw [← hW, World.cell?_setCell_other _ _ _ _ (by simp)]; exact c0
      have d1 : W.cell? ⟨w.heap.size, 1, none⟩ = some (.bool true) := by rw [← hW]; exact World.cell?_setCell_same _ _ _ c1
      have d2 : W.cell? ⟨w.heap.size, 2, none⟩ = some (.int .u64 ti) := by rw [← hW, World.cell?_setCell_other _ _ _ _ (by simp)]; exact c2
      have hBW : Below w.heap.size w W := hbut.below hB3 (Nat.le_refl _) (Nat.le_refl _)
      have hszW : W.heap.size = w3.heap.size := by rw [← hW]; simp [World.setCell]
      have hTW := HT3.out.but hbut (by omega) (by omega)
      have HTW := Lib.hid hTW; clear hTW
      clear hW hbut c0 c1 c2 f1 hszW
      obtain ⟨o, ho, hoc⟩ := HTW.out.2.notCells
      refine (make_calls _ _ _ _ HTW.out _ _ _).mono ?_
      rintro e w4 ⟨rfl, ht4, hb4⟩
      replace d0 := hb4.cell_keeps ho hoc d0
      replace d1 := hb4.cell_keeps ho hoc d1
      replace d2 := hb4.cell_keeps ho hoc d2
      have hB4 : Below w.heap.size w w4 := hb4.below hBW (Nat.le_refl _) (by omega)
      clear ho hoc hBW hb4
      obtain ⟨x, hx⟩ : ∃ x, x = makeE (l.foldl makeL []) ⟨tn, true, ti⟩ := ⟨_, rfl⟩
      rw [← hx]
      by_cases hx0 : x = 0
      · subst hx0
        obtain ⟨L4, hL4⟩ : ∃ L4, L4 = makeL (l.foldl makeL []) ⟨tn, true, ti⟩ := ⟨_, rfl⟩
        rw [← hL4] at ht4
        have hg4 : mget L4 tn = some ⟨tn, true, ti⟩ := by
          rw [hL4, makeL_ok hx.symm, mget_mput]; simp
        have HT4 := Lib.hid ht4; clear ht4
        have HG4 := Lib.hid hg4; clear hg4
        clear hx hL4 HTW HT3 HF
        have hmw : w.heap.size ≤ m := by omega
        have hdn40 : dn ≤ 40 := by omega
        clear hm3 hp3 hz1 hz2 hz3 hb1 hb2 hb3 hB1 hB2 hB3 h40
        go_wp2_with fail
        go_loopw [31, 9, 10, 11] (fun i _ _ _ wr => ∃ k : Nat, k ≤ dn ∧ i = .int .i64 k ∧ Hid (∃ L, TableAt wr p m L ∧ mget L tn = some ⟨tn, true, ti⟩) ∧ wr.cell? ⟨w.heap.size, 0, none⟩ = some (.string tn) ∧ wr.cell? ⟨w.heap.size, 1, none⟩ = some (.bool true) ∧ wr.cell? ⟨w.heap.size, 2, none⟩ = some (.int .u64 ti) ∧ Below w.heap.size w wr) (fun i _ _ _ _ => dn - (intOf i).toNat)
        case atStart => exact ⟨0, Nat.zero_le _, rfl, ⟨L4, HT4.out, HG4.out⟩, d0, d1, d2, hB4⟩
        case round =>
          clear d0 d1 d2 hB4 HT4 HG4
          obtain ⟨k, hk, rfl, ht, d0, d1, d2, hB⟩ := hrel
          obtain ⟨L, ht, hgl⟩ := ht.out
          have HT := Lib.hid ht; clear ht
          have HG := Lib.hid hgl; clear hgl
          by_cases hlt : k < dn
          · obtain ⟨b, off, rfl, hcell⟩ := HD.out.at_ (by omega)
            have hlk : ds[k]? = some (ds[k]'(by rw [HD.out.len]; exact hlt)) := List.getElem?_eq_getElem _
            obtain ⟨⟨dk, dm, dt, di, dold⟩, hlk⟩ : ∃ d, ds[k]? = some d := ⟨_, hlk⟩
            obtain ⟨e0, e1, e2, e3, e4⟩ := hcell k _ hlk
            clear hcell hlk
            simp only at e0 e1 e2 e3 e4
            replace e0 := cell_bel e0 hB
            replace e1 := cell_bel e1 hB
            replace e2 := cell_bel e2 hB
            replace e3 := cell_bel e3 hB
            replace e4 := cell_bel e4 hB
            have hz := hB.size
            have hlt0 := cell_lt d0
            by_cases h40 : 40 < dm.size
            · have g1 : decide ((40 : Int) < dm.size) = true := by simp; omega
              go_wp2
              go_ret
              exact ⟨rfl, by (repeat (first | (with_reducible exact Below.refl _ _) | (with_reducible assumption) | (with_reducible refine bel_al0 ?_ _) | (with_reducible refine bel_set ?_ (by first | (simp; done) | (simp; omega)) _) | (with_reducible refine bel_dr ?_) | (with_reducible refine bel_drn ?_ _) | (with_reducible refine bel_tr ?_ (by assumption))))⟩
            · have g1 : decide ((40 : Int) < dm.size) = false := by simp; omega
              clear h40
              by_cases hk0 : dk = 0
              · subst hk0
                go_wp2_with fail
                refine (make_calls _ _ _ _ (HT.out.below (bel_al0 (Below.refl _ _) _)) _ _ _).mono ?_
                rintro e w5 ⟨rfl, ht5, hb5⟩
                have hbut5 : But m wr w5 := (But.of_below (bel_al0 (Below.refl _ _) _)).trans hb5
                obtain ⟨o, ho, hoc⟩ := HT.out.2.notCells
                replace d0 := hbut5.cell_keeps ho hoc d0
                replace d1 := hbut5.cell_keeps ho hoc d1
                replace d2 := hbut5.cell_keeps ho hoc d2
                have hB5 : Below w.heap.size w w5 := hbut5.below hB (Nat.le_refl _) hmw
                have hg5 := tag_make HG.out (⟨dm, dt, di⟩ : RefD)
                have HT5 := Lib.hid ht5; clear ht5
                have HG5 := Lib.hid hg5; clear hg5

                clear hb5 hbut5 e0 e1 e2 e3 e4
                go_wp2_with fail
                refine (get_some p m _ _ HT5.out _ HG5.out).mono ?_
                rintro e w6 ⟨rfl, hb6⟩
                replace d0 := cell_bel d0 hb6
                replace d1 := cell_bel d1 hb6
                replace d2 := cell_bel d2 hb6
                have hB6 := bel_tr hB5 hb6
                have hlt6 := cell_lt d0
                have HT6 := Lib.hid (HT5.out.below hb6)
                go_wp2
                go_roundw
                case rel => exact ⟨k + 1, by omega, by go_num, ⟨_, HT6.out.below (bel_al0 (Below.refl _ _) _), HG5.out⟩, cell_al d0 _, cell_al d1 _, cell_al d2 _, bel_al0 hB6 _⟩
                case measure => simp [intOf]; omega

              · have g2 : (dk == 0) = false := by simpa using hk0
                clear hk0
                go_wp2_with fail
                refine (set_calls _ _ _ _ (HT.out.below (bel_al0 (Below.refl _ _) _)) _ _ _).mono ?_
                rintro e w5 ⟨rfl, ht5, hb5⟩
                have hbut5 : But m wr w5 := (But.of_below (bel_al0 (Below.refl _ _) _)).trans hb5
                have b1 : w5.cell? ⟨wr.heap.size, 1, none⟩ = some (.string dm) := by
                  obtain ⟨o, ho, hoc⟩ := (HT.out.below (bel_al0 (Below.refl _ wr) (.cells #[.int .i64 dk, .string dm, .bool dt, .int .u64 di, .int .u64 dold] 34))).2.notCells
                  exact hb5.cell_keeps ho hoc (cell_at_new _ _ _ _ rfl)
                obtain ⟨o, ho, hoc⟩ := HT.out.2.notCells
                replace d0 := hbut5.cell_keeps ho hoc d0
                replace d1 := hbut5.cell_keeps ho hoc d1
                replace d2 := hbut5.cell_keeps ho hoc d2
                have hB5 : Below w.heap.size w w5 := hbut5.below hB (Nat.le_refl _) hmw
                have hg5 := tag_set HG.out rfl dm dold di
                have HT5 := Lib.hid ht5; clear ht5
                have HG5 := Lib.hid hg5; clear hg5

                have hne5 := tag_set_ne HG.out rfl dm dold
                obtain ⟨x5, hx5⟩ : ∃ x5, x5 = setE L dm dold := ⟨_, rfl⟩
                rw [← hx5] at hne5 ⊢
                clear hb5 hbut5 e0 e1 e2 e3 e4 hx5
                by_cases hx0 : x5 = 0
                · subst hx0
                  have g3 := hne5 rfl
                  have g4 := text_ne g3
                  clear hne5 g3
                  go_wp2_with fail
                  refine (get_some p m _ _ HT5.out _ HG5.out).mono ?_
                  rintro e w6 ⟨rfl, hb6⟩
                  replace d0 := cell_bel d0 hb6
                  replace d1 := cell_bel d1 hb6
                  replace d2 := cell_bel d2 hb6
                  have hB6 := bel_tr hB5 hb6
                  have hlt6 := cell_lt d0
                  have HT6 := Lib.hid (HT5.out.below hb6)
                  go_wp2
                  go_roundw
                  case rel => exact ⟨k + 1, by omega, by go_num, ⟨_, HT6.out.below (bel_al0 (Below.refl _ _) _), HG5.out⟩, cell_al d0 _, cell_al d1 _, cell_al d2 _, bel_al0 hB6 _⟩
                  case measure => simp [intOf]; omega
                · have g3 : (x5 == 0) = false := by simpa using hx0
                  clear hne5 hx0
                  go_wp2_with fail
                  refine (get_some p m _ _ HT5.out _ HG5.out).mono ?_
                  rintro e w6 ⟨rfl, hb6⟩
                  replace d0 := cell_bel d0 hb6
                  replace d1 := cell_bel d1 hb6
                  replace d2 := cell_bel d2 hb6
                  have hB6 := bel_tr hB5 hb6
                  have hlt6 := cell_lt d0
                  have HT6 := Lib.hid (HT5.out.below hb6)
                  go_wp2
                  go_roundw
                  case rel => exact ⟨k + 1, by omega, by go_num, ⟨_, HT6.out.below (bel_al0 (Below.refl _ _) _), HG5.out⟩, cell_al d0 _, cell_al d1 _, cell_al d2 _, bel_al0 hB6 _⟩
                  case measure => simp [intOf]; omega

          · have hk' : k = dn := by omega
            subst hk'
            clear hlt
            go_wp2_with fail
            have D1 := drop_calls p m wr L HT.out tn
            rw [show dropE L tn = 0 from by unfold dropE; rw [HG.out]; rfl] at D1
            refine D1.mono ?_
            rintro e w5 ⟨rfl, ht5, hb5⟩
            obtain ⟨o, ho, hoc⟩ := HT.out.2.notCells
            replace d0 := hb5.cell_keeps ho hoc d0
            have hB5 : Below w.heap.size w w5 := hb5.below hB (Nat.le_refl _) hmw
            have D2 := drop_calls p m w5 _ ht5 tn
            rw [show dropE (mdel L tn) tn = 111 from by unfold dropE; rw [mget_mdel]; simp] at D2
            have HD2 := Lib.hid D2; clear D2 ht5 hb5 D1
            go_wp2_with fail
            refine HD2.out.mono ?_
            rintro e w6 ⟨rfl, ht6, hb6⟩
            have hB6 : Below w.heap.size w w6 := hb6.below hB5 (Nat.le_refl _) hmw
            clear ht6 hb6
            go_wp2
            go_ret
            exact ⟨rfl, hB6⟩
      · have g2 : (x == 0) = false := by simpa using hx0
        have g3 : (!(x == 0)) = true := by simpa using hx0
        clear hx hx0
        go_wp2
        go_ret
        exact ⟨rfl, hB4⟩
end Go.Proofs.Ytehneliphhgegaa
end
