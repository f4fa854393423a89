/- Commits and the graph of them: what each function of the package graph does, walked once. · Which commits may be: the functions of the package object, and the document's, walked once. · A commit is taken into a graph, or refused: walked once. -/
import Derived.Test.YtehneliphhgegaaGreatDoorRows2
import Derived.Test.YtehneliphhgegaaGreatDoorBase
import Derived.Test.YtehneliphhgegaaGreatDoorDFmt
import Derived.Test.YtehneliphhgegaaGreatDoorDRead
import Derived.Lib.MinMax
section
set_option linter.unusedVariables false
set_option linter.unusedSimpArgs false
set_option maxRecDepth 100000
namespace Go.Proofs.YtehneliphhgegaaGreatDoor
open Go.RowKit Go.Apo

def nums (l : List Int) : List Value := l.map (Value.int .u64)
theorem nums_len (l : List Int) : (nums l).length = l.length := by simp [nums]
theorem nums_at {l : List Int} {j : Nat} {x : Int} (h : l[j]? = some x) : (nums l)[j]? = some (.int .u64 x) := by simp [nums, h]
theorem nums_app (l k : List Int) : nums (l ++ k) = nums l ++ nums k := by simp [nums]
theorem nums_one (l : List Int) : ∀ u ∈ nums l, u.oneCell' = true := by
  intro u hu
  obtain ⟨x, _, rfl⟩ := List.mem_map.1 hu
  rfl
theorem infoU64 : (Tryz.prog.info? 34).map (fun i => (i.zero, i.size, i.bytes)) = some (some (.int .u64 0), 1, 8) := by kernel_rfl

/-- what slices.Clone leaves -/
def ClonePost (w : World) (l : List Int) (e : Ending) (w' : World) : Prop :=
  ∃ v, e = .returned v ∧ w'.ownsRow w.heap.size 34 1 v l.length (nums l) ∧ Below w.heap.size w w'

theorem clone_calls (w : World) (A : Option Addr) (c : Nat) (l : List Int) (hf : Flat w A (nums l)) (hl : l.length * 8 ≤ 140737488355328) (hA : A = none → l = []) :
    Calls Tryz.prog 51 #[.slice A l.length c] w (ClonePost w l) := by
  have hn := fun w A n c => Lib.run_eql_slice_nil (P := Tryz.prog) w 39 34 A n c 0 0 Tryz.underlying39
  cases A with
  | none =>
    obtain rfl := hA rfl
    go_enter Tryz.func51, Tryz.ntmps51
    go_wp2
    go_ret
    exact ⟨_, rfl, World.ownsRow_nil _ _ _ _, Below.refl _ _⟩
  | some a =>
    have HF := Lib.hid hf; clear hf
    clear hA
    obtain ⟨n, hn'⟩ : ∃ n, n = l.length := ⟨_, rfl⟩
    rw [← hn'] at hl ⊢
    have HN := Lib.hid hn'; clear hn'
    go_enter Tryz.func51, Tryz.ntmps51
    go_wp2_with (at_builtin; refine wpl_append rfl _ _ 39 rfl w.heap.size 34 _ 1 8 Tryz.underlying39 infoU64 rfl (by decide) _ 0 [] rfl (World.ownsRow_lit w #[] 0 (Nat.le_refl _) (Nat.zero_le _) rfl) (some a) n c (nums l) rfl (by rw [nums_len, HN.out, Nat.mul_one]) (HF.out.below (bel_al0 (Below.refl _ _) _)) (nums_one l) (by unfold maxLen; omega) (by omega) (by simp) ?_; intro v' w' ho hg hat)
    go_ret
    refine ⟨v', rfl, ?_, ?_⟩
    · rw [← HN.out]; simpa using ho
    · refine (bel_al0 (Below.refl _ w) _).grown hg (by simp) (fun k hk => ?_)
      have := (World.ownsRow_lit (e := 34) (size := 1) w #[] 0 (Nat.le_refl _) (Nat.zero_le _) rfl).lt k hk
      exact this.1

structure CommitD where
  id : Int
  par : List Int
  gen : Int
  root : Int
  text : ByteArray

/-- how a commit stands as a value -/
def commitIs (w : World) (c : CommitD) (v : Value) : Prop :=
  ∃ A k, v = .agg #[.int .u64 c.id, .slice A c.par.length k, .int .u64 c.gen, .int .u64 c.root, .string c.text] ∧ Flat w A (nums c.par) ∧ (A = none → c.par = [])
theorem commits_onCells : OnCells commitIs := fun w w' c v hk ⟨A, k, h1, h2, h3⟩ => ⟨A, k, h1, h2.cells hk, h3⟩
theorem commitIs_below {w w' : World} {c : CommitD} {v : Value} (h : commitIs w c v) (hb : Below w.heap.size w w') : commitIs w' c v := by
  obtain ⟨A, k, h1, h2, h3⟩ := h
  exact ⟨A, k, h1, h2.below hb, h3⟩

/-- a commit in memory of its own is handed back -/
def OwnPost (w : World) (c : CommitD) (e : Ending) (w' : World) : Prop :=
  ∃ A k, e = .returned (.agg #[.int .u64 c.id, .slice A c.par.length k, .int .u64 c.gen, .int .u64 c.root, .string c.text]) ∧ w'.ownsRow w.heap.size 34 1 (.slice A c.par.length k) c.par.length (nums c.par) ∧ Below w.heap.size w w'

theorem own_none {w : World} {base e size n k : Nat} {xs : List Value} (h : w.ownsRow base e size (.slice none n k) n xs) : n = 0 := by
  rcases h.2 with ⟨_, h2⟩ | ⟨g, cap, cur, h1, _⟩
  · exact h2
  · cases h1

theorem own_calls (w : World) (i g r : Int) (t : ByteArray) (A : Option Addr) (n k : Nat) (ps : List Int) (hn : ps.length = n) (hf : Flat w A (nums ps)) (hA : A = none → ps = []) (hl : n * 8 ≤ 140737488355328) :
    Calls Tryz.prog 35 #[.agg #[.int .u64 i, .slice A n k, .int .u64 g, .int .u64 r, .string t]] w (OwnPost w ⟨i, ps, g, r, t⟩) := by
  subst hn
  have C := fun W h => Lib.hid (clone_calls W A k ps h hl hA)
  have HF := Lib.hid hf; clear hf hA
  obtain ⟨n, hn'⟩ : ∃ n, n = ps.length := ⟨_, rfl⟩
  unfold OwnPost
  simp only
  rw [← hn'] at C hl ⊢
  have HN := Lib.hid hn'; clear hn'
  have HC := Lib.hid C; clear C
  go_enter Tryz.func35, Tryz.ntmps35
  go_wp2_with (go_at_call 51; refine (HC.out _ (HF.out.below ?_)).out.mono ?_; (repeat (first | (with_reducible exact Below.refl _ _) | (with_reducible assumption) | (with_reducible refine bel_al0 ?_ _) | (with_reducible refine bel_set ?_ (by first | (simp; done) | (simp; omega)) _) | (with_reducible refine bel_dr ?_) | (with_reducible refine bel_drn ?_ _) | (with_reducible refine bel_tr ?_ (by assumption)))); rintro e w1 ⟨v, rfl, ho1, hb1⟩; rw [← HN.out] at ho1; obtain ⟨A1, c1, rfl, hc1⟩ := own_form ho1; have B0 := ((blk_new w _ _).al _).below hb1; have B1 := (blk_new _ _ _).below hb1; simp only [World.size_alloc] at B1; obtain ⟨x0, x1, x2, x3, x4, xf⟩ := B0.five; obtain ⟨y0, y1, y2, y3, y4, yf⟩ := B1.five; clear B0 B1; have hz1 : w.heap.size + 1 < w1.heap.size := (by have := hb1.size; simp at this; omega); have HO1 := Lib.hid ho1; clear ho1)
  refine bodyPost_ret (v := .agg #[.int .u64 i, .slice A1 n c1, .int .u64 g, .int .u64 r, .string t]) ?_ rfl ?_
  · simp [results, Tryz.results35, go_sem, x0, x1, x2, x3, x4, y0, y1, y2, y3, y4]
  · clear HF HC x0 x1 x2 x3 x4 xf y0 y1 y2 y3 y4 yf
    have ho := own_mono HO1.out (base' := w.heap.size + 2) (by simp)
    refine ⟨A1, c1, rfl, own_mono (base := w.heap.size + 2) ?_ (by omega), ?_⟩
    · clear hb1; (repeat (first | (with_reducible assumption) | (with_reducible refine ownsRow_setCell_below ?_ (by first | (simp; done) | (simp; omega)) _)))
    · (repeat (first | (with_reducible exact Below.refl _ _) | (with_reducible assumption) | (with_reducible refine bel_al0 ?_ _) | (with_reducible refine bel_set ?_ (by first | (simp; done) | (simp; omega)) _) | (with_reducible refine bel_dr ?_) | (with_reducible refine bel_drn ?_ _) | (with_reducible refine bel_tr ?_ (by assumption))))

/-- a graph behind a pointer: commits by their numbers, each with few parents -/
def gcIs (w : World) (c : CommitD) (v : Value) : Prop := commitIs w c v ∧ c.par.length ≤ 2
theorem gcs_onCells : OnCells gcIs := fun w w' c v hk ⟨h1, h2⟩ => ⟨commits_onCells w w' c v hk h1, h2⟩
def GraphAt (w : World) (p m : Nat) (L : List (Int × CommitD)) : Prop := w.cell? ⟨p, 0, none⟩ = some (.map (some m)) ∧ MapIs (Value.int .u64) gcIs w m L
theorem GraphAt.below {w w' : World} {p m : Nat} {L : List (Int × CommitD)} (h : GraphAt w p m L) (hb : Below w.heap.size w w') : GraphAt w' p m L :=
  ⟨cell_bel h.1 hb, h.2.below gcs_onCells hb⟩
theorem keyU : KeyT Tryz.prog 34 (Value.int .u64) := keyT_int Tryz.underlying34
theorem zeroCommit (W : World) : (zeroValue 41).run Tryz.prog W = .ok (.agg #[.int .u64 0, .slice none 0 0, .int .u64 0, .int .u64 0, .string ⟨#[]⟩]) W := by kernel_rfl
def CommitD.zero : CommitD := ⟨0, [], 0, 0, ⟨#[]⟩⟩

theorem gok_yes (p m : Nat) (w : World) (h : w.cell? ⟨p, 0, none⟩ = some (.map (some m))) :
    Calls Tryz.prog 34 #[.pointer (some ⟨p, 0, none⟩)] w fun e w' => e = .returned (.bool true) ∧ w = w' := by
  have hn := fun w r => run_neq_map_nil (P := Tryz.prog) w 77 34 41 r Tryz.underlying77
  go_enter Tryz.func34, Tryz.ntmps34
  go_wp2
  go_ret
  exact ⟨rfl, rfl⟩
theorem gok_nil (w : World) :
    Calls Tryz.prog 34 #[.pointer none] w fun e w' => e = .returned (.bool false) ∧ w = w' := by
  have hn := fun w r => run_neq_map_nil (P := Tryz.prog) w 77 34 41 r Tryz.underlying77
  go_enter Tryz.func34, Tryz.ntmps34
  go_wp2
  go_ret
  exact ⟨rfl, rfl⟩
theorem gnew_calls (w : World) :
    Calls Tryz.prog 15 #[] w fun e w' => e = .returned (.pointer (some ⟨w.heap.size + 1, 0, none⟩)) ∧ GraphAt w' (w.heap.size + 1) w.heap.size [] ∧ Below w.heap.size w w' := by
  have hmm := @run_makeMap Tryz.prog
  go_enter Tryz.func15, Tryz.ntmps15
  go_wp2
  go_ret
  refine ⟨rfl, ⟨by simp, (mapIs_made (Value.int .u64) gcIs w).below gcs_onCells (by (repeat (first | (with_reducible exact Below.refl _ _) | (with_reducible assumption) | (with_reducible refine bel_al0 ?_ _) | (with_reducible refine bel_set ?_ (by first | (simp; done) | (simp; omega)) _) | (with_reducible refine bel_dr ?_) | (with_reducible refine bel_drn ?_ _) | (with_reducible refine bel_tr ?_ (by assumption)))))⟩, by (repeat (first | (with_reducible exact Below.refl _ _) | (with_reducible assumption) | (with_reducible refine bel_al0 ?_ _) | (with_reducible refine bel_set ?_ (by first | (simp; done) | (simp; omega)) _) | (with_reducible refine bel_dr ?_) | (with_reducible refine bel_drn ?_ _) | (with_reducible refine bel_tr ?_ (by assumption))))⟩

/-- what a graph tells of a number -/
def gGet (L : List (Int × CommitD)) (i : Int) : CommitD := (mget L i).getD CommitD.zero
/-- what the table's Get leaves: the parents in memory of their own -/
def GetOwn (w : World) (c : CommitD) (b : Bool) (e : Ending) (w' : World) : Prop :=
  ∃ A k, e = .returned (.tuple #[.agg #[.int .u64 c.id, .slice A c.par.length k, .int .u64 c.gen, .int .u64 c.root, .string c.text], .bool b]) ∧ w'.ownsRow w.heap.size 34 1 (.slice A c.par.length k) c.par.length (nums c.par) ∧ Below w.heap.size w w'
theorem gget_none (p m : Nat) (w : World) (L : List (Int × CommitD)) (h : GraphAt w p m L) (i : Int) (hl : mget L i = none) :
    Calls Tryz.prog 49 #[.pointer (some ⟨p, 0, none⟩), .int .u64 i] w (GetOwn w CommitD.zero false) := by
  have hc := h.1
  have hlt : p < w.heap.size := cell_lt hc
  have HB := Lib.hid (bel_al0 (Below.refl w.heap.size w) (.cells #[.int .u64 0, .slice none 0 0, .int .u64 0, .int .u64 0, .string ⟨#[]⟩] 41))
  have H := Lib.hid h; clear h
  have HL := Lib.hid hl; clear hl
  go_enter Tryz.func49, Tryz.ntmps49
  go_wp2_with (first | (go_at_call 34; refine (gok_yes p m _ (cell_al hc _)).mono ?_; rintro e w' ⟨rfl, rfl⟩) | (at_lookup; refine wpl_look_none rfl true _ _ 77 41 rfl keyU Tryz.underlying77 _ (fun W => zeroCommit W) rfl i rfl (H.out.below HB.out).2 HL.out ?_) | (go_at_call 35; refine (own_calls _ 0 0 0 ⟨#[]⟩ none 0 0 [] rfl (Flat.nil _ _) (fun _ => rfl) (by omega)).mono ?_; rintro e w1 ⟨A1, k1, rfl, ho1, hb1⟩; have B0 := ((blk_new w _ _).al _).below hb1; obtain ⟨x0, x1, x2, x3, x4, xf⟩ := B0.five; clear B0; have hz1 : w.heap.size + 1 < w1.heap.size := (by have := hb1.size; simp at this; omega); have HO1 := Lib.hid ho1; clear ho1))
  refine bodyPost_ret (v := .tuple #[.agg #[.int .u64 0, .slice A1 0 k1, .int .u64 0, .int .u64 0, .string ⟨#[]⟩], .bool false]) ?_ rfl ?_
  · simp [results, Tryz.results49, go_sem, x0, x1, x2, x3, x4]
  · have ho := HO1.out
    refine ⟨A1, k1, rfl, ?_, ?_⟩
    · have ho2 := own_mono ho (base' := w.heap.size + 1) (by simp)
      clear ho hb1
      refine own_mono (base := w.heap.size + 1) (n := 0) (e := 34) (size := 1) ?_ (Nat.le_succ _)
      (repeat (first | (with_reducible assumption) | (with_reducible refine ownsRow_setCell_below ?_ (by first | (simp; done) | (simp; omega)) _)))
      all_goals exact ho2
    · skip
      (repeat (first | (with_reducible exact Below.refl _ _) | (with_reducible assumption) | (with_reducible refine bel_al0 ?_ _) | (with_reducible refine bel_set ?_ (by first | (simp; done) | (simp; omega)) _) | (with_reducible refine bel_dr ?_) | (with_reducible refine bel_drn ?_ _) | (with_reducible refine bel_tr ?_ (by assumption))))
theorem gget_some (p m : Nat) (w : World) (L : List (Int × CommitD)) (h : GraphAt w p m L) (i : Int) {c : CommitD} (hl : mget L i = some c) :
    Calls Tryz.prog 49 #[.pointer (some ⟨p, 0, none⟩), .int .u64 i] w (GetOwn w c true) := by
  have hc := h.1
  have hlt : p < w.heap.size := cell_lt hc
  have HB := Lib.hid (bel_al0 (Below.refl w.heap.size w) (.cells #[.int .u64 0, .slice none 0 0, .int .u64 0, .int .u64 0, .string ⟨#[]⟩] 41))
  have H := Lib.hid h; clear h
  have HL := Lib.hid hl; clear hl
  go_enter Tryz.func49, Tryz.ntmps49
  go_wp2_with (first | (go_at_call 34; refine (gok_yes p m _ (cell_al hc _)).mono ?_; rintro e w' ⟨rfl, rfl⟩) | (at_lookup; refine wpl_look_some rfl true _ _ 77 41 rfl keyU Tryz.underlying77 rfl i rfl (H.out.below HB.out).2 HL.out ?_; rintro u ⟨⟨A, k, rfl, hf, hA⟩, hlen⟩; have HF := Lib.hid hf; clear hf; have HA := Lib.hid hA; clear hA; have HLEN := Lib.hid hlen; clear hlen) | (go_at_call 35; refine (own_calls _ c.id c.gen c.root c.text A _ k c.par rfl (HF.out.below (bel_al0 (Below.refl _ _) _)) HA.out (by have := HLEN.out; omega)).mono ?_; rintro e w1 ⟨A1, k1, rfl, ho1, hb1⟩; have B0 := ((blk_new w _ _).al _).below hb1; obtain ⟨x0, x1, x2, x3, x4, xf⟩ := B0.five; clear B0; have hz1 : w.heap.size + 1 < w1.heap.size := (by have := hb1.size; simp at this; omega); have HO1 := Lib.hid ho1; clear ho1))
  refine bodyPost_ret (v := .tuple #[.agg #[.int .u64 c.id, .slice A1 c.par.length k1, .int .u64 c.gen, .int .u64 c.root, .string c.text], .bool true]) ?_ rfl ?_
  · simp [results, Tryz.results49, go_sem, x0, x1, x2, x3, x4]
  · have ho := HO1.out
    refine ⟨A1, k1, rfl, ?_, ?_⟩
    · have ho2 := own_mono ho (base' := w.heap.size + 1) (by simp)
      clear ho hb1
      refine own_mono (base := w.heap.size + 1) (n := c.par.length) (e := 34) (size := 1) ?_ (Nat.le_succ _)
      (repeat (first | (with_reducible assumption) | (with_reducible refine ownsRow_setCell_below ?_ (by first | (simp; done) | (simp; omega)) _)))
      all_goals exact ho2
    · skip
      (repeat (first | (with_reducible exact Below.refl _ _) | (with_reducible assumption) | (with_reducible refine bel_al0 ?_ _) | (with_reducible refine bel_set ?_ (by first | (simp; done) | (simp; omega)) _) | (with_reducible refine bel_dr ?_) | (with_reducible refine bel_drn ?_ _) | (with_reducible refine bel_tr ?_ (by assumption))))

theorem gget_calls (p m : Nat) (w : World) (L : List (Int × CommitD)) (h : GraphAt w p m L) (i : Int) :
    Calls Tryz.prog 49 #[.pointer (some ⟨p, 0, none⟩), .int .u64 i] w (GetOwn w (gGet L i) (mget L i).isSome) := by
  unfold gGet
  cases hl : mget L i with
  | none => exact gget_none p m w L h i hl
  | some c => exact gget_some p m w L h i hl
end Go.Proofs.YtehneliphhgegaaGreatDoor
end
section
set_option linter.unusedVariables false
set_option linter.unusedSimpArgs false
set_option maxRecDepth 100000
namespace Go.Proofs.YtehneliphhgegaaGreatDoor
open Go.RowKit Go.Apo

def chT (c : Nat) : Bool := decide (c < 32) || decide (126 < c)
theorem chT_iff (c : Nat) : chT c = true ↔ c < 32 ∨ 126 < c := by simp [chT]
def textB (s : ByteArray) : Bool := decide (s.size ≤ 60) && (List.range s.size).all fun k => !chT (byteAt s k)
theorem textB_long {s : ByteArray} (h : 60 < s.size) : textB s = false := by unfold textB; simp; omega
theorem textB_at {s : ByteArray} {k : Nat} (hk : k < s.size) (h : chT (byteAt s k) = true) : textB s = false := by
  unfold textB
  have : ((List.range s.size).all fun k => !chT (byteAt s k)) = false := by
    rw [List.all_eq_false]
    exact ⟨k, List.mem_range.2 hk, by simp [h]⟩
  simp [this]
theorem textB_yes {s : ByteArray} (h2 : s.size ≤ 60) (h : ∀ k, k < s.size → chT (byteAt s k) = false) : textB s = true := by
  unfold textB
  simp only [h2, decide_true, Bool.true_and, List.all_eq_true, List.mem_range]
  intro k hk; simp [h k hk]

theorem text1_calls (b : Nat) (hb : b < 256) (w : World) : Calls Tryz.prog 63 #[.int .u8 b] w fun e w' => e = .returned (.bool (chT b)) ∧ w = w' := by
  by_cases h1 : b < 32
  · have hc : chT b = true := (chT_iff b).2 (Or.inl h1)
    have HC := Lib.hid hc; clear hc
    have g1 : decide ((b : Int) < 32) = true := by simp; omega
    go_enter Tryz.func63, Tryz.ntmps63
    go_wp2
    go_ret
    exact ⟨by rw [HC.out]; rfl, rfl⟩
  · have hc : chT b = decide ((126 : Int) < b) := by
      unfold chT
      rw [show decide (b < 32) = false from by simpa using h1, Bool.false_or]
      by_cases h : 126 < b
      · simp [h]; omega
      · simp [h]; omega
    have HC := Lib.hid hc; clear hc
    have g1 : decide ((b : Int) < 32) = false := by simp; omega
    go_enter Tryz.func63, Tryz.ntmps63
    go_wp2
    go_ret
    exact ⟨by rw [HC.out]; rfl, rfl⟩

/-- the first bad byte's place, or -1 -/
def IdxPost (w : World) (s : ByteArray) (e : Ending) (w' : World) : Prop :=
  ∃ r : Int, e = .returned (.int .i64 r) ∧ w = w' ∧ ((0 ≤ r ∧ ∃ k, k < s.size ∧ chT (byteAt s k) = true) ∨ (r = -1 ∧ ∀ k, k < s.size → chT (byteAt s k) = false))
theorem indexT_calls (w : World) (s : ByteArray) (b c : Nat) (hs : s.size ≤ 60) (hc : ∀ j, j < s.size → w.cell? ⟨b, j, none⟩ = some (.int .u8 (byteAt s j))) :
    Calls Tryz.prog 80 #[.slice (some ⟨b, 0, none⟩) s.size c, .func (.func 63) #[] #[]] w (IdxPost w s) := by
  have HC := Lib.hid hc; clear hc
  go_enter Tryz.func80, Tryz.ntmps80
  go_wp2
  go_loop [8, 5] (fun i _ => ∃ k : Nat, k ≤ s.size ∧ i = .int .i64 k ∧ Hid (∀ j, j < k → chT (byteAt s j) = false)) (fun i _ => s.size - (intOf i).toNat)
  case atStart => exact ⟨0, Nat.zero_le _, rfl, fun j hj => absurd hj (Nat.not_lt_zero _)⟩
  case round =>
    obtain ⟨k, hk, rfl, hok⟩ := hrel
    by_cases hlt : k < s.size
    · have hcell := HC.out k hlt
      have hbt := byteAt_lt s k
      obtain ⟨x, hx⟩ : ∃ x, x = byteAt s k := ⟨_, rfl⟩
      rw [← hx] at hcell hbt
      have HX := Lib.hid hx; clear hx
      have C := Lib.hid (text1_calls x hbt w)
      obtain ⟨q, hq⟩ : ∃ q, q = chT x := ⟨_, rfl⟩
      rw [← hq] at C
      have HQ := Lib.hid hq; clear hq
      cases q with
      | true =>
        go_wp2_with (go_at_call 63; refine C.out.mono ?_; rintro e w' ⟨rfl, rfl⟩)
        go_ret
        exact ⟨_, rfl, rfl, Or.inl ⟨by omega, k, hlt, by rw [← HX.out]; exact HQ.out.symm⟩⟩
      | false =>
        go_wp2_with (go_at_call 63; refine C.out.mono ?_; rintro e w' ⟨rfl, rfl⟩)
        go_round
        case rel =>
          refine ⟨k + 1, by omega, by go_num, fun j hj => ?_⟩
          rcases Nat.lt_or_ge j k with h' | h'
          · exact hok j h'
          · obtain rfl : j = k := by omega
            rw [← HX.out]; exact HQ.out.symm
        case measure => simp [intOf]; omega
    · go_wp2
      go_ret
      exact ⟨_, rfl, rfl, Or.inr ⟨rfl, fun j hj => hok j (by omega)⟩⟩

theorem containsT_calls (w : World) (s : ByteArray) (b c : Nat) (hs : s.size ≤ 60) (hc : ∀ j, j < s.size → w.cell? ⟨b, j, none⟩ = some (.int .u8 (byteAt s j))) :
    Calls Tryz.prog 62 #[.slice (some ⟨b, 0, none⟩) s.size c, .func (.func 63) #[] #[]] w fun e w' => e = .returned (.bool (!textB s)) ∧ w = w' := by
  have HI := Lib.hid (indexT_calls w s b c hs hc)
  clear hc
  go_enter Tryz.func62, Tryz.ntmps62
  go_wp2_with fail
  refine HI.out.mono ?_
  rintro e w' ⟨r, rfl, rfl, hr⟩
  rcases hr with ⟨h0, k, hk, hb⟩ | ⟨h0, hall⟩
  · have hc := textB_at hk hb
    have HC := Lib.hid hc; clear hc hb
    go_wp2
    go_ret
    exact ⟨by rw [HC.out]; rfl, rfl⟩
  · have hc := textB_yes hs hall
    have HC := Lib.hid hc; clear hc hall
    subst h0
    go_wp2
    go_ret
    exact ⟨by rw [HC.out]; rfl, rfl⟩

theorem text_calls (s : ByteArray) (w : World) : Calls Tryz.prog 50 #[.string s] w fun e w' => e = .returned (.bool (textB s)) ∧ Below w.heap.size w w' := by
  by_cases h1 : 60 < s.size
  · have hc := textB_long h1
    have HC := Lib.hid hc; clear hc
    have g1 : decide ((60 : Int) < s.size) = true := by simp; omega
    go_enter Tryz.func50, Tryz.ntmps50
    go_wp2
    go_ret
    exact ⟨by rw [HC.out]; rfl, Below.refl _ _⟩
  · have g1 : decide ((60 : Int) < s.size) = false := by simp; omega
    obtain ⟨w1, c, hrun, hb, hz, hcell⟩ := bytes_row (P := Tryz.prog) w 9 76 5 s Tryz.underlying9 Tryz.underlying76 Tryz.underlying5
    have hI := containsT_calls w1 s w.heap.size c (by omega) hcell
    obtain ⟨q, hq⟩ : ∃ q, q = textB s := ⟨_, rfl⟩
    rw [← hq] at hI ⊢
    have HI := Lib.hid hI; clear hI hq
    clear hcell hz
    go_enter Tryz.func50, Tryz.ntmps50
    go_wp2_with fail
    refine HI.out.mono ?_
    rintro e w' ⟨rfl, rfl⟩
    go_wp2
    go_ret
    exact ⟨by simp, hb⟩

def parOk (id : Int) (ps : List Int) (j : Nat) : Bool := !(ps.getD j 0 == 0) && decide (ps.getD j 0 < id) && (j == 0 || !(ps.getD j 0 == ps.getD 0 0))
def rightE (c : CommitD) : Int :=
  if c.id = 0 then 120 else if 2 < c.par.length then 120 else if ((c.par.length : Int) == 0) != (c.gen == 1) then 120 else if c.gen = 0 then 120
  else if (List.range c.par.length).all (parOk c.id c.par) then (if textB c.text then 0 else 121) else 120

theorem right_calls (w : World) (i g r : Int) (t : ByteArray) (A : Option Addr) (n k : Nat) (ps : List Int) (hn : ps.length = n) (hf : Flat w A (nums ps)) :
    Calls Tryz.prog 33 #[.agg #[.int .u64 i, .slice A n k, .int .u64 g, .int .u64 r, .string t]] w fun e w' => e = .returned (.int .i64 (rightE ⟨i, ps, g, r, t⟩)) ∧ Below w.heap.size w w' := by
  obtain ⟨x, hx⟩ : ∃ x, x = rightE ⟨i, ps, g, r, t⟩ := ⟨_, rfl⟩
  rw [← hx]
  unfold rightE at hx
  simp only [hn] at hx
  by_cases h1 : i = 0
  · rw [if_pos h1] at hx
    subst hx h1
    go_enter Tryz.func33, Tryz.ntmps33
    go_wp2
    go_step3
    go_wp2
    (try rw [Exit.noGoto_ret])
    go_ret
    exact ⟨rfl, by (repeat (first | (with_reducible exact Below.refl _ _) | (with_reducible assumption) | (with_reducible refine bel_al0 ?_ _) | (with_reducible refine bel_set ?_ (by first | (simp; done) | (simp; omega)) _) | (with_reducible refine bel_dr ?_) | (with_reducible refine bel_drn ?_ _) | (with_reducible refine bel_tr ?_ (by assumption))))⟩
  · rw [if_neg h1] at hx
    have g1 : (i == 0) = false := by simpa using h1
    by_cases h2 : 2 < n
    · rw [if_pos h2] at hx
      subst hx
      have g2 : decide ((2 : Int) < n) = true := by simp; omega
      clear h1
      go_enter Tryz.func33, Tryz.ntmps33
      go_wp2
      go_step3
      go_wp2
      (try rw [Exit.noGoto_ret])
      go_ret
      exact ⟨rfl, by (repeat (first | (with_reducible exact Below.refl _ _) | (with_reducible assumption) | (with_reducible refine bel_al0 ?_ _) | (with_reducible refine bel_set ?_ (by first | (simp; done) | (simp; omega)) _) | (with_reducible refine bel_dr ?_) | (with_reducible refine bel_drn ?_ _) | (with_reducible refine bel_tr ?_ (by assumption))))⟩
    · rw [if_neg h2] at hx
      have g2 : decide ((2 : Int) < n) = false := by simp; omega
      clear h1
      cases hb : (((n : Int) == 0) == (g == 1)) with
      | false =>
        rw [if_pos (by simpa [bne] using hb)] at hx
        subst hx
        go_enter Tryz.func33, Tryz.ntmps33
        go_wp2
        go_step3
        go_wp2
        (try rw [Exit.noGoto_ret])
        go_ret
        exact ⟨rfl, by (repeat (first | (with_reducible exact Below.refl _ _) | (with_reducible assumption) | (with_reducible refine bel_al0 ?_ _) | (with_reducible refine bel_set ?_ (by first | (simp; done) | (simp; omega)) _) | (with_reducible refine bel_dr ?_) | (with_reducible refine bel_drn ?_ _) | (with_reducible refine bel_tr ?_ (by assumption))))⟩
      | true =>
        rw [if_neg (by simpa [bne] using hb)] at hx
        have h3 : ((n : Int) == 0) = (g == 1) := by simpa using hb
        clear hb
        by_cases h4 : g = 0
        · rw [if_pos h4] at hx
          subst hx
          have g4 : (g == 0) = true := by simpa using h4
          clear h4
          go_enter Tryz.func33, Tryz.ntmps33
          go_wp2
          go_step3
          go_wp2
          (try rw [Exit.noGoto_ret])
          go_ret
          exact ⟨rfl, by (repeat (first | (with_reducible exact Below.refl _ _) | (with_reducible assumption) | (with_reducible refine bel_al0 ?_ _) | (with_reducible refine bel_set ?_ (by first | (simp; done) | (simp; omega)) _) | (with_reducible refine bel_dr ?_) | (with_reducible refine bel_drn ?_ _) | (with_reducible refine bel_tr ?_ (by assumption))))⟩
        · rw [if_neg h4] at hx
          have g4 : (g == 0) = false := by simpa using h4
          clear h4
          have HX := Lib.hid hx; clear hx
          have HF := Lib.hid hf; clear hf
          have HN := Lib.hid hn; clear hn
          have HT := Lib.hid (fun W => text_calls t W)
          obtain ⟨q, hq⟩ : ∃ q, q = textB t := ⟨_, rfl⟩
          rw [← hq] at HX HT
          clear hq
          go_enter Tryz.func33, Tryz.ntmps33
          go_wp2
          go_step3
          go_wp2
          go_step3
          go_wp2_with fail
          clear h3 g1 g2 g4
          have hfw : Flat (w.alloc (.cells #[.int .u64 i, .slice A n k, .int .u64 g, .int .u64 r, .string t] 41)) A (nums ps) := HF.out.below (by (repeat (first | (with_reducible exact Below.refl _ _) | (with_reducible assumption) | (with_reducible refine bel_al0 ?_ _) | (with_reducible refine bel_set ?_ (by first | (simp; done) | (simp; omega)) _) | (with_reducible refine bel_dr ?_) | (with_reducible refine bel_drn ?_ _) | (with_reducible refine bel_tr ?_ (by assumption)))))
          have HFW := Lib.hid hfw; clear hfw
          go_loop [32, 3, 4] (fun x _ _ => ∃ j : Nat, j ≤ n ∧ x = .int .i64 j ∧ Hid (∀ q, q < j → parOk i ps q = true)) (fun x _ _ => n - (intOf x).toNat)
          case atStart => exact ⟨0, Nat.zero_le _, rfl, fun j hj => absurd hj (Nat.not_lt_zero _)⟩
          case round =>
            obtain ⟨j, hj, rfl, hok⟩ := hrel
            by_cases hlt : j < n
            · have hnum : ∀ q, q < n → (nums ps)[q]? = some (.int .u64 (ps.getD q 0)) := fun q hq => by
                have : q < ps.length := by rw [HN.out]; exact hq
                simp [nums, List.getD_eq_getElem?_getD, List.getElem?_eq_getElem this]
              obtain ⟨b, off, rfl, hcell⟩ := HFW.out (by rw [nums_len, HN.out]; omega)
              have cj := hcell j _ (hnum j hlt)
              have c0 := hcell 0 _ (hnum 0 (by omega))
              rw [Nat.add_zero] at c0
              have hstep : parOk i ps j = true → Hid (∀ q, q < j + 1 → parOk i ps q = true) := fun h q hq => by
                rcases Nat.lt_or_ge q j with h' | h'
                · exact hok q h'
                · obtain rfl : q = j := by omega
                  exact h
              have hstop : parOk i ps j = false → x = 120 := fun h => by
                have : (List.range n).all (parOk i ps) = false := by
                  rw [List.all_eq_false]
                  exact ⟨j, List.mem_range.2 hlt, by simp [h]⟩
                rw [HX.out, this]; rfl
              obtain ⟨pj, hpj⟩ : ∃ pj, pj = ps.getD j 0 := ⟨_, rfl⟩
              obtain ⟨p0, hp0⟩ : ∃ p0, p0 = ps.getD 0 0 := ⟨_, rfl⟩
              have hpar : parOk i ps j = (!(pj == 0) && decide (pj < i) && (j == 0 || !(pj == p0))) := by rw [hpj, hp0]; rfl
              rw [← hpj] at cj
              rw [← hp0] at c0
              rw [hpar] at hstep hstop
              have hjp : j = 0 → p0 = pj := fun e => by rw [hpj, hp0, e]
              have HJP := Lib.hid hjp; clear hjp
              have HSTEP := Lib.hid hstep; clear hstep
              have HSTOP := Lib.hid hstop; clear hstop
              clear hpar hpj hp0 hcell hnum
              by_cases a1 : pj = 0
              · have e := HSTOP.out (by simp [a1])
                subst e a1
                go_wp2
                (try rw [Exit.noGoto_ret])
                go_ret
                exact ⟨rfl, by (repeat (first | (with_reducible exact Below.refl _ _) | (with_reducible assumption) | (with_reducible refine bel_al0 ?_ _) | (with_reducible refine bel_set ?_ (by first | (simp; done) | (simp; omega)) _) | (with_reducible refine bel_dr ?_) | (with_reducible refine bel_drn ?_ _) | (with_reducible refine bel_tr ?_ (by assumption))))⟩
              · have g1 : (pj == 0) = false := by simpa using a1
                clear a1
                by_cases a2 : pj < i
                · have g2 : decide (i ≤ pj) = false := by simp; omega
                  by_cases a3 : j = 0
                  · obtain rfl := HJP.out a3
                    subst a3
                    clear cj
                    have HS := HSTEP.out (by simp [g1, a2])
                    clear HSTEP HSTOP
                    go_wp2
                    go_round
                    case rel => exact ⟨1, by omega, rfl, HS⟩
                    case measure => simp [intOf]; omega
                  · have g3 : ((j : Int) == 0) = false := by simp; omega
                    by_cases a4 : pj = p0
                    · have e := HSTOP.out (by simp [a4, a3])
                      subst e a4
                      go_wp2
                      (try rw [Exit.noGoto_ret])
                      go_ret
                      exact ⟨rfl, by (repeat (first | (with_reducible exact Below.refl _ _) | (with_reducible assumption) | (with_reducible refine bel_al0 ?_ _) | (with_reducible refine bel_set ?_ (by first | (simp; done) | (simp; omega)) _) | (with_reducible refine bel_dr ?_) | (with_reducible refine bel_drn ?_ _) | (with_reducible refine bel_tr ?_ (by assumption))))⟩
                    · have g4 : (pj == p0) = false := by simpa using a4
                      have HS := HSTEP.out (by simp [g1, a2, g4])
                      clear HSTEP HSTOP a4
                      go_wp2
                      go_round
                      case rel => exact ⟨j + 1, by omega, by go_num, HS⟩
                      case measure => simp [intOf]; omega
                · have e := HSTOP.out (by simp [a2])
                  subst e
                  have g2 : decide (i ≤ pj) = true := by simp; omega
                  go_wp2
                  (try rw [Exit.noGoto_ret])
                  go_ret
                  exact ⟨rfl, by (repeat (first | (with_reducible exact Below.refl _ _) | (with_reducible assumption) | (with_reducible refine bel_al0 ?_ _) | (with_reducible refine bel_set ?_ (by first | (simp; done) | (simp; omega)) _) | (with_reducible refine bel_dr ?_) | (with_reducible refine bel_drn ?_ _) | (with_reducible refine bel_tr ?_ (by assumption))))⟩
            · have hall : (List.range n).all (parOk i ps) = true := by
                rw [List.all_eq_true]
                intro q hq
                exact hok q (by have := List.mem_range.1 hq; omega)
              have hx := HX.out
              rw [if_pos hall] at hx
              clear HX
              cases q with
              | true =>
                obtain rfl : x = 0 := by simpa using hx
                clear hx hall
                go_wp2_with (go_at_call 50; refine (HT.out _).mono ?_; rintro e w1 ⟨rfl, hb1⟩)
                (try rw [Exit.noGoto_ret])
                go_ret
                exact ⟨rfl, by (repeat (first | (with_reducible exact Below.refl _ _) | (with_reducible assumption) | (with_reducible refine bel_al0 ?_ _) | (with_reducible refine bel_set ?_ (by first | (simp; done) | (simp; omega)) _) | (with_reducible refine bel_dr ?_) | (with_reducible refine bel_drn ?_ _) | (with_reducible refine bel_tr ?_ (by assumption))))⟩
              | false =>
                obtain rfl : x = 121 := by simpa using hx
                clear hx hall
                go_wp2_with (go_at_call 50; refine (HT.out _).mono ?_; rintro e w1 ⟨rfl, hb1⟩)
                (try rw [Exit.noGoto_ret])
                go_ret
                exact ⟨rfl, by (repeat (first | (with_reducible exact Below.refl _ _) | (with_reducible assumption) | (with_reducible refine bel_al0 ?_ _) | (with_reducible refine bel_set ?_ (by first | (simp; done) | (simp; omega)) _) | (with_reducible refine bel_dr ?_) | (with_reducible refine bel_drn ?_ _) | (with_reducible refine bel_tr ?_ (by assumption))))⟩
end Go.Proofs.YtehneliphhgegaaGreatDoor
end
section
set_option linter.unusedVariables false
set_option linter.unusedSimpArgs false
set_option maxRecDepth 100000
namespace Go.Proofs.YtehneliphhgegaaGreatDoor
open Go.RowKit Go.Apo

/-- the greatest Gen of some commits of a graph; none: one is not there -/
def parGen (L : List (Int × CommitD)) : List Int → Int → Option Int
  | [], g => some g
  | p :: ps, g => match mget L p with
    | none => none
    | some x => parGen L ps (max g x.gen)
def addE (L : List (Int × CommitD)) (c : CommitD) : Int :=
  if rightE c = 0 then (if (mget L c.id).isSome then 112 else match parGen L c.par 0 with
    | none => 120
    | some g => if c.gen = g + 1 then 0 else 120) else rightE c
def addL (L : List (Int × CommitD)) (c : CommitD) : List (Int × CommitD) := if addE L c = 0 then mput L c.id c else L
/-- the generations that a graph holds are small -/
def SmallG (L : List (Int × CommitD)) : Prop := ∀ i c, mget L i = some c → 0 ≤ c.gen ∧ c.gen ≤ 1000000000

theorem rightE_par {c : CommitD} (h : rightE c = 0) : c.par.length ≤ 2 := by
  unfold rightE at h
  repeat' split at h
  all_goals first | omega | (simp at h; done) | skip
theorem parGen_snoc (L : List (Int × CommitD)) (p : Int) : ∀ (l : List Int) (g : Int), parGen L (l ++ [p]) g = (parGen L l g).bind fun g' => (mget L p).map fun x => max g' x.gen
  | [], g => by simp only [List.nil_append, parGen]; cases mget L p <;> rfl
  | q :: l, g => by
    simp only [List.cons_append, parGen]
    cases mget L q with
    | none => rfl
    | some x => exact parGen_snoc L p l _
theorem parGen_stop {L : List (Int × CommitD)} {p : Int} (h : mget L p = none) : ∀ (l : List Int) (g : Int), p ∈ l → parGen L l g = none
  | q :: l, g, hm => by
    simp only [parGen]
    rcases List.mem_cons.1 hm with rfl | hm
    · rw [h]
    · cases mget L q with
      | none => rfl
      | some x => exact parGen_stop h l _ hm
/-- what a call of Add leaves -/
structure Added (w : World) (p m : Nat) (L : List (Int × CommitD)) (x : Int) (L' : List (Int × CommitD)) (e : Ending) (w' : World) : Prop where
  e : e = .returned (.int .i64 x)
  t : GraphAt w' p m L'
  b : But m w w'
theorem gcIs_own {w2 : World} {i g r : Int} {t : ByteArray} {A : Option Addr} {k : Nat} {ps : List Int} {B : Nat} (h : w2.ownsRow B 34 1 (.slice A ps.length k) ps.length (nums ps)) (h2 : ps.length ≤ 2) : gcIs w2 ⟨i, ps, g, r, t⟩ (.agg #[.int .u64 i, .slice A ps.length k, .int .u64 g, .int .u64 r, .string t]) := by
  refine ⟨⟨A, k, rfl, own_flat h, fun e => ?_⟩, h2⟩
  subst e
  exact List.eq_nil_of_length_eq_zero (own_none h)
set_option maxHeartbeats 4000000 in
theorem add_calls (w : World) (p m : Nat) (L : List (Int × CommitD)) (h : GraphAt w p m L) (hS : SmallG L) (i g r : Int) (t : ByteArray) (A : Option Addr) (n k : Nat) (ps : List Int) (hn : ps.length = n) (hf : Flat w A (nums ps)) (hA : A = none → ps = []) :
    Calls Tryz.prog 16 #[.pointer (some ⟨p, 0, none⟩), .agg #[.int .u64 i, .slice A n k, .int .u64 g, .int .u64 r, .string t]] w (Added w p m L (addE L ⟨i, ps, g, r, t⟩) (addL L ⟨i, ps, g, r, t⟩)) := by
  have hc := h.1
  have hlt : p < w.heap.size := cell_lt hc
  obtain ⟨x, hx⟩ : ∃ x, x = addE L ⟨i, ps, g, r, t⟩ := ⟨_, rfl⟩
  obtain ⟨L', hL⟩ : ∃ L', L' = addL L ⟨i, ps, g, r, t⟩ := ⟨_, rfl⟩
  rw [← hx, ← hL]
  have hL' : L' = if x = 0 then mput L i ⟨i, ps, g, r, t⟩ else L := by rw [hL, hx]; rfl
  clear hL
  unfold addE at hx
  have HR := Lib.hid (fun W hW => right_calls W i g r t A n k ps hn hW)
  have hp2 := @rightE_par ⟨i, ps, g, r, t⟩
  obtain ⟨e, he⟩ : ∃ e, e = rightE ⟨i, ps, g, r, t⟩ := ⟨_, rfl⟩
  rw [← he] at hx HR hp2
  clear he
  simp only at hx hp2
  have H := Lib.hid h; clear h
  have HF := Lib.hid hf; clear hf
  have HA := Lib.hid hA; clear hA
  have HN := Lib.hid hn; clear hn
  have HS := Lib.hid hS; clear hS
  have HL := Lib.hid hL'; clear hL'
  have HX := Lib.hid hx; clear hx
  have HP := Lib.hid hp2; clear hp2
  go_enter Tryz.func16, Tryz.ntmps16
  go_wp2_with fail
  have hB1 : Below w.heap.size w (w.alloc (.cells #[.int .u64 i, .slice A n k, .int .u64 g, .int .u64 r, .string t] 41)) := by (repeat (first | (with_reducible exact Below.refl _ _) | (with_reducible assumption) | (with_reducible refine bel_al0 ?_ _) | (with_reducible refine bel_set ?_ (by first | (simp; done) | (simp; omega)) _) | (with_reducible refine bel_dr ?_) | (with_reducible refine bel_drn ?_ _) | (with_reducible refine bel_tr ?_ (by assumption))))
  refine (HR.out _ (HF.out.below hB1)).mono ?_
  rintro e' w1 ⟨rfl, hb1⟩
  have hB : Below w.heap.size w w1 := bel_tr hB1 hb1
  by_cases he0 : e = 0
  · subst he0
    have hx := HX.out
    rw [if_pos rfl] at hx
    clear HX
    have HX := Lib.hid hx; clear hx
    have HB1 := Lib.hid ((blk_new w _ _).below hb1)
    have hpc := cell_bel hc hB
    have hlt1 := cell_lt hpc
    go_wp2_with (go_at_call 34; refine (gok_yes p m _ hpc).mono ?_; rintro e w' ⟨rfl, rfl⟩)
    obtain ⟨x0, x1, x2, x3, x4, xf⟩ := HB1.out.five
    have hzw : w.heap.size < w1.heap.size := cell_lt x0
    have hn2 : n ≤ 2 := by have := HP.out trivial; rw [HN.out] at this; exact this
    have hmlt : m < w1.heap.size := (H.out.below hB).2.lt
    rcases ((H.out.below hB).2.findAll keyU Tryz.underlying77 i) with ⟨hl, hlk⟩ | ⟨c, u, hl, ⟨⟨A2, k2, rfl, hf2, hA2⟩, hc2⟩, hlk⟩
    · have hlk' := fun W hW => hlk _ zeroCommit W hW true
      simp only [if_true] at hlk'
      clear hlk
      go_region_held3 (fun w' => w'.cell? ⟨p, 0, none⟩ = some (.map (some m)) ∧ w'.cell? ⟨w.heap.size, 0, none⟩ = some (.int .u64 i) ∧ w'.heap[m]? = w1.heap[m]?) (((try dsimp only); (repeat' apply And.intro); all_goals (first | assumption | (refine Below.block (B := w1.heap.size) (w := w1) ?_ m hmlt; (repeat (first | (with_reducible exact Below.refl _ _) | (with_reducible assumption) | (with_reducible refine bel_al0 ?_ _) | (with_reducible refine bel_set ?_ (by first | (simp; done) | (simp; omega)) _) | (with_reducible refine bel_dr ?_) | (with_reducible refine bel_drn ?_ _) | (with_reducible refine bel_tr ?_ (by assumption))))) | go_keep))) (fail)
      all_goals (
        have hx := HX.out
        rw [hl] at hx
        have hx2 : x = match parGen L ps 0 with | none => 120 | some g' => if g = g' + 1 then 0 else 120 := by simpa using hx
        clear hx HX hlk' xf
        have HX := Lib.hid hx2; clear hx2
        clear hl
        go_wp2
        go_loopw [35, 8, 10, 11, 12] (fun v u _ _ _ wr => ∃ (j : Nat) (gj : Int), j ≤ n ∧ v = .int .i64 j ∧ u = .int .u64 gj ∧ Hid (parGen L (ps.take j) 0 = some gj) ∧ 0 ≤ gj ∧ gj ≤ 1000000000 ∧ Below w1.heap.size w1 wr) (fun v _ _ _ _ _ => n - (intOf v).toNat)
        case atStart => exact ⟨0, 0, Nat.zero_le _, rfl, rfl, rfl, by omega, by omega, by (repeat (first | (with_reducible exact Below.refl _ _) | (with_reducible assumption) | (with_reducible refine bel_al0 ?_ _) | (with_reducible refine bel_set ?_ (by first | (simp; done) | (simp; omega)) _) | (with_reducible refine bel_dr ?_) | (with_reducible refine bel_drn ?_ _) | (with_reducible refine bel_tr ?_ (by assumption))))⟩
        case round =>
          obtain ⟨j, gj, hj, rfl, rfl, hpg, hg0, hg1, hBr⟩ := hrel
          have hpr := cell_bel hpc hBr
          replace x0 := cell_bel x0 hBr
          replace x1 := cell_bel x1 hBr
          replace x2 := cell_bel x2 hBr
          replace x3 := cell_bel x3 hBr
          replace x4 := cell_bel x4 hBr
          clear hpc
          by_cases hjn : j < n
          · obtain ⟨pj, hpj⟩ : ∃ pj, ps[j]? = some pj := ⟨_, List.getElem?_eq_getElem (by rw [HN.out]; exact hjn)⟩
            obtain ⟨b, off, rfl, cj⟩ := HF.out.at_ (nums_at hpj)
            replace cj := cell_bel cj (bel_tr hB hBr)
            have htk : ps.take (j + 1) = ps.take j ++ [pj] := by rw [List.take_add_one, hpj]; rfl
            have hmem : pj ∈ ps := List.mem_of_getElem? hpj
            have HTK := Lib.hid htk; clear htk hpj
            have HMEM := Lib.hid hmem; clear hmem
            have hltr := cell_lt hpr
            cases hpl : mget L pj with
            | none =>
              have hx := HX.out
              rw [parGen_stop hpl ps 0 HMEM.out] at hx
              simp only at hx
              subst hx
              have hl' := HL.out
              obtain rfl : L' = L := by simpa using hl'
              clear hl' HL HX
              have HPL := Lib.hid hpl; clear hpl
              go_wp2_with (at_lookup; refine wpl_look_none rfl true _ _ 77 41 rfl keyU Tryz.underlying77 _ (fun W => zeroCommit W) rfl pj rfl ((H.out.below hB).below hBr).2 HPL.out ?_)
              go_ret
              have hbb := bel_al0 (bel_tr hB hBr) (.cells #[.int .u64 0, .slice none 0 0, .int .u64 0, .int .u64 0, .string ⟨#[]⟩] 41)
              exact ⟨rfl, H.out.below hbb, But.of_below hbb⟩
            | some cp =>
              have hsm := HS.out pj cp hpl
              have hnew : Hid (parGen L (ps.take (j + 1)) 0 = some (max gj cp.gen)) := by
                show parGen L (ps.take (j + 1)) 0 = _
                rw [HTK.out, parGen_snoc, hpg.out, Option.bind_some, hpl]; rfl
              have hmx : 0 ≤ max gj cp.gen ∧ max gj cp.gen ≤ 1000000000 := by omega
              have HMX := Lib.hid hmx; clear hmx
              have HPL := Lib.hid hpl; clear hpl
              clear hsm
              go_wp2_with (at_lookup; refine wpl_look_some rfl true _ _ 77 41 rfl keyU Tryz.underlying77 rfl pj rfl ((H.out.below hB).below hBr).2 HPL.out ?_; rintro u ⟨⟨A3, k3, rfl, hf3, hA3⟩, hc3⟩; clear hf3 hA3 hc3)
              go_roundw
              case rel => exact ⟨j + 1, _, by omega, by go_num, rfl, hnew, HMX.out.1, HMX.out.2, by (repeat (first | (with_reducible exact Below.refl _ _) | (with_reducible assumption) | (with_reducible refine bel_al0 ?_ _) | (with_reducible refine bel_set ?_ (by first | (simp; done) | (simp; omega)) _) | (with_reducible refine bel_dr ?_) | (with_reducible refine bel_drn ?_ _) | (with_reducible refine bel_tr ?_ (by assumption))))⟩
              case measure => simp [intOf]; omega
          · have hjn' : j = n := by omega
            have htk : ps.take j = ps := by rw [List.take_of_length_le]; rw [HN.out]; omega
            have hpg' := hpg.out
            rw [htk] at hpg'
            have hx := HX.out
            rw [hpg'] at hx
            simp only at hx
            clear HX hpg hpg' htk
            by_cases hgg : g = gj + 1
            · rw [if_pos hgg] at hx
              subst hx
              have hl' := HL.out
              obtain rfl : L' = mput L i ⟨i, ps, g, r, t⟩ := by simpa using hl'
              clear hl' HL
              have g5 : (g == gj + 1) = true := by simpa using hgg
              clear hgg
              go_wp2_with fail
              have hBB := bel_tr hB hBr
              have HG := Lib.hid (H.out.below hBB)
              have HFF := Lib.hid (HF.out.below hBB)
              have hltr := cell_lt hpr
              have hltx := cell_lt x0
              have hmr := HG.out.2.lt
              clear hjn hjn'
              go_region_held3 (fun w' => w'.cell? ⟨p, 0, none⟩ = some (.map (some m)) ∧ w'.cell? ⟨w.heap.size, 0, none⟩ = some (.int .u64 i) ∧ w'.cell? ⟨w.heap.size, 1, none⟩ = some (.slice A n k) ∧ w'.cell? ⟨w.heap.size, 2, none⟩ = some (.int .u64 g) ∧ w'.cell? ⟨w.heap.size, 3, none⟩ = some (.int .u64 r) ∧ w'.cell? ⟨w.heap.size, 4, none⟩ = some (.string t))
                (first | go_keep)
                (first | (go_at_call 35; refine (own_calls _ i g r t A n k ps HN.out (HFF.out.below (bel_dr (Below.refl _ _))) HA.out (by omega)).mono ?_; rintro e w2 ⟨A5, k5, rfl, ho5, hb5⟩; have hb6 : Below wr.heap.size wr w2 := bel_tr (bel_dr (Below.refl _ _)) hb5; have q := cell_bel hpr hb6; have q0 := cell_bel x0 hb6; have q1 := cell_bel x1 hb6; have q2 := cell_bel x2 hb6; have q3 := cell_bel x3 hb6; have q4 := cell_bel x4 hb6; obtain ⟨w3, hrun3, hm3, hg3, hz3⟩ := MapIs.store keyU gcs_onCells (HG.out.below hb6).2 Tryz.underlying77 i (v := ⟨i, ps, g, r, t⟩) (x := .agg #[.int .u64 i, .slice A5 ps.length k5, .int .u64 g, .int .u64 r, .string t]) (gcIs_own ho5 (by have := HN.out; omega)); have hbt := But.of_grown hg3; obtain ⟨o9, ho9, hoc9⟩ := (HG.out.below hb6).2.notCells; have r0 := hbt.cell_keeps ho9 hoc9 q; have r1 := hbt.cell_keeps ho9 hoc9 q0; have r2 := hbt.cell_keeps ho9 hoc9 q1; have r3 := hbt.cell_keeps ho9 hoc9 q2; have r4 := hbt.cell_keeps ho9 hoc9 q3; have r5 := hbt.cell_keeps ho9 hoc9 q4; have HB6 := Lib.hid hb6; clear hb6 hb5; have HBT := Lib.hid hbt; clear hbt hg3 hz3 ho9 hoc9; have HM3 := Lib.hid hm3; clear hm3; have HO5 := Lib.hid ho5; clear ho5))
              go_wp2
              go_ret
              have hbb : Below w.heap.size w w2 := bel_tr (bel_tr hB hBr) HB6.out
              have hbut := (But.of_below (m := m) hbb).trans HBT.out
              exact ⟨rfl, ⟨r0, HM3.out⟩, hbut⟩
            · rw [if_neg hgg] at hx
              subst hx
              have hl' := HL.out
              obtain rfl : L' = L := by simpa using hl'
              clear hl' HL
              have g5 : (g == gj + 1) = false := by simpa using hgg
              clear hgg
              go_wp2
              go_ret
              exact ⟨rfl, H.out.below (bel_tr hB hBr), But.of_below (bel_tr hB hBr)⟩)
    · have hlk' := fun W hW => hlk W hW true
      simp only [if_true] at hlk'
      go_region_held3 (fun w' => w'.cell? ⟨p, 0, none⟩ = some (.map (some m)) ∧ w'.cell? ⟨w.heap.size, 0, none⟩ = some (.int .u64 i) ∧ w'.heap[m]? = w1.heap[m]?) (((try dsimp only); (repeat' apply And.intro); all_goals (first | assumption | (refine Below.block (B := w1.heap.size) (w := w1) ?_ m hmlt; (repeat (first | (with_reducible exact Below.refl _ _) | (with_reducible assumption) | (with_reducible refine bel_al0 ?_ _) | (with_reducible refine bel_set ?_ (by first | (simp; done) | (simp; omega)) _) | (with_reducible refine bel_dr ?_) | (with_reducible refine bel_drn ?_ _) | (with_reducible refine bel_tr ?_ (by assumption))))) | go_keep))) (fail)
      all_goals (
        have hx := HX.out
        rw [hl] at hx
        obtain rfl : x = 112 := by simpa using hx
        have hl' := HL.out
        obtain rfl : L' = L := by simpa using hl'
        clear hx HX hlk' hlk xf hl' HL
        go_wp2
        go_ret
        have hbb := bel_al0 hB (.cells #[.int .u64 c.id, .slice A2 c.par.length k2, .int .u64 c.gen, .int .u64 c.root, .string c.text] 41)
        exact ⟨rfl, H.out.below (bel_dr hbb), But.of_below (bel_dr hbb)⟩)
  · have hx := HX.out
    rw [if_neg he0] at hx
    subst hx
    have hl := HL.out
    rw [if_neg he0] at hl
    subst hl
    have g1 : (x == 0) = false := by simpa using he0
    have g2 : (!(x == 0)) = true := by simpa using he0
    clear he0
    go_wp2
    go_ret
    exact ⟨rfl, H.out.below hB, But.of_below hB⟩
end Go.Proofs.YtehneliphhgegaaGreatDoor
end
