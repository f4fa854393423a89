/- Commits and the graph of them: what each function of the package graph does, walked once. -/
import Derived.Test.YtehneliphhgegaaRows2
set_option linter.unusedVariables false
set_option linter.unusedSimpArgs false
set_option maxRecDepth 100000
namespace Go.Proofs.Ytehneliphhgegaa
open Go.RowKit Go.Apo

def nums (l : List Int) : List Value := l.map (Value.int .u64)
theorem nums_len (l : List Int) : (nums l).length = l.length := by simp [nums]
theorem nums_at {l : List Int} {j : Nat} {x : Int} (h : l[j]? = some x) : (nums l)[j]? = some (.int .u64 x) := by simp [nums, h]
theorem nums_app (l k : List Int) : nums (l ++ k) = nums l ++ nums k := by simp [nums]
theorem nums_one (l : List Int) : ∀ u ∈ nums l, u.oneCell' = true := by
  intro u hu
  obtain ⟨x, _, rfl⟩ := List.mem_map.1 hu
  rfl
theorem infoU64 : (Try.prog.info? 24).map (fun i => (i.zero, i.size, i.bytes)) = some (some (.int .u64 0), 1, 8) := by kernel_rfl

/-- what slices.Clone leaves -/
def ClonePost (w : World) (l : List Int) (e : Ending) (w' : World) : Prop :=
  ∃ v, e = .returned v ∧ w'.ownsRow w.heap.size 24 1 v l.length (nums l) ∧ Below w.heap.size w w'

theorem clone_calls (w : World) (A : Option Addr) (c : Nat) (l : List Int) (hf : Flat w A (nums l)) (hl : l.length * 8 ≤ 140737488355328) (hA : A = none → l = []) :
    Calls Try.prog 109 #[.slice A l.length c] w (ClonePost w l) := by
  have hn := fun w A n c => Lib.run_eql_slice_nil (P := Try.prog) w 50 24 A n c 0 0 Try.underlying50
  cases A with
  | none =>
    obtain rfl := hA rfl
    go_enter Try.func109, Try.ntmps109
    go_wp2
    go_ret
    exact ⟨_, rfl, World.ownsRow_nil _ _ _ _, Below.refl _ _⟩
  | some a =>
    have HF := Lib.hid hf; clear hf
    clear hA
    obtain ⟨n, hn'⟩ : ∃ n, n = l.length := ⟨_, rfl⟩
    rw [← hn'] at hl ⊢
    have HN := Lib.hid hn'; clear hn'
    go_enter Try.func109, Try.ntmps109
    go_wp2_with (at_builtin; refine wpl_append rfl _ _ 50 rfl w.heap.size 24 _ 1 8 Try.underlying50 infoU64 rfl (by decide) _ 0 [] rfl (World.ownsRow_lit w #[] 0 (Nat.le_refl _) (Nat.zero_le _) rfl) (some a) n c (nums l) rfl (by rw [nums_len, HN.out, Nat.mul_one]) (HF.out.below (bel_al0 (Below.refl _ _) _)) (nums_one l) (by unfold maxLen; omega) (by omega) (by simp) ?_; intro v' w' ho hg hat)
    go_ret
    refine ⟨v', rfl, ?_, ?_⟩
    · rw [← HN.out]; simpa using ho
    · refine (bel_al0 (Below.refl _ w) _).grown hg (by simp) (fun k hk => ?_)
      have := (World.ownsRow_lit (e := 24) (size := 1) w #[] 0 (Nat.le_refl _) (Nat.zero_le _) rfl).lt k hk
      exact this.1

structure CommitD where
  id : Int
  par : List Int
  gen : Int
  root : Int
  text : ByteArray

/-- how a commit stands as a value -/
def commitIs (w : World) (c : CommitD) (v : Value) : Prop :=
  ∃ A k, v = .agg #[.int .u64 c.id, .slice A c.par.length k, .int .u64 c.gen, .int .u64 c.root, .string c.text] ∧ Flat w A (nums c.par) ∧ (A = none → c.par = [])
theorem commits_onCells : OnCells commitIs := fun w w' c v hk ⟨A, k, h1, h2, h3⟩ => ⟨A, k, h1, h2.cells hk, h3⟩
theorem commitIs_below {w w' : World} {c : CommitD} {v : Value} (h : commitIs w c v) (hb : Below w.heap.size w w') : commitIs w' c v := by
  obtain ⟨A, k, h1, h2, h3⟩ := h
  exact ⟨A, k, h1, h2.below hb, h3⟩

/-- a commit in memory of its own is handed back -/
def OwnPost (w : World) (c : CommitD) (e : Ending) (w' : World) : Prop :=
  ∃ A k, e = .returned (.agg #[.int .u64 c.id, .slice A c.par.length k, .int .u64 c.gen, .int .u64 c.root, .string c.text]) ∧ w'.ownsRow w.heap.size 24 1 (.slice A c.par.length k) c.par.length (nums c.par) ∧ Below w.heap.size w w'

theorem own_none {w : World} {base e size n k : Nat} {xs : List Value} (h : w.ownsRow base e size (.slice none n k) n xs) : n = 0 := by
  rcases h.2 with ⟨_, h2⟩ | ⟨g, cap, cur, h1, _⟩
  · exact h2
  · cases h1

theorem own_calls (w : World) (i g r : Int) (t : ByteArray) (A : Option Addr) (n k : Nat) (ps : List Int) (hn : ps.length = n) (hf : Flat w A (nums ps)) (hA : A = none → ps = []) (hl : n * 8 ≤ 140737488355328) :
    Calls Try.prog 83 #[.agg #[.int .u64 i, .slice A n k, .int .u64 g, .int .u64 r, .string t]] w (OwnPost w ⟨i, ps, g, r, t⟩) := by
  subst hn
  have C := fun W h => Lib.hid (clone_calls W A k ps h hl hA)
  have HF := Lib.hid hf; clear hf hA
  obtain ⟨n, hn'⟩ : ∃ n, n = ps.length := ⟨_, rfl⟩
  unfold OwnPost
  simp only
  rw [← hn'] at C hl ⊢
  have HN := Lib.hid hn'; clear hn'
  have HC := Lib.hid C; clear C
  go_enter Try.func83, Try.ntmps83
  go_wp2_with (go_at_call 109; refine (HC.out _ (HF.out.below ?_)).out.mono ?_; (repeat (first | (with_reducible exact Below.refl _ _) | (with_reducible assumption) | (with_reducible refine bel_al0 ?_ _) | (with_reducible refine bel_set ?_ (by first | (simp; done) | (simp; omega)) _) | (with_reducible refine bel_dr ?_) | (with_reducible refine bel_drn ?_ _) | (with_reducible refine bel_tr ?_ (by assumption)))); rintro e w1 ⟨v, rfl, ho1, hb1⟩; rw [← HN.out] at ho1; obtain ⟨A1, c1, rfl, hc1⟩ := own_form ho1; have B0 := ((blk_new w _ _).al _).below hb1; have B1 := (blk_new _ _ _).below hb1; simp only [World.size_alloc] at B1; obtain ⟨x0, x1, x2, x3, x4, xf⟩ := B0.five; obtain ⟨y0, y1, y2, y3, y4, yf⟩ := B1.five; clear B0 B1; have hz1 : w.heap.size + 1 < w1.heap.size := (by have := hb1.size; simp at this; omega); have HO1 := Lib.hid ho1; clear ho1)
  refine bodyPost_ret (v := .agg #[.int .u64 i, .slice A1 n c1, .int .u64 g, .int .u64 r, .string t]) ?_ rfl ?_
  · simp [results, Try.results83, go_sem, x0, x1, x2, x3, x4, y0, y1, y2, y3, y4]
  · clear HF HC x0 x1 x2 x3 x4 xf y0 y1 y2 y3 y4 yf
    have ho := own_mono HO1.out (base' := w.heap.size + 2) (by simp)
    refine ⟨A1, c1, rfl, own_mono (base := w.heap.size + 2) ?_ (by omega), ?_⟩
    · clear hb1; (repeat (first | (with_reducible assumption) | (with_reducible refine ownsRow_setCell_below ?_ (by first | (simp; done) | (simp; omega)) _)))
    · (repeat (first | (with_reducible exact Below.refl _ _) | (with_reducible assumption) | (with_reducible refine bel_al0 ?_ _) | (with_reducible refine bel_set ?_ (by first | (simp; done) | (simp; omega)) _) | (with_reducible refine bel_dr ?_) | (with_reducible refine bel_drn ?_ _) | (with_reducible refine bel_tr ?_ (by assumption))))

/-- a graph behind a pointer: commits by their numbers, each with few parents -/
def gcIs (w : World) (c : CommitD) (v : Value) : Prop := commitIs w c v ∧ c.par.length ≤ 2
theorem gcs_onCells : OnCells gcIs := fun w w' c v hk ⟨h1, h2⟩ => ⟨commits_onCells w w' c v hk h1, h2⟩
def GraphAt (w : World) (p m : Nat) (L : List (Int × CommitD)) : Prop := w.cell? ⟨p, 0, none⟩ = some (.map (some m)) ∧ MapIs (Value.int .u64) gcIs w m L
theorem GraphAt.below {w w' : World} {p m : Nat} {L : List (Int × CommitD)} (h : GraphAt w p m L) (hb : Below w.heap.size w w') : GraphAt w' p m L :=
  ⟨cell_bel h.1 hb, h.2.below gcs_onCells hb⟩
theorem keyU : KeyT Try.prog 24 (Value.int .u64) := keyT_int Try.underlying24
theorem zeroCommit (W : World) : (zeroValue 69).run Try.prog W = .ok (.agg #[.int .u64 0, .slice none 0 0, .int .u64 0, .int .u64 0, .string ⟨#[]⟩]) W := by kernel_rfl
def CommitD.zero : CommitD := ⟨0, [], 0, 0, ⟨#[]⟩⟩

theorem gok_yes (p m : Nat) (w : World) (h : w.cell? ⟨p, 0, none⟩ = some (.map (some m))) :
    Calls Try.prog 82 #[.pointer (some ⟨p, 0, none⟩)] w fun e w' => e = .returned (.bool true) ∧ w = w' := by
  have hn := fun w r => run_neq_map_nil (P := Try.prog) w 110 24 69 r Try.underlying110
  go_enter Try.func82, Try.ntmps82
  go_wp2
  go_ret
  exact ⟨rfl, rfl⟩
theorem gok_nil (w : World) :
    Calls Try.prog 82 #[.pointer none] w fun e w' => e = .returned (.bool false) ∧ w = w' := by
  have hn := fun w r => run_neq_map_nil (P := Try.prog) w 110 24 69 r Try.underlying110
  go_enter Try.func82, Try.ntmps82
  go_wp2
  go_ret
  exact ⟨rfl, rfl⟩
theorem gnew_calls (w : World) :
    Calls Try.prog 75 #[] w fun e w' => e = .returned (.pointer (some ⟨w.heap.size + 1, 0, none⟩)) ∧ GraphAt w' (w.heap.size + 1) w.heap.size [] ∧ Below w.heap.size w w' := by
  have hmm := @run_makeMap Try.prog
  go_enter Try.func75, Try.ntmps75
  go_wp2
  go_ret
  refine ⟨rfl, ⟨by simp, (mapIs_made (Value.int .u64) gcIs w).below gcs_onCells (by (repeat (first | (with_reducible exact Below.refl _ _) | (with_reducible assumption) | (with_reducible refine bel_al0 ?_ _) | (with_reducible refine bel_set ?_ (by first | (simp; done) | (simp; omega)) _) | (with_reducible refine bel_dr ?_) | (with_reducible refine bel_drn ?_ _) | (with_reducible refine bel_tr ?_ (by assumption)))))⟩, by (repeat (first | (with_reducible exact Below.refl _ _) | (with_reducible assumption) | (with_reducible refine bel_al0 ?_ _) | (with_reducible refine bel_set ?_ (by first | (simp; done) | (simp; omega)) _) | (with_reducible refine bel_dr ?_) | (with_reducible refine bel_drn ?_ _) | (with_reducible refine bel_tr ?_ (by assumption))))⟩

/-- what a graph tells of a number -/
def gGet (L : List (Int × CommitD)) (i : Int) : CommitD := (mget L i).getD CommitD.zero
/-- what the table's Get leaves: the parents in memory of their own -/
def GetOwn (w : World) (c : CommitD) (b : Bool) (e : Ending) (w' : World) : Prop :=
  ∃ A k, e = .returned (.tuple #[.agg #[.int .u64 c.id, .slice A c.par.length k, .int .u64 c.gen, .int .u64 c.root, .string c.text], .bool b]) ∧ w'.ownsRow w.heap.size 24 1 (.slice A c.par.length k) c.par.length (nums c.par) ∧ Below w.heap.size w w'
theorem gget_none (p m : Nat) (w : World) (L : List (Int × CommitD)) (h : GraphAt w p m L) (i : Int) (hl : mget L i = none) :
    Calls Try.prog 44 #[.pointer (some ⟨p, 0, none⟩), .int .u64 i] w (GetOwn w CommitD.zero false) := by
  have hc := h.1
  have hlt : p < w.heap.size := cell_lt hc
  have HB := Lib.hid (bel_al0 (Below.refl w.heap.size w) (.cells #[.int .u64 0, .slice none 0 0, .int .u64 0, .int .u64 0, .string ⟨#[]⟩] 69))
  have H := Lib.hid h; clear h
  have HL := Lib.hid hl; clear hl
  go_enter Try.func44, Try.ntmps44
  go_wp2_with (first | (go_at_call 82; refine (gok_yes p m _ (cell_al hc _)).mono ?_; rintro e w' ⟨rfl, rfl⟩) | (at_lookup; refine wpl_look_none rfl true _ _ 110 69 rfl keyU Try.underlying110 _ (fun W => zeroCommit W) rfl i rfl (H.out.below HB.out).2 HL.out ?_) | (go_at_call 83; refine (own_calls _ 0 0 0 ⟨#[]⟩ none 0 0 [] rfl (Flat.nil _ _) (fun _ => rfl) (by omega)).mono ?_; rintro e w1 ⟨A1, k1, rfl, ho1, hb1⟩; have B0 := ((blk_new w _ _).al _).below hb1; obtain ⟨x0, x1, x2, x3, x4, xf⟩ := B0.five; clear B0; have hz1 : w.heap.size + 1 < w1.heap.size := (by have := hb1.size; simp at this; omega); have HO1 := Lib.hid ho1; clear ho1))
  refine bodyPost_ret (v := .tuple #[.agg #[.int .u64 0, .slice A1 0 k1, .int .u64 0, .int .u64 0, .string ⟨#[]⟩], .bool false]) ?_ rfl ?_
  · simp [results, Try.results44, go_sem, x0, x1, x2, x3, x4]
  · have ho := HO1.out
    refine ⟨A1, k1, rfl, ?_, ?_⟩
    · have ho2 := own_mono ho (base' := w.heap.size + 1) (by simp)
      clear ho hb1
      refine own_mono (base := w.heap.size + 1) (n := 0) (e := 24) (size := 1) ?_ (Nat.le_succ _)
      (repeat (first | (with_reducible assumption) | (with_reducible refine ownsRow_setCell_below ?_ (by first | (simp; done) | (simp; omega)) _)))
      all_goals exact ho2
    · skip
      (repeat (first | (with_reducible exact Below.refl _ _) | (with_reducible assumption) | (with_reducible refine bel_al0 ?_ _) | (with_reducible refine bel_set ?_ (by first | (simp; done) | (simp; omega)) _) | (with_reducible refine bel_dr ?_) | (with_reducible refine bel_drn ?_ _) | (with_reducible refine bel_tr ?_ (by assumption))))
theorem gget_some (p m : Nat) (w : World) (L : List (Int × CommitD)) (h : GraphAt w p m L) (i : Int) {c : CommitD} (hl : mget L i = some c) :
    Calls Try.prog 44 #[.pointer (some ⟨p, 0, none⟩), .int .u64 i] w (GetOwn w c true) := by
  have hc := h.1
  have hlt : p < w.heap.size := cell_lt hc
  have HB := Lib.hid (bel_al0 (Below.refl w.heap.size w) (.cells #[.int .u64 0, .slice none 0 0, .int .u64 0, .int .u64 0, .string ⟨#[]⟩] 69))
  have H := Lib.hid h; clear h
  have HL := Lib.hid hl; clear hl
  go_enter Try.func44, Try.ntmps44
  go_wp2_with (first | (go_at_call 82; refine (gok_yes p m _ (cell_al hc _)).mono ?_; rintro e w' ⟨rfl, rfl⟩) | (at_lookup; refine wpl_look_some rfl true _ _ 110 69 rfl keyU Try.underlying110 rfl i rfl (H.out.below HB.out).2 HL.out ?_; rintro u ⟨⟨A, k, rfl, hf, hA⟩, hlen⟩; have HF := Lib.hid hf; clear hf; have HA := Lib.hid hA; clear hA; have HLEN := Lib.hid hlen; clear hlen) | (go_at_call 83; refine (own_calls _ c.id c.gen c.root c.text A _ k c.par rfl (HF.out.below (bel_al0 (Below.refl _ _) _)) HA.out (by have := HLEN.out; omega)).mono ?_; rintro e w1 ⟨A1, k1, rfl, ho1, hb1⟩; have B0 := ((blk_new w _ _).al _).below hb1; obtain ⟨x0, x1, x2, x3, x4, xf⟩ := B0.five; clear B0; have hz1 : w.heap.size + 1 < w1.heap.size := (by have := hb1.size; simp at this; omega); have HO1 := Lib.hid ho1; clear ho1))
  refine bodyPost_ret (v := .tuple #[.agg #[.int .u64 c.id, .slice A1 c.par.length k1, .int .u64 c.gen, .int .u64 c.root, .string c.text], .bool true]) ?_ rfl ?_
  · simp [results, Try.results44, go_sem, x0, x1, x2, x3, x4]
  · have ho := HO1.out
    refine ⟨A1, k1, rfl, ?_, ?_⟩
    · have ho2 := own_mono ho (base' := w.heap.size + 1) (by simp)
      clear ho hb1
      refine own_mono (base := w.heap.size + 1) (n := c.par.length) (e := 24) (size := 1) ?_ (Nat.le_succ _)
      (repeat (first | (with_reducible assumption) | (with_reducible refine ownsRow_setCell_below ?_ (by first | (simp; done) | (simp; omega)) _)))
      all_goals exact ho2
    · skip
      (repeat (first | (with_reducible exact Below.refl _ _) | (with_reducible assumption) | (with_reducible refine bel_al0 ?_ _) | (with_reducible refine bel_set ?_ (by first | (simp; done) | (simp; omega)) _) | (with_reducible refine bel_dr ?_) | (with_reducible refine bel_drn ?_ _) | (with_reducible refine bel_tr ?_ (by assumption))))

theorem gget_calls (p m : Nat) (w : World) (L : List (Int × CommitD)) (h : GraphAt w p m L) (i : Int) :
    Calls Try.prog 44 #[.pointer (some ⟨p, 0, none⟩), .int .u64 i] w (GetOwn w (gGet L i) (mget L i).isSome) := by
  unfold gGet
  cases hl : mget L i with
  | none => exact gget_none p m w L h i hl
  | some c => exact gget_some p m w L h i hl
end Go.Proofs.Ytehneliphhgegaa
