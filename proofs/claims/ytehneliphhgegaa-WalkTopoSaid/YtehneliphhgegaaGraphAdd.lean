/- A commit is taken into a graph, or refused: walked once. -/
import Derived.Test.YtehneliphhgegaaObject
import Derived.Lib.MinMax
set_option linter.unusedVariables false
set_option linter.unusedSimpArgs false
set_option maxRecDepth 100000
namespace Go.Proofs.Ytehneliphhgegaa
open Go.RowKit Go.Apo

/-- the greatest Gen of some commits of a graph; none: one is not there -/
def parGen (L : List (Int × CommitD)) : List Int → Int → Option Int
  | [], g => some g
  | p :: ps, g => match mget L p with
    | none => none
    | some x => parGen L ps (max g x.gen)
def addE (L : List (Int × CommitD)) (c : CommitD) : Int :=
  if rightE c = 0 then (if (mget L c.id).isSome then 112 else match parGen L c.par 0 with
    | none => 120
    | some g => if c.gen = g + 1 then 0 else 120) else rightE c
def addL (L : List (Int × CommitD)) (c : CommitD) : List (Int × CommitD) := if addE L c = 0 then mput L c.id c else L
/-- the generations that a graph holds are small -/
def SmallG (L : List (Int × CommitD)) : Prop := ∀ i c, mget L i = some c → 0 ≤ c.gen ∧ c.gen ≤ 1000000000

theorem rightE_par {c : CommitD} (h : rightE c = 0) : c.par.length ≤ 2 := by
  unfold rightE at h
  repeat' split at h
  all_goals first | omega | (simp at h; done) | skip
theorem parGen_snoc (L : List (Int × CommitD)) (p : Int) : ∀ (l : List Int) (g : Int), parGen L (l ++ [p]) g = (parGen L l g).bind fun g' => (mget L p).map fun x => max g' x.gen
  | [], g => by simp only [List.nil_append, parGen]; cases mget L p <;> rfl
  | q :: l, g => by
    simp only [List.cons_append, parGen]
    cases mget L q with
    | none => rfl
    | some x => exact parGen_snoc L p l _
theorem parGen_stop {L : List (Int × CommitD)} {p : Int} (h : mget L p = none) : ∀ (l : List Int) (g : Int), p ∈ l → parGen L l g = none
  | q :: l, g, hm => by
    simp only [parGen]
    rcases List.mem_cons.1 hm with rfl | hm
    · rw [h]
    · cases mget L q with
      | none => rfl
      | some x => exact parGen_stop h l _ hm
/-- what a call of Add leaves -/
structure Added (w : World) (p m : Nat) (L : List (Int × CommitD)) (x : Int) (L' : List (Int × CommitD)) (e : Ending) (w' : World) : Prop where
  e : e = .returned (.int .i64 x)
  t : GraphAt w' p m L'
  b : But m w w'
theorem GraphAt.ne {w : World} {p m : Nat} {L : List (Int × CommitD)} (h : GraphAt w p m L) : p ≠ m := by
  intro e; subst e
  obtain ⟨o, ho, hc⟩ := h.2.notCells
  obtain ⟨o', ho', hc'⟩ := cells_of_cell h.1
  rw [ho] at ho'; cases ho'; rw [hc] at hc'; cases hc'

theorem gcIs_own {w2 : World} {i g r : Int} {t : ByteArray} {A : Option Addr} {k : Nat} {ps : List Int} {B : Nat} (h : w2.ownsRow B 24 1 (.slice A ps.length k) ps.length (nums ps)) (h2 : ps.length ≤ 2) : gcIs w2 ⟨i, ps, g, r, t⟩ (.agg #[.int .u64 i, .slice A ps.length k, .int .u64 g, .int .u64 r, .string t]) := by
  refine ⟨⟨A, k, rfl, own_flat h, fun e => ?_⟩, h2⟩
  subst e
  exact List.eq_nil_of_length_eq_zero (own_none h)
set_option maxHeartbeats 4000000 in
theorem add_calls (w : World) (p m : Nat) (L : List (Int × CommitD)) (h : GraphAt w p m L) (hS : SmallG L) (i g r : Int) (t : ByteArray) (A : Option Addr) (n k : Nat) (ps : List Int) (hn : ps.length = n) (hf : Flat w A (nums ps)) (hA : A = none → ps = []) :
    Calls Try.prog 68 #[.pointer (some ⟨p, 0, none⟩), .agg #[.int .u64 i, .slice A n k, .int .u64 g, .int .u64 r, .string t]] w (Added w p m L (addE L ⟨i, ps, g, r, t⟩) (addL L ⟨i, ps, g, r, t⟩)) := by
  have hc := h.1
  have hlt : p < w.heap.size := cell_lt hc
  obtain ⟨x, hx⟩ : ∃ x, x = addE L ⟨i, ps, g, r, t⟩ := ⟨_, rfl⟩
  obtain ⟨L', hL⟩ : ∃ L', L' = addL L ⟨i, ps, g, r, t⟩ := ⟨_, rfl⟩
  rw [← hx, ← hL]
  have hL' : L' = if x = 0 then mput L i ⟨i, ps, g, r, t⟩ else L := by rw [hL, hx]; rfl
  clear hL
  unfold addE at hx
  have HR := Lib.hid (fun W hW => right_calls W i g r t A n k ps hn hW)
  have hp2 := @rightE_par ⟨i, ps, g, r, t⟩
  obtain ⟨e, he⟩ : ∃ e, e = rightE ⟨i, ps, g, r, t⟩ := ⟨_, rfl⟩
  rw [← he] at hx HR hp2
  clear he
  simp only at hx hp2
  have H := Lib.hid h; clear h
  have HF := Lib.hid hf; clear hf
  have HA := Lib.hid hA; clear hA
  have HN := Lib.hid hn; clear hn
  have HS := Lib.hid hS; clear hS
  have HL := Lib.hid hL'; clear hL'
  have HX := Lib.hid hx; clear hx
  have HP := Lib.hid hp2; clear hp2
  go_enter Try.func68, Try.ntmps68
  go_wp2_with fail
  have hB1 : Below w.heap.size w (w.alloc (.cells #[.int .u64 i, .slice A n k, .int .u64 g, .int .u64 r, .string t] 69)) := by (repeat (first | (with_reducible exact Below.refl _ _) | (with_reducible assumption) | (with_reducible refine bel_al0 ?_ _) | (with_reducible refine bel_set ?_ (by first | (simp; done) | (simp; omega)) _) | (with_reducible refine bel_dr ?_) | (with_reducible refine bel_drn ?_ _) | (with_reducible refine bel_tr ?_ (by assumption))))
  refine (HR.out _ (HF.out.below hB1)).mono ?_
  rintro e' w1 ⟨rfl, hb1⟩
  have hB : Below w.heap.size w w1 := bel_tr hB1 hb1
  by_cases he0 : e = 0
  · subst he0
    have hx := HX.out
    rw [if_pos rfl] at hx
    clear HX
    have HX := Lib.hid hx; clear hx
    have HB1 := Lib.hid ((blk_new w _ _).below hb1)
    have hpc := cell_bel hc hB
    have hlt1 := cell_lt hpc
    go_wp2_with (go_at_call 82; refine (gok_yes p m _ hpc).mono ?_; rintro e w' ⟨rfl, rfl⟩)
    obtain ⟨x0, x1, x2, x3, x4, xf⟩ := HB1.out.five
    have hzw : w.heap.size < w1.heap.size := cell_lt x0
    have hn2 : n ≤ 2 := by have := HP.out trivial; rw [HN.out] at this; exact this
    have hmlt : m < w1.heap.size := (H.out.below hB).2.lt
    rcases ((H.out.below hB).2.findAll keyU Try.underlying110 i) with ⟨hl, hlk⟩ | ⟨c, u, hl, ⟨⟨A2, k2, rfl, hf2, hA2⟩, hc2⟩, hlk⟩
    · have hlk' := fun W hW => hlk _ zeroCommit W hW true
      simp only [if_true] at hlk'
      clear hlk
      go_region_held3 (fun w' => w'.cell? ⟨p, 0, none⟩ = some (.map (some m)) ∧ w'.cell? ⟨w.heap.size, 0, none⟩ = some (.int .u64 i) ∧ w'.heap[m]? = w1.heap[m]?) (((try dsimp only); (repeat' apply And.intro); all_goals (first | assumption | (refine Below.block (B := w1.heap.size) (w := w1) ?_ m hmlt; (repeat (first | (with_reducible exact Below.refl _ _) | (with_reducible assumption) | (with_reducible refine bel_al0 ?_ _) | (with_reducible refine bel_set ?_ (by first | (simp; done) | (simp; omega)) _) | (with_reducible refine bel_dr ?_) | (with_reducible refine bel_drn ?_ _) | (with_reducible refine bel_tr ?_ (by assumption))))) | go_keep))) (fail)
      all_goals (
        have hx := HX.out
        rw [hl] at hx
        have hx2 : x = match parGen L ps 0 with | none => 120 | some g' => if g = g' + 1 then 0 else 120 := by simpa using hx
        clear hx HX hlk' xf
        have HX := Lib.hid hx2; clear hx2
        clear hl
        go_wp2
        go_loopw [35, 8, 10, 11, 12] (fun v u _ _ _ wr => ∃ (j : Nat) (gj : Int), j ≤ n ∧ v = .int .i64 j ∧ u = .int .u64 gj ∧ Hid (parGen L (ps.take j) 0 = some gj) ∧ 0 ≤ gj ∧ gj ≤ 1000000000 ∧ Below w1.heap.size w1 wr) (fun v _ _ _ _ _ => n - (intOf v).toNat)
        case atStart => exact ⟨0, 0, Nat.zero_le _, rfl, rfl, rfl, by omega, by omega, by (repeat (first | (with_reducible exact Below.refl _ _) | (with_reducible assumption) | (with_reducible refine bel_al0 ?_ _) | (with_reducible refine bel_set ?_ (by first | (simp; done) | (simp; omega)) _) | (with_reducible refine bel_dr ?_) | (with_reducible refine bel_drn ?_ _) | (with_reducible refine bel_tr ?_ (by assumption))))⟩
        case round =>
          obtain ⟨j, gj, hj, rfl, rfl, hpg, hg0, hg1, hBr⟩ := hrel
          have hpr := cell_bel hpc hBr
          replace x0 := cell_bel x0 hBr
          replace x1 := cell_bel x1 hBr
          replace x2 := cell_bel x2 hBr
          replace x3 := cell_bel x3 hBr
          replace x4 := cell_bel x4 hBr
          clear hpc
          by_cases hjn : j < n
          · obtain ⟨pj, hpj⟩ : ∃ pj, ps[j]? = some pj := ⟨_, List.getElem?_eq_getElem (by rw [HN.out]; exact hjn)⟩
            obtain ⟨b, off, rfl, cj⟩ := HF.out.at_ (nums_at hpj)
            replace cj := cell_bel cj (bel_tr hB hBr)
            have htk : ps.take (j + 1) = ps.take j ++ [pj] := by rw [List.take_add_one, hpj]; rfl
            have hmem : pj ∈ ps := List.mem_of_getElem? hpj
            have HTK := Lib.hid htk; clear htk hpj
            have HMEM := Lib.hid hmem; clear hmem
            have hltr := cell_lt hpr
            cases hpl : mget L pj with
            | none =>
              have hx := HX.out
              rw [parGen_stop hpl ps 0 HMEM.out] at hx
              simp only at hx
              subst hx
              have hl' := HL.out
              obtain rfl : L' = L := by simpa using hl'
              clear hl' HL HX
              have HPL := Lib.hid hpl; clear hpl
              go_wp2_with (at_lookup; refine wpl_look_none rfl true _ _ 110 69 rfl keyU Try.underlying110 _ (fun W => zeroCommit W) rfl pj rfl ((H.out.below hB).below hBr).2 HPL.out ?_)
              go_ret
              have hbb := bel_al0 (bel_tr hB hBr) (.cells #[.int .u64 0, .slice none 0 0, .int .u64 0, .int .u64 0, .string ⟨#[]⟩] 69)
              exact ⟨rfl, H.out.below hbb, But.of_below hbb⟩
            | some cp =>
              have hsm := HS.out pj cp hpl
              have hnew : Hid (parGen L (ps.take (j + 1)) 0 = some (max gj cp.gen)) := by
                show parGen L (ps.take (j + 1)) 0 = _
                rw [HTK.out, parGen_snoc, hpg.out, Option.bind_some, hpl]; rfl
              have hmx : 0 ≤ max gj cp.gen ∧ max gj cp.gen ≤ 1000000000 := by omega
              have HMX := Lib.hid hmx; clear hmx
              have HPL := Lib.hid hpl; clear hpl
              clear hsm
              go_wp2_with (at_lookup; refine wpl_look_some rfl true _ _ 110 69 rfl keyU Try.underlying110 rfl pj rfl ((H.out.below hB).below hBr).2 HPL.out ?_; rintro u ⟨⟨A3, k3, rfl, hf3, hA3⟩, hc3⟩; clear hf3 hA3 hc3)
              go_roundw
              case rel => exact ⟨j + 1, _, by omega, by go_num, rfl, hnew, HMX.out.1, HMX.out.2, by (repeat (first | (with_reducible exact Below.refl _ _) | (with_reducible assumption) | (with_reducible refine bel_al0 ?_ _) | (with_reducible refine bel_set ?_ (by first | (simp; done) | (simp; omega)) _) | (with_reducible refine bel_dr ?_) | (with_reducible refine bel_drn ?_ _) | (with_reducible refine bel_tr ?_ (by assumption))))⟩
              case measure => simp [intOf]; omega
          · have hjn' : j = n := by omega
            have htk : ps.take j = ps := by rw [List.take_of_length_le]; rw [HN.out]; omega
            have hpg' := hpg.out
            rw [htk] at hpg'
            have hx := HX.out
            rw [hpg'] at hx
            simp only at hx
            clear HX hpg hpg' htk
            by_cases hgg : g = gj + 1
            · rw [if_pos hgg] at hx
              subst hx
              have hl' := HL.out
              obtain rfl : L' = mput L i ⟨i, ps, g, r, t⟩ := by simpa using hl'
              clear hl' HL
              have g5 : (g == gj + 1) = true := by simpa using hgg
              clear hgg
              go_wp2_with fail
              have hBB := bel_tr hB hBr
              have HG := Lib.hid (H.out.below hBB)
              have HFF := Lib.hid (HF.out.below hBB)
              have hltr := cell_lt hpr
              have hltx := cell_lt x0
              have hmr := HG.out.2.lt
              clear hjn hjn'
              go_region_held3 (fun w' => w'.cell? ⟨p, 0, none⟩ = some (.map (some m)) ∧ w'.cell? ⟨w.heap.size, 0, none⟩ = some (.int .u64 i) ∧ w'.cell? ⟨w.heap.size, 1, none⟩ = some (.slice A n k) ∧ w'.cell? ⟨w.heap.size, 2, none⟩ = some (.int .u64 g) ∧ w'.cell? ⟨w.heap.size, 3, none⟩ = some (.int .u64 r) ∧ w'.cell? ⟨w.heap.size, 4, none⟩ = some (.string t))
                (first | go_keep)
                (first | (go_at_call 83; refine (own_calls _ i g r t A n k ps HN.out (HFF.out.below (bel_dr (Below.refl _ _))) HA.out (by omega)).mono ?_; rintro e w2 ⟨A5, k5, rfl, ho5, hb5⟩; have hb6 : Below wr.heap.size wr w2 := bel_tr (bel_dr (Below.refl _ _)) hb5; have q := cell_bel hpr hb6; have q0 := cell_bel x0 hb6; have q1 := cell_bel x1 hb6; have q2 := cell_bel x2 hb6; have q3 := cell_bel x3 hb6; have q4 := cell_bel x4 hb6; obtain ⟨w3, hrun3, hm3, hg3, hz3⟩ := MapIs.store keyU gcs_onCells (HG.out.below hb6).2 Try.underlying110 i (v := ⟨i, ps, g, r, t⟩) (x := .agg #[.int .u64 i, .slice A5 ps.length k5, .int .u64 g, .int .u64 r, .string t]) (gcIs_own ho5 (by have := HN.out; omega)); have hbt := But.of_grown hg3; obtain ⟨o9, ho9, hoc9⟩ := (HG.out.below hb6).2.notCells; have r0 := hbt.cell_keeps ho9 hoc9 q; have r1 := hbt.cell_keeps ho9 hoc9 q0; have r2 := hbt.cell_keeps ho9 hoc9 q1; have r3 := hbt.cell_keeps ho9 hoc9 q2; have r4 := hbt.cell_keeps ho9 hoc9 q3; have r5 := hbt.cell_keeps ho9 hoc9 q4; have HB6 := Lib.hid hb6; clear hb6 hb5; have HBT := Lib.hid hbt; clear hbt hg3 hz3 ho9 hoc9; have HM3 := Lib.hid hm3; clear hm3; have HO5 := Lib.hid ho5; clear ho5))
              go_wp2
              go_ret
              have hbb : Below w.heap.size w w2 := bel_tr (bel_tr hB hBr) HB6.out
              have hbut := (But.of_below (m := m) hbb).trans HBT.out
              exact ⟨rfl, ⟨r0, HM3.out⟩, hbut⟩
            · rw [if_neg hgg] at hx
              subst hx
              have hl' := HL.out
              obtain rfl : L' = L := by simpa using hl'
              clear hl' HL
              have g5 : (g == gj + 1) = false := by simpa using hgg
              clear hgg
              go_wp2
              go_ret
              exact ⟨rfl, H.out.below (bel_tr hB hBr), But.of_below (bel_tr hB hBr)⟩)
    · have hlk' := fun W hW => hlk W hW true
      simp only [if_true] at hlk'
      go_region_held3 (fun w' => w'.cell? ⟨p, 0, none⟩ = some (.map (some m)) ∧ w'.cell? ⟨w.heap.size, 0, none⟩ = some (.int .u64 i) ∧ w'.heap[m]? = w1.heap[m]?) (((try dsimp only); (repeat' apply And.intro); all_goals (first | assumption | (refine Below.block (B := w1.heap.size) (w := w1) ?_ m hmlt; (repeat (first | (with_reducible exact Below.refl _ _) | (with_reducible assumption) | (with_reducible refine bel_al0 ?_ _) | (with_reducible refine bel_set ?_ (by first | (simp; done) | (simp; omega)) _) | (with_reducible refine bel_dr ?_) | (with_reducible refine bel_drn ?_ _) | (with_reducible refine bel_tr ?_ (by assumption))))) | go_keep))) (fail)
      all_goals (
        have hx := HX.out
        rw [hl] at hx
        obtain rfl : x = 112 := by simpa using hx
        have hl' := HL.out
        obtain rfl : L' = L := by simpa using hl'
        clear hx HX hlk' hlk xf hl' HL
        go_wp2
        go_ret
        have hbb := bel_al0 hB (.cells #[.int .u64 c.id, .slice A2 c.par.length k2, .int .u64 c.gen, .int .u64 c.root, .string c.text] 69)
        exact ⟨rfl, H.out.below (bel_dr hbb), But.of_below (bel_dr hbb)⟩)
  · have hx := HX.out
    rw [if_neg he0] at hx
    subst hx
    have hl := HL.out
    rw [if_neg he0] at hl
    subst hl
    have g1 : (x == 0) = false := by simpa using he0
    have g2 : (!(x == 0)) = true := by simpa using he0
    clear he0
    go_wp2
    go_ret
    exact ⟨rfl, H.out.below hB, But.of_below hB⟩
end Go.Proofs.Ytehneliphhgegaa
