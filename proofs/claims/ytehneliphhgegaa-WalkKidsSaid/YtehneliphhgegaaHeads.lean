/- Commits without children, and those without parents: walked once. -/
import Derived.Test.YtehneliphhgegaaKids
import Derived.Test.YtehneliphhgegaaBases
set_option linter.unusedVariables false
set_option linter.unusedSimpArgs false
set_option maxRecDepth 100000
namespace Go.Apo
open Go.RowKit
section
variable {P : Program} {kt : TypeId} {κ ν : Type} [DecidableEq κ] {ek : κ → Value} {R : World → ν → Value → Prop} {w : World} {m : Nat} {L : List (κ × ν)}
variable {F : Fence} {nF : Nat} {ops : Array Oper} {rest : List Oper} {o : Oper} {a : Act} {Q : Exit → Act → World → Prop}
theorem wplIn_store (hg : o.guard = none) (x y z : Operand) (t et : TypeId) (hop : o.op = Op.mapUpdate t x y z) (K : KeyT P kt ek) (hR : OnCells R) (ht : P.underlying t = some (.map kt et))
    (hm : a.eval x = .map (some m)) (k : κ) (hx : a.eval y = ek k) (u : Value) (hu : a.eval z = u) (h : MapIs ek R w m L) {v : ν} (hv : R w v u)
    (hK : ∀ w', MapIs ek R w' m (mput L k v) → w.grownBy w' (some m) → w'.heap.size = w.heap.size → wpListIn F nF P ops Q rest (a.put o.dst undef) w') : wpListIn F nF P ops Q (o :: rest) a w := by
  refine wpListIn_plain hg fun K' hK' => ?_
  obtain ⟨w', hrun, r1, r2, r3⟩ := h.store K hR ht k hv
  unfold Oper.wpIn
  refine ⟨by simp [Oper.about, hop], ?_⟩
  rw [Oper.semAt_plain F _ _ (by rw [hop]; intro c hc'; cases hc')]
  simp [execOp, hop, hm, hx, hu, hrun, Result.andThen]
  exact hK' _ _ (hK w' r1 r2 r3)
end
theorem ownFrom_but {β : Type} {m B : Nat} {w₀ : World} (hB : w₀.heap.size ≤ B) : OwnFrom B (fun (_ : β) W => But m w₀ W) :=
  fun _ X Y row hs hg hr => ⟨hg.os.trans hs.os, hg.tape.trans hs.tape, hg.output.trans hs.output, Nat.le_trans hs.size hg.size, fun k hk hm => (hg.block k (Nat.lt_of_lt_of_le hk hs.size) (fun e => by have := (hr k e.symm).1; omega)).trans (hs.block k hk hm)⟩
theorem ownFrom_map {β κ ν : Type} [DecidableEq κ] {ek : κ → Value} {R : World → ν → Value → Prop} (hR : OnCells R) {m B : Nat} (hB : m < B) (f : β → List (κ × ν)) : OwnFrom B (fun s W => MapIs ek R W m (f s)) :=
  fun _ X Y row hs hg hr => hs.keep hR (hg.block m hs.lt (fun e => by have := (hr m e.symm).1; omega)) (fun b o ho hc => (hg.block b (Array.getElem?_eq_some_iff.1 ho).1 (fun e => by
    obtain ⟨_, o', ho', hc'⟩ := hr b e.symm
    rw [ho] at ho'; cases ho'; rw [hc] at hc'; cases hc')).trans ho)
end Go.Apo
namespace Go.Proofs.Ytehneliphhgegaa
open Go.RowKit Go.Apo Go.Shelf
attribute [local go_sem] Oper.semAt_some

/-- all parents of some commits -/
def metIn (S : List (Int × Unit)) (l : List Int) : List (Int × Unit) := l.foldl (fun S p => mput S p ()) S
def metOf (L : List (Int × CommitD)) (l : List Int) : List (Int × Unit) := l.foldl (fun S k => metIn S (gGet L k).par) []
theorem metOf_snoc (L : List (Int × CommitD)) (l : List Int) (k : Int) : metOf L (l ++ [k]) = metIn (metOf L l) (gGet L k).par := by unfold metOf; rw [List.foldl_append]; rfl
theorem metIn_snoc (S : List (Int × Unit)) (l : List Int) (k : Int) : metIn S (l ++ [k]) = mput (metIn S l) k () := by unfold metIn; rw [List.foldl_append]; rfl

/-- the closure of Heads -/
theorem heads1_calls (w : World) (B mm : Nat) (S : List (Int × Unit)) (hc : w.cell? ⟨B, 0, none⟩ = some (.map (some mm))) (hM : MapIs (Value.int .u64) boolIs w mm S) (x : Int) :
    Calls Try.prog 89 #[.int .u64 x, .pointer (some ⟨B, 0, none⟩)] w fun e w' => e = .returned (.bool (mget S x).isSome) ∧ Below w.heap.size w w' := by
  have HM := Lib.hid hM; clear hM
  have hlt := cell_lt hc
  cases hq : mget S x with
  | none =>
    have HQ := Lib.hid hq; clear hq
    go_enter Try.func89, Try.ntmps89
    go_wp2_with (at_lookup; refine wpl_look_none rfl false _ _ 117 4 rfl keyU Try.underlying117 _ (fun W => zeroBool W) rfl x rfl HM.out HQ.out ?_)
    go_ret
    exact ⟨rfl, by (repeat (first | (with_reducible exact Below.refl _ _) | (with_reducible assumption) | (with_reducible refine bel_al0 ?_ _) | (with_reducible refine bel_set ?_ (by first | (simp; done) | (simp; omega)) _) | (with_reducible refine bel_dr ?_) | (with_reducible refine bel_drn ?_ _) | (with_reducible refine bel_tr ?_ (by assumption))))⟩
  | some u =>
    have HQ := Lib.hid hq; clear hq
    go_enter Try.func89, Try.ntmps89
    go_wp2_with (at_lookup; refine wpl_look_some rfl false _ _ 117 4 rfl keyU Try.underlying117 rfl x rfl HM.out HQ.out ?_; intro u hu; unfold boolIs at hu; subst hu)
    go_ret
    exact ⟨rfl, by (repeat (first | (with_reducible exact Below.refl _ _) | (with_reducible assumption) | (with_reducible refine bel_al0 ?_ _) | (with_reducible refine bel_set ?_ (by first | (simp; done) | (simp; omega)) _) | (with_reducible refine bel_dr ?_) | (with_reducible refine bel_drn ?_ _) | (with_reducible refine bel_tr ?_ (by assumption))))⟩

set_option maxHeartbeats 8000000 in
theorem heads_calls (w : World) (p m : Nat) (L : List (Int × CommitD)) (h : GraphAt w p m L) (hO : LOk L) (hL : L.length ≤ 100000) (hw : numsIn (mkeys L)) :
    Calls Try.prog 53 #[.pointer (some ⟨p, 0, none⟩)] w (NumsOwn w ((sortI (mkeys L)).filter fun k => !(mget (metOf L (sortI (mkeys L))) k).isSome)) := by
  obtain ⟨KS, hKS⟩ : ∃ KS, KS = sortI (mkeys L) := ⟨_, rfl⟩
  rw [← hKS]
  have HKS := Lib.hid hKS; clear hKS
  refine (callsIn_wide (n := 4)).1 ?_
  have hmm := @run_makeMap Try.prog
  have f1 : Fence.wide.fn 84 := trivial
  have HP := Lib.hid (fun k => (show (gGet L k).par.length ≤ 2 by
    unfold gGet
    cases hq : mget L k with
    | none => simp [CommitD.zero]
    | some c => exact hO.two k c hq))
  refine callsIn_of_wp_marks Try.func53 rfl trivial ?_ rfl
  simp only [Try.ntmps53, List.size_toArray, List.length_cons, List.length_nil, Nat.reduceAdd, Nat.reduceSub, Array.replicate_succ, Array.replicate_zero, List.push_toArray, List.append_toArray, List.nil_append, List.cons_append]
  gi_wp2_with (gi_at_call 84; refine (callsIn_wide.2 (idsF_calls _ _)).mono ?_; rintro e w' ⟨rfl, rfl⟩)
  obtain ⟨z, hz⟩ : ∃ z, z = w.heap.size := ⟨_, rfl⟩
  obtain ⟨W4, hW4⟩ : ∃ W4, W4 = (((w.alloc (.cells #[.pointer (some ⟨p, 0, none⟩)] 42)).alloc (.map #[] 0)).alloc (.cells #[.map (some (w.heap.size + 1))] 117)).alloc (.cells #[.pointer (some ⟨p, 0, none⟩)] 42) := ⟨_, rfl⟩
  have hz4 : W4.heap.size = z + 4 := by rw [hW4, hz]; simp
  have hBw : Below w.heap.size w W4 := by rw [hW4]; (repeat (first | (with_reducible exact Below.refl _ _) | (with_reducible assumption) | (with_reducible refine bel_al0 ?_ _) | (with_reducible refine bel_set ?_ (by first | (simp; done) | (simp; omega)) _) | (with_reducible refine bel_dr ?_) | (with_reducible refine bel_drn ?_ _) | (with_reducible refine bel_tr ?_ (by assumption))))
  have c0 : W4.cell? ⟨z, 0, none⟩ = some (.pointer (some ⟨p, 0, none⟩)) := by
    rw [hW4, hz]; exact cell_al (cell_al (cell_al (cell_at_new w _ _ 0 rfl) _) _) _
  have bM : MapIs (Value.int .u64) boolIs W4 (z + 1) [] := by
    have := mapIs_made (Value.int .u64) boolIs (w.alloc (.cells #[.pointer (some ⟨p, 0, none⟩)] 42))
    rw [World.size_alloc] at this
    rw [hW4, hz]
    exact (this.below bools_onCells (bel_al0 (Below.refl _ _) _)).below bools_onCells (bel_al0 (Below.refl _ _) _)
  have c2 : W4.cell? ⟨z + 1 + 1, 0, none⟩ = some (.map (some (z + 1))) := by
    rw [hW4, hz]
    have := cell_at_new ((w.alloc (.cells #[.pointer (some ⟨p, 0, none⟩)] 42)).alloc (.map #[] 0)) #[.map (some (w.heap.size + 1))] 117 0 (v := .map (some (w.heap.size + 1))) rfl
    rw [World.size_alloc, World.size_alloc] at this
    exact cell_al this _
  have c3 : W4.cell? ⟨z + 1 + 1 + 1, 0, none⟩ = some (.pointer (some ⟨p, 0, none⟩)) := by
    rw [hW4, hz]
    have := cell_at_new (((w.alloc (.cells #[.pointer (some ⟨p, 0, none⟩)] 42)).alloc (.map #[] 0)).alloc (.cells #[.map (some (w.heap.size + 1))] 117)) #[.pointer (some ⟨p, 0, none⟩)] 42 0 (v := .pointer (some ⟨p, 0, none⟩)) rfl
    rw [World.size_alloc, World.size_alloc, World.size_alloc] at this
    exact this
  rw [← hW4, ← hz]
  clear hW4
  have hG4 := h.below hBw
  have HG4 := Lib.hid (fun W (hW : But (z + 1) W4 W) => h.below (But.below hBw (Nat.le_refl _) (by omega) hW))
  have HZ := Lib.hid hz
  have HBW := Lib.hid hBw
  clear h hz hBw hmm
  refine wpIn_rangeFunc_fresh rfl (by omega) (gf := 110) (lb := #[.pointer (some ⟨z + 1 + 1 + 1, 0, none⟩)]) rfl trivial (enters_of Try.func110 (by kernel_rfl) rfl)
    (ids1_fresh 3 (by omega) W4 (z + 1 + 1 + 1) p m L c3 hG4 (by omega) hw) (Below.refl _ _) (fun _ => rfl)
    (fun G pre W => MapIs (Value.int .u64) boolIs W (z + 1) (metOf L pre) ∧ But (z + 1) W4 W)
    (fun _ _ _ _ => False)
    (fun G => OwnFrom.and (ownFrom_map bools_onCells (by omega) (fun pre => metOf L pre)) (ownFrom_but (Nat.le_refl _)))
    (fun _ _ _ _ _ _ hs _ _ => hs)
    (fun G hG => ⟨bM, But.refl _ _⟩)
    (fun k => { tmps := #[.pointer (some ⟨p, 0, none⟩), .pointer (some ⟨z, 0, none⟩), .slice none 0 0, .pointer (some ⟨z + 1 + 1, 0, none⟩), .int .u64 k, undef, undef, undef, undef, .map (some (z + 1)), .pointer (some ⟨p, 0, none⟩), .func (.func 110) #[] #[.pointer (some ⟨z + 1 + 1 + 1, 0, none⟩)], .int .u64 k, undef, undef, undef, undef, undef, undef, undef, undef, undef, undef, undef, undef, undef, undef, undef, undef, undef, undef, undef, undef, undef], defers := [] }) ?assign ?body ?done ?stop
  case assign =>
    intro l k W K hK
    gi_wp2
    exact hK
  case body =>
    rintro G l pre k W hG hGW ⟨hM, hB⟩ hlt
    have q0 := (hB.cell (p := ⟨z, 0, none⟩) (by show z < _; omega) (by show z ≠ _; omega)).trans c0
    have q2 := (hB.cell (p := ⟨z + 1 + 1, 0, none⟩) (by show z + 1 + 1 < _; omega) (by show z + 1 + 1 ≠ _; omega)).trans c2
    have hzW : z + 4 ≤ W.heap.size := by have := hB.size; omega
    have f2 : Fence.wide.fn 44 := trivial
    have HGE := Lib.hid (gget_calls p m W L (HG4.out W hB) k)
    have hp2 := HP.out k
    have HIN := Lib.hid (metOf_snoc L pre k)
    obtain ⟨c, hc⟩ : ∃ c, c = gGet L k := ⟨_, rfl⟩
    unfold GetOwn at HGE
    rw [← hc] at HGE hp2 HIN
    clear hc
    obtain ⟨S, hS⟩ : ∃ S, S = metOf L pre := ⟨_, rfl⟩
    rw [← hS] at HIN hM
    clear hS
    obtain ⟨np, hnp⟩ : ∃ np, np = c.par.length := ⟨_, rfl⟩
    rw [← hnp] at HGE hp2
    have HNP := Lib.hid hnp; clear hnp
    have HM := Lib.hid hM; clear hM
    gi_wp2_with fail
    refine ((callsIn_wide.2 HGE.out).inRound l).mono ?_
    rintro e w5 ⟨A5, k5, rfl, ho5, hb5⟩
    have hf5 := Lib.hid (own_flat ho5)
    have hA5 := Lib.hid (own_row_ge ho5)
    clear ho5
    have hz5 := hb5.size
    replace q2 := cell_bel q2 hb5
    have hbW := Lib.hid (bel_al0 hb5 (.cells #[.int .u64 c.id, .slice A5 np k5, .int .u64 c.gen, .int .u64 c.root, .string c.text] 69))
    have hM6 := Lib.hid (HM.out.below bools_onCells hbW.out)
    gi_wp2_with fail
    have B5 := blk_new w5 #[.int .u64 c.id, .slice A5 np k5, .int .u64 c.gen, .int .u64 c.root, .string c.text] 69
    obtain ⟨w6, hw6⟩ : ∃ w6, w6 = w5.alloc (.cells #[.int .u64 c.id, .slice A5 np k5, .int .u64 c.gen, .int .u64 c.root, .string c.text] 69) := ⟨_, rfl⟩
    have q6 : w6.cell? ⟨z + 1 + 1, 0, none⟩ = some (.map (some (z + 1))) := by rw [hw6]; exact cell_al q2 _
    have hF6 : Hid (Flat w6 A5 (nums c.par)) := by show Flat _ _ _; rw [hw6]; exact hf5.out.below (bel_al0 (Below.refl _ _) _)
    have hz6 : w6.heap.size = w5.heap.size + 1 := by rw [hw6]; simp
    rw [← hw6] at hbW hM6 ⊢
    clear hw6 B5
    gi_loopw [22] (fun v wr => ∃ j : Nat, j ≤ np ∧ v = .int .i64 j ∧ Hid (MapIs (Value.int .u64) boolIs wr (z + 1) (metIn S (c.par.take j))) ∧ Hid (But (z + 1) w6 wr)) (fun v _ => np - (intOf v).toNat)
    case atStart => exact ⟨0, Nat.zero_le _, rfl, hM6, But.refl _ _⟩
    case round =>
      obtain ⟨j, hj, rfl, hMj, hBj⟩ := hrel
      have r6 := (hBj.out.cell (p := ⟨z + 1 + 1, 0, none⟩) (by show z + 1 + 1 < _; omega) (by show z + 1 + 1 ≠ _; omega)).trans q6
      have hzr := hBj.out.size
      by_cases hlt : j < np
      · obtain ⟨pj, hpj⟩ : ∃ pj, c.par[j]? = some pj := ⟨_, List.getElem?_eq_getElem (by rw [← HNP.out]; exact hlt)⟩
        obtain ⟨bb, off, rfl, cj⟩ := hF6.out.at_ (nums_at hpj)
        have hbb := hA5.out bb rfl
        replace cj := (hBj.out.cell (p := ⟨bb, off + j, none⟩) (cell_lt cj) (by show bb ≠ _; omega)).trans cj
        have htk : c.par.take (j + 1) = c.par.take j ++ [pj] := by rw [List.take_add_one, hpj]; rfl
        have hnew : Hid (mput (metIn S (c.par.take j)) pj () = metIn S (c.par.take (j + 1))) := by show _ = _; rw [htk, metIn_snoc]
        have hbl := cell_lt cj
        clear hpj htk hbb
        obtain ⟨w7, hrun, hm7, hg7, hz7⟩ := hMj.out.store (t := 117) keyU bools_onCells Try.underlying117 pj (v := ()) (x := .bool true) rfl
        rw [hnew.out] at hm7
        have HM7 := Lib.hid hm7; clear hm7
        have HB7 := Lib.hid (But.of_grown hg7); clear hg7 hz7
        gi_wp2
        go_roundw
        case rel => exact ⟨j + 1, by omega, by go_num, HM7, hBj.out.trans HB7.out⟩
        case measure => simp [intOf]; omega
      · have hj' : j = np := by omega
        have htk : c.par.take j = c.par := by rw [List.take_of_length_le]; have := HNP.out; omega
        have hMM := hMj.out
        rw [htk, ← HIN.out] at hMM
        have HMM := Lib.hid hMM; clear hMM htk
        gi_wp2
        have hBW : But (z + 1) W wr := (But.of_below hbW.out).trans hBj.out
        refine ⟨⟨hBW.size, fun i o hB1 hi ho => ?_⟩, ⟨hBW.size, fun i h1 h2 => hBW.block i (by omega) (by omega)⟩, HMM.out, hB.trans hBW⟩
        have := (Array.getElem?_eq_some_iff.1 hi).1
        exact (hBW.block i this (by omega)).trans hi
  case done =>
    rintro D G ys W hD hys ⟨hM, hB⟩ hK
    rw [← HKS.out] at hys
    subst hys
    have q0 := (hB.cell (p := ⟨z, 0, none⟩) (by show z < _; omega) (by show z ≠ _; omega)).trans c0
    have q2 := (hB.cell (p := ⟨z + 1 + 1, 0, none⟩) (by show z + 1 + 1 < _; omega) (by show z + 1 + 1 ≠ _; omega)).trans c2
    have hzW : z + 4 ≤ W.heap.size := by have := hB.size; omega
    have f2 : Fence.wide.fn 88 := trivial
    have f3 : Fence.wide.fn 87 := trivial
    have HGW := Lib.hid (HG4.out W hB)
    have HM := Lib.hid hM; clear hM
    have HK := Lib.hid hK; clear hK
    have HCO := Lib.hid (fun W' (hW' : Below W.heap.size W W') Bg hc => collect_calls W' Bg p m L hc (HGW.out.below hW') (by omega) hw)
    have hnl : ys.length ≤ 100000 := by rw [HKS.out, sortI_len]; simpa [mkeys] using hL
    rw [← HKS.out] at HCO
    unfold NumsOwn at HCO
    gi_wp2_with (first | (gi_at_call 84; refine (callsIn_wide.2 (idsF_calls _ _)).mono ?_; rintro e w' ⟨rfl, rfl⟩) | (gi_at_call 88; refine (callsIn_wide.2 (HCO.out _ (by (repeat (first | (with_reducible exact Below.refl _ _) | (with_reducible assumption) | (with_reducible refine bel_al0 ?_ _) | (with_reducible refine bel_set ?_ (by first | (simp; done) | (simp; omega)) _) | (with_reducible refine bel_dr ?_) | (with_reducible refine bel_drn ?_ _) | (with_reducible refine bel_tr ?_ (by assumption))))) W.heap.size (cell_at_new W _ _ 0 rfl))).mono ?_; rintro e w5 ⟨v5, rfl, ho5, hb5⟩))
    obtain ⟨W1, hW1⟩ : ∃ W1, W1 = W.alloc (.cells #[.pointer (some ⟨p, 0, none⟩)] 42) := ⟨_, rfl⟩
    have hbW1 : Below W.heap.size W W1 := by rw [hW1]; exact bel_al0 (Below.refl _ _) _
    have hz1 : W1.heap.size = W.heap.size + 1 := by rw [hW1]; simp
    rw [← hW1] at ho5 hb5
    clear hW1
    have hPr : Pred W1 W1.heap.size 89 #[.pointer (some ⟨z + 1 + 1, 0, none⟩)] (fun x => (mget (metOf L ys) x).isSome) := fun W2 hW2 x =>
      heads1_calls W2 (z + 1 + 1) (z + 1) _ (cell_bel (cell_bel q2 hbW1) hW2) ((HM.out.below bools_onCells hbW1).below bools_onCells hW2) x
    refine (callsIn_wide.2 (delete_own W1 w5 W1.heap.size (Nat.le_refl _) hb5 hb5.size 89 #[.pointer (some ⟨z + 1 + 1, 0, none⟩)] (enters_of Try.func89 (by kernel_rfl) rfl) _ hPr v5 ys.length ys rfl ho5 hnl)).mono ?_
    rintro e w6 ⟨v6, rfl, ho6, hb6⟩
    gi_wp2
    have hbW6 : Below W.heap.size W w6 := hbW1.trans (hb6.mono (by omega))
    have hDlt : D < W.heap.size := (Array.getElem?_eq_some_iff.1 HK.out).1
    have hK6 : w6.heap[D]? = some (.deferred (some [])) := (hbW6.block D hDlt).trans HK.out
    have hwW : Below w.heap.size w W := But.below HBW.out (Nat.le_refl _) (by have := HZ.out; omega) hB
    have hww : w.heap.size ≤ W.heap.size := hwW.size
    refine ⟨by simp, .inl ⟨_, _, rfl, run_takeDeferred hK6, ?_⟩⟩
    refine ⟨_, results_tmp rfl _ _ _, v6, rfl, ownsRow_putObj (own_mono ho6 (by omega)) _ hK6 rfl, (hwW.trans (hbW6.mono hww)).trans (belowK_b (w := w) (Nat.le_refl _) w6 D _ _ (by have := HZ.out; omega) hK6 rfl rfl)⟩
  case stop =>
    rintro D G c pre W _ _ h _
    exact h.elim
end Go.Proofs.Ytehneliphhgegaa
