/- The fewest steps to each ancestor: what walk.far does, walked once. -/
import Derived.Test.YtehneliphhgegaaMadeAll
import Derived.Test.YtehneliphhgegaaQueueAll
import Derived.Deep.LoopGhost
set_option linter.unusedVariables false
set_option linter.unusedSimpArgs false
set_option maxRecDepth 100000
namespace Go.Proofs.Ytehneliphhgegaa
open Go.RowKit Go.Apo

/-- one parent is met -/
def farStep (h : Int) (s : List (Int × Int) × List Int) (p : Int) : List (Int × Int) × List Int :=
  if (mget s.1 p).isSome then s else (mput s.1 p ((mget s.1 h).getD 0 + 1), s.2 ++ [p])
def farRun (L : List (Int × CommitD)) : Nat → List (Int × Int) → List Int → List (Int × Int)
  | 0, M, _ => M
  | _ + 1, M, [] => M
  | f + 1, M, h :: t => farRun L f (((gGet L h).par).foldl (farStep h) (M, h :: t)).1 (((gGet L h).par).foldl (farStep h) (M, h :: t)).2.tail
theorem nodup_le : ∀ {a b : List Int}, a.Nodup → (∀ x ∈ a, x ∈ b) → a.length ≤ b.length
  | [], _, _, _ => Nat.zero_le _
  | x :: a, b, hn, hs => by
    have hx : x ∈ b := hs x List.mem_cons_self
    have h2 := List.nodup_cons.1 hn
    have := nodup_le (a := a) (b := b.erase x) h2.2 (fun y hy => by
      have hne : y ≠ x := fun e => h2.1 (e ▸ hy)
      exact (List.mem_erase_of_ne hne).2 (hs y (List.mem_cons_of_mem _ hy)))
    have hl := List.length_erase_of_mem hx
    have : 0 < b.length := List.length_pos_of_mem hx
    simp only [List.length_cons]
    omega
/-- what holds on the way -/
structure FarOk (L : List (Int × CommitD)) (M : List (Int × Int)) (l : List Int) : Prop where
  vals : ∀ k d, mget M k = some d → 0 ≤ d ∧ d < M.length ∧ (mget L k).isSome
  row : ∀ y ∈ l, (mget M y).isSome
  nodup : (mkeys M).Nodup
theorem FarOk.le {L : List (Int × CommitD)} {M : List (Int × Int)} {l : List Int} (h : FarOk L M l) : M.length ≤ L.length := by
  have h1 : ∀ k ∈ mkeys M, k ∈ mkeys L := fun k hk => by
    cases hm : mget M k with
    | none => exact absurd hk (mget_none.1 hm)
    | some d =>
      have := (h.vals k d hm).2.2
      cases hl : mget L k with
      | none => rw [hl] at this; cases this
      | some c => exact Classical.byContradiction fun hn => by rw [mget_none.2 hn] at hl; cases hl
  have h2 := nodup_le h.nodup h1
  simpa [mkeys] using h2
theorem FarOk.step {L : List (Int × CommitD)} {M : List (Int × Int)} {l : List Int} (h : FarOk L M l) {hd p : Int} (hp : (mget L p).isSome) (hh : hd ∈ l) : FarOk L (farStep hd (M, l) p).1 (farStep hd (M, l) p).2 := by
  unfold farStep
  by_cases hm : (mget M p).isSome = true
  · simp only [hm, if_true]; exact h
  · simp only [hm]
    have hk : p ∉ mkeys M := by
      rw [← mget_none]
      cases hq : mget M p with
      | none => rfl
      | some _ => rw [hq] at hm; exact absurd rfl hm
    have hlen : (mput M p ((mget M hd).getD 0 + 1)).length = M.length + 1 := by rw [mput_new _ hk]; simp
    have hv : 0 ≤ (mget M hd).getD 0 ∧ (mget M hd).getD 0 < M.length := by
      have := h.row hd hh
      cases hq : mget M hd with
      | none => rw [hq] at this; cases this
      | some d => have := h.vals hd d hq; exact ⟨this.1, this.2.1⟩
    refine ⟨fun k d hd' => ?_, fun y hy => ?_, nodup_mput _ h.nodup⟩
    · simp only [Bool.false_eq_true, if_false] at hd' ⊢
      rw [hlen]
      rw [mget_mput] at hd'
      by_cases hkp : k = p
      · rw [if_pos hkp] at hd'; cases hd'; subst hkp
        exact ⟨by omega, by omega, hp⟩
      · rw [if_neg hkp] at hd'
        have := h.vals k d hd'
        exact ⟨this.1, by omega, this.2.2⟩
    · simp only [Bool.false_eq_true, if_false] at hy ⊢
      rw [mget_mput]
      by_cases hyp : y = p
      · rw [if_pos hyp]; rfl
      · rw [if_neg hyp]
        rcases List.mem_append.1 hy with hy | hy
        · exact h.row y hy
        · rw [List.mem_singleton] at hy; exact absurd hy hyp
/-- what is left to do -/
def farLeft (L : List (Int × CommitD)) (M : List (Int × Int)) (l : List Int) : Nat := 2 * (L.length - M.length) + l.length
theorem farStep_left {L : List (Int × CommitD)} {M : List (Int × Int)} {l : List Int} (h : FarOk L M l) {hd p : Int} (hp : (mget L p).isSome) (hh : hd ∈ l) : farLeft L (farStep hd (M, l) p).1 (farStep hd (M, l) p).2 ≤ farLeft L M l := by
  have h2 := (h.step hp hh).le
  unfold farStep at h2 ⊢
  by_cases hm : (mget M p).isSome = true
  · simp only [hm, if_true]; exact Nat.le_refl _
  · simp only [hm, Bool.false_eq_true, if_false] at h2 ⊢
    have hk : p ∉ mkeys M := by
      rw [← mget_none]
      cases hq : mget M p with
      | none => rfl
      | some _ => rw [hq] at hm; exact absurd rfl hm
    have hlen : (mput M p ((mget M hd).getD 0 + 1)).length = M.length + 1 := by rw [mput_new _ hk]; simp
    rw [hlen] at h2
    unfold farLeft
    rw [hlen]
    simp
    omega
theorem farStep_head (h : Int) (M : List (Int × Int)) (t : List Int) (p : Int) : ∃ t', (farStep h (M, h :: t) p).2 = h :: t' := by
  unfold farStep
  by_cases hm : (mget M p).isSome = true
  · simp only [hm, if_true]; exact ⟨t, rfl⟩
  · simp only [hm]; exact ⟨t ++ [p], rfl⟩
def farM (L : List (Int × CommitD)) (late : Int) : List (Int × Int) := if (mget L late).isSome then farRun L (2 * L.length + 1) [(late, 0)] [late] else []
def intIs (_ : World) (d : Int) (v : Value) : Prop := v = .int .i64 d
theorem ints_onCells : OnCells intIs := onCells_plain _
theorem zeroInt (W : World) : (zeroValue 3).run Try.prog W = .ok (.int .i64 0) W := by kernel_rfl
/-- parents are in the graph -/
def Closed (L : List (Int × CommitD)) : Prop := ∀ i c, mget L i = some c → c.par.length ≤ 2 ∧ ∀ q ∈ c.par, (mget L q).isSome
theorem Sync.closed {L : List (Int × CommitD)} {R : List CommitD} (h : Sync L R) : Closed L := fun i c hc => ⟨(h.two i c hc).1, fun q hq => by obtain ⟨_, _, d, hd, _⟩ := h.pars i c hc q hq; rw [hd]; rfl⟩
/-- a new block of numbers is none of the blocks below -/
theorem own_block {w : World} {base e size n k : Nat} {b off : Nat} {xs : List Value} (h : w.ownsRow base e size (.slice (some ⟨b, off, none⟩) n k) n xs) : base ≤ b := by
  rcases h.2 with ⟨h1, _⟩ | ⟨g, cap, cur, h1, h2, _⟩
  · cases h1
  · simp only [Value.slice.injEq, Option.some.injEq, Addr.mk.injEq] at h1
    rw [h1.1.1]; exact h2
theorem MapIs.but_ints {w w' : World} {m g : Nat} {M : List (Int × Int)} (h : MapIs (Value.int .u64) intIs w m M) (hm : m ≠ g) (hb : But g w w') : MapIs (Value.int .u64) intIs w' m M := by
  have hl := h.lt
  obtain ⟨es, c, h1, hs, he⟩ := h.ex
  exact ⟨es, c, (hb.block m hl hm).trans h1, hs, he⟩
theorem flat_butb {w w' : World} {b ob g : Nat} {cs : List Value} (h : Flat w (some ⟨b, ob, none⟩) cs) (hg : b ≠ g) (hb : But g w w') : Flat w' (some ⟨b, ob, none⟩) cs := fun h0 => by
  obtain ⟨b', off, e, hc⟩ := h h0
  refine ⟨b', off, e, fun j u hj => ?_⟩
  simp only [Option.some.injEq, Addr.mk.injEq, and_true] at e
  have h1 := hc j u hj
  exact (hb.cell (p := ⟨b', off + j, none⟩) (cell_lt h1) (by rw [← e.1]; exact hg)).trans h1
/-- what far leaves -/
def FarPost (w : World) (M : List (Int × Int)) (e : Ending) (w' : World) : Prop :=
  ∃ m, e = .returned (.map (some m)) ∧ MapIs (Value.int .u64) intIs w' m M ∧ Below w.heap.size w w' ∧ w.heap.size ≤ m

set_option maxHeartbeats 4000000 in
theorem far_calls (w : World) (p mg : Nat) (L : List (Int × CommitD)) (h : GraphAt w p mg L) (hC : Closed L) (hL : L.length ≤ 100000) (late : Int) :
    Calls Try.prog 77 #[.pointer (some ⟨p, 0, none⟩), .int .u64 late] w (FarPost w (farM L late)) := by
  obtain ⟨RES, hRES⟩ : ∃ RES, RES = farM L late := ⟨_, rfl⟩
  rw [← hRES]
  have hmm := @run_makeMap Try.prog
  have HG := Lib.hid (fun W (hW : GraphAt W p mg L) i => gget_calls p mg W L hW i)
  have H := Lib.hid h; clear h
  have HC := Lib.hid hC; clear hC
  have HLL := Lib.hid hL; clear hL
  unfold farM at hRES
  go_enter Try.func77, Try.ntmps77
  have hB0 : Below w.heap.size w (w.alloc (.map #[] 0)) := by (repeat (first | (with_reducible exact Below.refl _ _) | (with_reducible assumption) | (with_reducible refine bel_al0 ?_ _) | (with_reducible refine bel_set ?_ (by first | (simp; done) | (simp; omega)) _) | (with_reducible refine bel_dr ?_) | (with_reducible refine bel_drn ?_ _) | (with_reducible refine bel_tr ?_ (by assumption))))
  have hm0 := Lib.hid (mapIs_made (Value.int .u64) intIs w)
  cases hlt : mget L late with
  | none =>
    rw [hlt] at hRES
    obtain rfl : RES = [] := by simpa using hRES
    clear hRES
    have hg := HG.out _ (H.out.below hB0) late
    rw [hlt] at hg
    clear hlt
    have HG' := Lib.hid hg; clear hg
    go_wp2_with (go_at_call 44; refine HG'.out.mono ?_; rintro e w1 ⟨A1, k1, rfl, ho1, hb1⟩; clear ho1)
    go_ret
    refine ⟨w.heap.size, rfl, hm0.out.below ints_onCells ?_, ?_, Nat.le_refl _⟩
    · exact bel_al0 hb1 _
    · (repeat (first | (with_reducible exact Below.refl _ _) | (with_reducible assumption) | (with_reducible refine bel_al0 ?_ _) | (with_reducible refine bel_set ?_ (by first | (simp; done) | (simp; omega)) _) | (with_reducible refine bel_dr ?_) | (with_reducible refine bel_drn ?_ _) | (with_reducible refine bel_tr ?_ (by assumption))))
  | some c0 =>
    rw [hlt] at hRES
    have hRES2 : RES = farRun L (2 * L.length + 1) [(late, 0)] [late] := by simpa using hRES
    clear hRES
    have hg := HG.out _ (H.out.below hB0) late
    have hsome : (mget L late).isSome = true := by rw [hlt]; rfl
    have hok : FarOk L [(late, 0)] [late] := by
      refine ⟨fun k d hk => ?_, fun y hy => ?_, by simp [mkeys]⟩
      · rw [mget_cons] at hk
        by_cases he : late = k
        · rw [if_pos he] at hk; cases hk; subst he; exact ⟨by simp, by simp, hsome⟩
        · rw [if_neg he] at hk; cases hk
      · rw [List.mem_singleton] at hy; subst hy; rw [mget_cons, if_pos rfl]; rfl
    rw [hlt] at hg
    have HG' := Lib.hid hg; clear hg
    have HOK := Lib.hid hok; clear hok
    have HR2 := Lib.hid hRES2; clear hRES2
    clear hlt hsome
    obtain ⟨m, hm⟩ : ∃ m, m = w.heap.size := ⟨_, rfl⟩
    have hlate : (Value.int .u64 late).oneCell' = true := rfl
    go_wp2_with (first | (go_at_call 44; refine HG'.out.mono ?_; rintro e w1 ⟨A1, k1, rfl, ho1, hb1⟩; clear ho1) | (at_mapUpdate; refine wpl_store (R := intIs) rfl _ _ _ 102 3 rfl keyU ints_onCells Try.underlying102 rfl late rfl _ rfl ((hm0.out.below ints_onCells hb1).below ints_onCells (bel_al0 (Below.refl _ _) _)) (v := 0) rfl ?_; intro w3 hm3 hg3 hz3))
    rw [← hm] at hm3 hg3
    have hB3 : Below w.heap.size w w3 := by
      refine But.below (m := m) ?_ (Nat.le_refl _) (by omega) (But.of_grown hg3)
      exact bel_al0 (bel_tr hB0 hb1) _
    have hsz3 : m < w3.heap.size := hm3.lt
    have hmp : mput ([] : List (Int × Int)) late 0 = [(late, 0)] := rfl
    rw [hmp] at hm3
    have hM0 := Lib.hid (hm3.below ints_onCells (bel_al0 (Below.refl _ w3) (.cells #[.int .u64 late] 24)))
    have hQ0 := Lib.hid (Que.new (base := w.heap.size + 1) w3 #[.int .u64 late] 24 (by omega) (by unfold maxLen; simp))
    have hB4 : Below w.heap.size w (w3.alloc (.cells #[.int .u64 late] 24)) := by (repeat (first | (with_reducible exact Below.refl _ _) | (with_reducible assumption) | (with_reducible refine bel_al0 ?_ _) | (with_reducible refine bel_set ?_ (by first | (simp; done) | (simp; omega)) _) | (with_reducible refine bel_dr ?_) | (with_reducible refine bel_drn ?_ _) | (with_reducible refine bel_tr ?_ (by assumption))))
    obtain ⟨w4, hw4⟩ : ∃ w4, w4 = w3.alloc (.cells #[.int .u64 late] 24) := ⟨_, rfl⟩
    rw [← hw4] at hM0 hQ0 hB4 ⊢
    have hz4 : w1.heap.size + 1 = w3.heap.size := by rw [hz3]; simp
    rw [hz4, ← hm]
    have hmw : w.heap.size ≤ m := by omega
    rw [← hm] at hQ0
    have HMM := Lib.hid hm; clear hm
    clear hz4 hw4 hm3 hg3 hz3 hB3 hb1 HG' hm0 hmm hB0 hlate
    have hL := HLL.out
    go_loopg [8, 9, 10, 12, 13, 14] (2 * L.length + 1) (fun k v8 _ _ _ _ _ wr => ∃ (g off n cap : Nat) (l : List Int) (M : List (Int × Int)), v8 = .slice (some ⟨g, off, none⟩) n cap ∧ k ≤ 200001 ∧ Hid (l.length = n) ∧ Hid (Que wr (m + 1) 24 g off n cap (nums l)) ∧ Hid (MapIs (Value.int .u64) intIs wr m M) ∧ Hid (FarOk L M l) ∧ Hid (farLeft L M l ≤ k) ∧ Hid (RES = farRun L k M l) ∧ Below w.heap.size w wr)
    case atStart => exact ⟨w3.heap.size, 0, 1, 1, [late], [(late, 0)], rfl, by omega, rfl, hQ0, hM0, HOK, (by show farLeft L [(late, 0)] [late] ≤ _; unfold farLeft; simp; omega), HR2, hB4⟩
    case round =>
      obtain ⟨g, off, n, cap, l, M, rfl, hn, hl, hQ, hM, hOK, hK, hR, hB⟩ := hrel
      cases l with
      | nil =>
        obtain rfl : n = 0 := hl.out.symm
        have hR2 : RES = M := by
          rw [hR.out]; cases gk <;> rfl
        subst hR2
        go_wp2
        go_ret
        exact ⟨m, rfl, hM.out, hB, by omega⟩
      | cons hd t =>
        obtain ⟨n', rfl⟩ : ∃ n', n = n' + 1 := ⟨t.length, hl.out.symm⟩
        have hk1 : 1 ≤ gk := by have := hK.out; unfold farLeft at this; simp at this; omega
        obtain ⟨f, rfl⟩ : ∃ f, gk = f + 1 := ⟨gk - 1, by omega⟩
        have c0 := hQ.out.cell (j := 0) (u := .int .u64 hd) rfl
        rw [Nat.add_zero] at c0
        have hgl := hQ.out.lt
        have hgm : m < g := by have := hQ.out.base; omega
        have HG2 := Lib.hid (HG.out _ (H.out.below hB) hd)
        have hpar : Hid ((gGet L hd).par.length ≤ 2 ∧ ∀ q ∈ (gGet L hd).par, (mget L q).isSome) := by
          show _ ∧ _
          unfold gGet
          cases hq : mget L hd with
          | none => exact ⟨by simp [CommitD.zero], fun q hq => by cases hq⟩
          | some c => exact HC.out hd c hq
        have hRun : Hid (RES = farRun L f (((gGet L hd).par).foldl (farStep hd) (M, hd :: t)).1 (((gGet L hd).par).foldl (farStep hd) (M, hd :: t)).2.tail) := hR.out
        clear hR
        obtain ⟨ps, hps⟩ : ∃ ps, ps = (gGet L hd).par := ⟨_, rfl⟩
        unfold GetOwn at HG2
        rw [← hps] at HG2 hpar hRun
        clear hps
        obtain ⟨np, hnp⟩ : ∃ np, np = ps.length := ⟨_, rfl⟩
        rw [← hnp] at HG2
        have HNP := Lib.hid hnp; clear hnp
        have hnp2 : np ≤ 2 := by rw [HNP.out]; exact hpar.out.1
        have hcap1 : n' + 1 ≤ cap := hQ.out.le
        go_wp2_with (go_at_call 44; refine HG2.out.mono ?_; rintro e w5 ⟨A1, k1, rfl, ho1, hb1⟩)
        have hb6 : Below wr.heap.size wr (w5.alloc (.cells #[.int .u64 (gGet L hd).id, .slice A1 np k1, .int .u64 (gGet L hd).gen, .int .u64 (gGet L hd).root, .string (gGet L hd).text] 69)) := by (repeat (first | (with_reducible exact Below.refl _ _) | (with_reducible assumption) | (with_reducible refine bel_al0 ?_ _) | (with_reducible refine bel_set ?_ (by first | (simp; done) | (simp; omega)) _) | (with_reducible refine bel_dr ?_) | (with_reducible refine bel_drn ?_ _) | (with_reducible refine bel_tr ?_ (by assumption))))
        have hF6 := Lib.hid ((own_flat ho1).below (bel_al0 (Below.refl _ w5) (.cells #[.int .u64 (gGet L hd).id, .slice A1 np k1, .int .u64 (gGet L hd).gen, .int .u64 (gGet L hd).root, .string (gGet L hd).text] 69)))
        have hO6 : Hid (∀ b off, A1 = some ⟨b, off, none⟩ → b ≠ g) := by
          show ∀ b off, A1 = some ⟨b, off, none⟩ → b ≠ g
          intro b off e
          subst e
          have := own_block ho1
          omega
        clear ho1 hb1
        have hQ6 := Lib.hid (hQ.out.below hb6)
        have hM6 := Lib.hid (hM.out.below ints_onCells hb6)
        have hBB : Below w.heap.size w (w5.alloc (.cells #[.int .u64 (gGet L hd).id, .slice A1 np k1, .int .u64 (gGet L hd).gen, .int .u64 (gGet L hd).root, .string (gGet L hd).text] 69)) := bel_tr hB hb6
        have hnn : n' + 1 ≤ 200001 := by have := hK.out; have := hl.out; unfold farLeft at *; omega
        obtain ⟨w6, hw6⟩ : ∃ w6, w6 = w5.alloc (.cells #[.int .u64 (gGet L hd).id, .slice A1 np k1, .int .u64 (gGet L hd).gen, .int .u64 (gGet L hd).root, .string (gGet L hd).text] 69) := ⟨_, rfl⟩
        rw [← hw6] at hF6 hQ6 hM6 hBB ⊢
        clear hw6 hb6 HG2
        go_loopw [45, 8, 12, 13, 14] (fun v v8 _ _ _ wq => ∃ (i g' off' n2 cap' : Nat) (l' : List Int) (M' : List (Int × Int)), i ≤ np ∧ v = .int .i64 i ∧ v8 = .slice (some ⟨g', off', none⟩) n2 cap' ∧ 1 ≤ n2 ∧ n2 ≤ cap' ∧ m ≠ g' ∧ Hid (l'.length = n2) ∧ Hid (Que wq (m + 1) 24 g' off' n2 cap' (nums l')) ∧ Hid (MapIs (Value.int .u64) intIs wq m M') ∧ Hid (FarOk L M' l') ∧ Hid (farLeft L M' l' ≤ f + 1) ∧ Hid ((ps.take i).foldl (farStep hd) (M, hd :: t) = (M', l')) ∧ Hid (∃ t', l' = hd :: t') ∧ Hid (Flat wq A1 (nums ps)) ∧ Hid (∀ b off, A1 = some ⟨b, off, none⟩ → b ≠ g') ∧ Below w.heap.size w wq) (fun v _ _ _ _ _ => np - (intOf v).toNat)
        case atStart => exact ⟨0, g, off, n' + 1, cap, hd :: t, M, Nat.zero_le _, rfl, rfl, by omega, hcap1, by omega, hl, hQ6, hM6, hOK, hK, rfl, ⟨t, rfl⟩, hF6, hO6, hBB⟩
        case round =>
          obtain ⟨i, g', off', n2, cap', l', M', hi, rfl, rfl, hn2, hcap2, hmg, hl', hQ', hM', hOK', hK', hfold, hhd, hF', hO', hB'⟩ := hrel
          by_cases hlt : i < np
          · obtain ⟨q, hq⟩ : ∃ q, ps[i]? = some q := ⟨_, List.getElem?_eq_getElem (by rw [← HNP.out]; exact hlt)⟩
            obtain ⟨b, ob, rfl, cj⟩ := hF'.out.at_ (nums_at hq)
            have htk : ps.take (i + 1) = ps.take i ++ [q] := by rw [List.take_add_one, hq]; rfl
            have hqL := hpar.out.2 q (List.mem_of_getElem? hq)
            have hnew : Hid ((ps.take (i + 1)).foldl (farStep hd) (M, hd :: t) = farStep hd (M', l') q) := by
              show _ = _
              rw [htk, List.foldl_append, hfold.out]; rfl
            obtain ⟨t', ht'⟩ := hhd.out
            have hmem : hd ∈ l' := by rw [ht']; exact List.mem_cons_self
            have hst := hOK'.out.step hqL hmem
            have hlf := farStep_left hOK'.out hqL hmem
            have hrw := hOK'.out.row hd hmem
            have HQ := Lib.hid hq; clear hq htk hmem
            cases hmq : mget M' q with
            | some d =>
              have e : farStep hd (M', l') q = (M', l') := by unfold farStep; simp [hmq]
              rw [e] at hnew hst hlf
              have HMQ := Lib.hid hmq; clear hmq hrw ht' e
              go_wp2_with (at_lookup; refine wpl_look_some rfl true _ _ 102 3 rfl keyU Try.underlying102 rfl q rfl hM'.out HMQ.out ?_; intro u hu; unfold intIs at hu; subst hu)
              go_roundw
              case rel => exact ⟨i + 1, g', off', n2, cap', l', M', by omega, by go_num, rfl, hn2, hcap2, hmg, hl', hQ', hM', hOK', hK', hnew, hhd, hF', hO', hB'⟩
              case measure => simp [intOf]; omega
            | none =>
              obtain ⟨dh, hdh⟩ := Option.isSome_iff_exists.1 hrw
              have hdv := hOK'.out.vals hd dh hdh
              have hml := hOK'.out.le
              have hd0 : 0 ≤ dh := hdv.1
              have hd1 : dh < 100001 := by omega
              have e : farStep hd (M', l') q = (mput M' q (dh + 1), l' ++ [q]) := by unfold farStep; simp [hmq, hdh]
              rw [e] at hnew hst hlf
              have ch := hQ'.out.cell (j := 0) (u := .int .u64 hd) (by rw [ht']; rfl)
              rw [Nat.add_zero] at ch
              have hl2 : n2 ≤ 200001 := by have h1 := hK'.out; have h2 := hl'.out; unfold farLeft at h1; omega
              have HMQ := Lib.hid hmq; clear hmq hrw hdv hml
              have HDH := Lib.hid hdh; clear hdh
              have HST := Lib.hid hst; clear hst
              have HLF := Lib.hid hlf; clear hlf
              have HT' := Lib.hid ht'; clear ht' e
              have hbl := cell_lt cj
              have hog := hO'.out b ob rfl
              have hgs := hQ'.out.lt
              go_wp2_with (first | (at_lookup; refine wpl_look_none rfl true _ _ 102 3 rfl keyU Try.underlying102 _ (fun W => zeroInt W) rfl q rfl hM'.out HMQ.out ?_) | (at_lookup; refine wpl_look_some rfl false _ _ 102 3 rfl keyU Try.underlying102 rfl hd rfl hM'.out HDH.out ?_; intro u hu; unfold intIs at hu; subst hu) | (at_mapUpdate; refine wpl_store (R := intIs) rfl _ _ _ 102 3 rfl keyU ints_onCells Try.underlying102 rfl q rfl _ rfl hM'.out (v := dh + 1) rfl ?_; intro w7 hm7 hg7 hz7; have HM7 := Lib.hid hm7; clear hm7; have HB7 := Lib.hid (But.of_grown hg7); clear hg7; have HQ7 := Lib.hid (hQ'.out.but HB7.out (Ne.symm hmg)); have HZ7 := Lib.hid hz7; clear hz7; have hms : m < w7.heap.size := HM7.out.lt) | (at_builtin; refine wpl_que_append rfl _ _ 50 rfl _ 8 Try.underlying50 infoU64 rfl rfl (HQ7.out.below (bel_al0 (Below.refl _ w7) _)) ⟨w7.heap.size, 0, none⟩ 1 (.int .u64 q) rfl (by rw [add_pl']; exact cell_at_new w7 _ _ 0 rfl) rfl (by unfold maxLen; omega) (by omega) (by simp; omega) ?_; intro g8 off8 cap8 w8 hQ8 hb8 hg8))
              have hB8 : Below w.heap.size w w8 := by
                have h1 : Below w.heap.size w w7 := But.below hB' (Nat.le_refl _) hmw HB7.out
                have h2 := bel_al0 h1 (.cells #[.int .u64 q] 24)
                exact But.below h2 (Nat.le_refl _) (by have := hQ'.out.base; omega) hb8
              have hal : Below w7.heap.size w7 (w7.alloc (.cells #[.int .u64 q] 24)) := by (repeat (first | (with_reducible exact Below.refl _ _) | (with_reducible assumption) | (with_reducible refine bel_al0 ?_ _) | (with_reducible refine bel_set ?_ (by first | (simp; done) | (simp; omega)) _) | (with_reducible refine bel_dr ?_) | (with_reducible refine bel_drn ?_ _) | (with_reducible refine bel_tr ?_ (by assumption))))
              have hM8 : Hid (MapIs (Value.int .u64) intIs w8 m (mput M' q (dh + 1))) := MapIs.but_ints (HM7.out.below ints_onCells hal) hmg hb8
              have hQ9 : Hid (Que w8 (m + 1) 24 g8 off8 (n2 + 1) cap8 (nums (l' ++ [q]))) := by
                show Que _ _ _ _ _ _ _ _
                rw [nums_app]; exact hQ8
              have hF8 : Hid (Flat w8 (some ⟨b, ob, none⟩) (nums ps)) := by
                obtain ⟨o9, ho9, hoc9⟩ := hM'.out.notCells
                exact flat_butb ((hF'.out.cells (HB7.out.cells ho9 hoc9)).below hal) hog hb8
              have hO8 : Hid (∀ b' off', some (⟨b, ob, none⟩ : Addr) = some ⟨b', off', none⟩ → b' ≠ g8) := by
                show ∀ b' off', some (⟨b, ob, none⟩ : Addr) = some ⟨b', off', none⟩ → b' ≠ g8
                intro b' off9 e
                simp only [Option.some.injEq, Addr.mk.injEq, and_true] at e
                rw [← e.1]
                have h3 := hal.size
                have h4 := HB7.out.size
                have h5 : b < wr.heap.size := hbl
                rcases hg8 with h | h
                · rw [h]; exact hog
                · omega
              have hmg8 : m ≠ g8 := by have := hQ8.base; omega
              have hcap8 := hQ8.le
              have hK8 : Hid (farLeft L (mput M' q (dh + 1)) (l' ++ [q]) ≤ f + 1) := Nat.le_trans HLF.out hK'.out
              have hl8 : Hid ((l' ++ [q]).length = n2 + 1) := by show _ = _; rw [List.length_append, hl'.out]; rfl
              have hh8 : Hid (∃ t', l' ++ [q] = hd :: t') := ⟨t' ++ [q], by rw [HT'.out]; rfl⟩
              have hST8 : Hid (FarOk L (mput M' q (dh + 1)) (l' ++ [q])) := HST.out
              clear hQ8 hb8 hg8
              go_roundw
              case rel => exact ⟨i + 1, g8, off8, n2 + 1, cap8, l' ++ [q], mput M' q (dh + 1), by omega, by go_num, rfl, by omega, hcap8, hmg8, hl8, hQ9, hM8, hST8, hK8, hnew, hh8, hF8, hO8, hB8⟩
              case measure => simp [intOf]; omega
          · have hin : i = np := by omega
            have htk : ps.take i = ps := by rw [List.take_of_length_le]; rw [← HNP.out]; omega
            have hfo := hfold.out
            rw [htk] at hfo
            have hRun' := hRun.out
            rw [hfo] at hRun'
            obtain ⟨t', ht'⟩ := hhd.out
            subst ht'
            obtain ⟨n3, rfl⟩ : ∃ n3, n2 = n3 + 1 := ⟨n2 - 1, by omega⟩
            have HQT := Lib.hid (hQ'.out.tail (x := .int .u64 hd) (xs := nums t'))
            have HOKT : Hid (FarOk L M' t') := ⟨hOK'.out.vals, fun y hy => hOK'.out.row y (List.mem_cons_of_mem _ hy), hOK'.out.nodup⟩
            have HLT : Hid (t'.length = n3) := by have := hl'.out; show _ = _; simp at this; exact this
            have HKT : Hid (farLeft L M' t' ≤ f) := by have := hK'.out; show _ ≤ _; unfold farLeft at *; simp at this; omega
            have HRT : Hid (RES = farRun L f M' t') := hRun'
            clear hfo hRun' htk
            by_cases hc1 : cap' = 1
            · rw [if_pos hc1] at HQT
              obtain rfl : n3 = 0 := by omega
              subst hc1
              go_wp2
              go_roundg f
              case rel => exact ⟨g', off', 0, 0, t', M', rfl, by omega, HLT, HQT, hM', HOKT, HKT, HRT, hB'⟩
              case measure => omega
            · rw [if_neg hc1] at HQT
              go_wp2
              go_roundg f
              case rel => exact ⟨g', off' + 1, n3, cap' - 1, t', M', rfl, by omega, HLT, HQT, hM', HOKT, HKT, HRT, hB'⟩
              case measure => omega
end Go.Proofs.Ytehneliphhgegaa
