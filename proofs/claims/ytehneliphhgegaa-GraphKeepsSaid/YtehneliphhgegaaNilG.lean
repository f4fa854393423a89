/- A graph that somebody made, or nobody: what Get and Ids tell. · Reach: for a graph that somebody made, or nobody. Written by nilport.py out of XReach. · Is: for a graph that somebody made, or nobody. Written by nilport.py out of XIs. · Bases: for a graph that somebody made, or nobody. Written by nilport.py out of XBases. · Base2: for a graph that somebody made, or nobody. Written by nilport.py out of XBase2. -/
import Derived.Test.YtehneliphhgegaaIds
import Derived.Test.YtehneliphhgegaaReach
import Derived.Test.YtehneliphhgegaaIsAll
section
set_option linter.unusedVariables false
set_option linter.unusedSimpArgs false
set_option maxRecDepth 100000
namespace Go.Proofs.Ytehneliphhgegaa
open Go.RowKit Go.Apo Go.Shelf
attribute [local go_sem] Oper.semAt_some

def GP (w : World) (gq : Option Addr) (L : List (Int × CommitD)) : Prop := (∃ p m, gq = some ⟨p, 0, none⟩ ∧ GraphAt w p m L) ∨ (gq = none ∧ L = [])
theorem GP.below {w w' : World} {gq : Option Addr} {L : List (Int × CommitD)} (h : GP w gq L) (hb : Below w.heap.size w w') : GP w' gq L := by
  rcases h with ⟨p, m, rfl, h⟩ | ⟨rfl, rfl⟩
  · exact Or.inl ⟨p, m, rfl, h.below hb⟩
  · exact Or.inr ⟨rfl, rfl⟩
theorem GraphAt.gp {w : World} {p m : Nat} {L : List (Int × CommitD)} (h : GraphAt w p m L) : GP w (some ⟨p, 0, none⟩) L := Or.inl ⟨p, m, rfl, h⟩
theorem GP.nil (w : World) : GP w none [] := Or.inr ⟨rfl, rfl⟩
theorem gget_nil (w : World) (i : Int) : Calls Try.prog 44 #[.pointer none, .int .u64 i] w (GetOwn w CommitD.zero false) := by
  go_enter Try.func44, Try.ntmps44
  go_wp2_with (go_at_call 82; refine (gok_nil _).mono ?_; rintro e w' ⟨rfl, rfl⟩)
  refine bodyPost_ret (v := .tuple #[.agg #[.int .u64 0, .slice none 0 0, .int .u64 0, .int .u64 0, .string ⟨#[]⟩], .bool false]) ?_ rfl ?_
  · simp [results, Try.results44, go_sem]
  · exact ⟨none, 0, rfl, World.ownsRow_nil _ _ _ _, by (repeat (first | (with_reducible exact Below.refl _ _) | (with_reducible assumption) | (with_reducible refine bel_al0 ?_ _) | (with_reducible refine bel_set ?_ (by first | (simp; done) | (simp; omega)) _) | (with_reducible refine bel_dr ?_) | (with_reducible refine bel_drn ?_ _) | (with_reducible refine bel_tr ?_ (by assumption))))⟩
theorem gp_get (gq : Option Addr) (w : World) (L : List (Int × CommitD)) (h : GP w gq L) (i : Int) :
    Calls Try.prog 44 #[.pointer gq, .int .u64 i] w (GetOwn w (gGet L i) (mget L i).isSome) := by
  rcases h with ⟨p, m, rfl, h⟩ | ⟨rfl, rfl⟩
  · exact gget_calls p m w L h i
  · exact gget_nil w i
theorem ids1_nil (n : Nat) (hn : 1 ≤ n) (w : World) (Bg : Nat) (hc : w.cell? ⟨Bg, 0, none⟩ = some (.pointer none)) :
    SeqFresh Fence.wide n Try.prog 110 #[.pointer (some ⟨Bg, 0, none⟩)] (fun x : Int => #[Value.int .u64 x]) (fun xs => xs = sortI (mkeys ([] : List (Int × CommitD)))) (fun pre => pre <+: sortI (mkeys ([] : List (Int × CommitD)))) 0 w := by
  intro l J Jx W hW hJ hJx hY h0
  show CallsIn Fence.wide n Try.prog _ #[.func (.yield l) #[] #[], .pointer (some ⟨Bg, 0, none⟩)] W _
  have hcW := cell_bel hc hW
  have H0 := Lib.hid h0; clear h0
  have HJ := Lib.hid hJ; clear hJ
  clear hJx hY
  have f1 : Fence.wide.fn 82 := trivial
  refine callsIn_of_wp Try.func110 rfl trivial ?_ rfl
  simp only [Try.ntmps110, List.size_toArray, List.length_cons, List.length_nil, Nat.reduceAdd, Nat.reduceSub, Array.replicate_succ, Array.replicate_zero, List.push_toArray, List.append_toArray, List.nil_append, List.cons_append]
  gi_wp2_with (gi_at_call 82; refine (callsIn_wide.2 (gok_nil _)).mono ?_; rintro e w' ⟨rfl, rfl⟩)
  refine bodyPost_ret (results_none rfl _ _ _) rfl ?_
  exact ⟨⟨_, rfl⟩, .inl ⟨W.heap.size, [], by simp [mkeys, sortI], H0.out _ (Nat.le_refl _)⟩⟩
namespace N
theorem ids1_fresh (n : Nat) (hn : 1 ≤ n) (w : World) (Bg : Nat) (gq : Option Addr) (L : List (Int × CommitD)) (hc : w.cell? ⟨Bg, 0, none⟩ = some (.pointer gq)) (h : GP w gq L) (hL : L.length ≤ 1000000) (hw : numsIn (mkeys L)) :
    SeqFresh Fence.wide n Try.prog 110 #[.pointer (some ⟨Bg, 0, none⟩)] (fun x : Int => #[Value.int .u64 x]) (fun xs => xs = sortI (mkeys L)) (fun pre => pre <+: sortI (mkeys L)) L.length w := by
  rcases h with ⟨p, m, rfl, h⟩ | ⟨rfl, rfl⟩
  · exact Go.Proofs.Ytehneliphhgegaa.ids1_fresh n hn w Bg p m L hc h hL hw
  · exact ids1_nil n hn w Bg hc
end N
end Go.Proofs.Ytehneliphhgegaa
end
section
set_option linter.unusedVariables false
set_option linter.unusedSimpArgs false
set_option maxRecDepth 100000
namespace Go.Proofs.Ytehneliphhgegaa.N
open Go.RowKit Go.Apo Go.Shelf
attribute [local go_sem] Oper.semAt_some
set_option maxHeartbeats 4000000 in
theorem reach_calls (w : World) (gq : Option Addr) (L : List (Int × CommitD)) (h : GP w gq L) (hO : LOk L) (hL : L.length ≤ 100000) (A : Option Addr) (n k : Nat) (ids : List Int) (hn : ids.length = n) (hf : Flat w A (nums ids)) (hA : A = none → ids = []) (hn2 : n ≤ 100000) :
    Calls Try.prog 85 #[.pointer gq, .slice A n k] w (ReachPost w (reachS L ids)) := by
  subst hn
  obtain ⟨RES, hRES⟩ : ∃ RES, RES = reachS L ids := ⟨_, rfl⟩
  rw [← hRES]
  unfold reachS at hRES
  have hmm := @run_makeMap Try.prog
  have HG := Lib.hid (fun W (hW : GP W gq L) i => gp_get gq W L hW i)
  have H := Lib.hid h; clear h
  have HO := Lib.hid hO; clear hO
  have HC := Lib.hid (fun W hW => clone_calls W A k ids hW (by omega) hA); clear hA
  have HF := Lib.hid hf; clear hf
  have HR0 := Lib.hid hRES; clear hRES
  obtain ⟨n, hn⟩ : ∃ n, n = ids.length := ⟨_, rfl⟩
  unfold ClonePost at HC
  rw [← hn] at HC HR0 hn2 ⊢
  have HN := Lib.hid hn; clear hn
  have hB0 : Below w.heap.size w (w.alloc (.map #[] 0)) := by (repeat (first | (with_reducible exact Below.refl _ _) | (with_reducible assumption) | (with_reducible refine bel_al0 ?_ _) | (with_reducible refine bel_set ?_ (by first | (simp; done) | (simp; omega)) _) | (with_reducible refine bel_dr ?_) | (with_reducible refine bel_drn ?_ _) | (with_reducible refine bel_tr ?_ (by assumption))))
  have hm0 := Lib.hid (mapIs_made (Value.int .u64) boolIs w)
  obtain ⟨m, hm⟩ : ∃ m, m = w.heap.size := ⟨_, rfl⟩
  go_enter Try.func85, Try.ntmps85
  go_wp2_with (go_at_call 109; refine (HC.out _ (HF.out.below hB0)).mono ?_; rintro e w1 ⟨v, rfl, ho1, hb1⟩)
  have hb01 : Below w.heap.size w w1 := bel_tr hB0 hb1
  have hM1 := Lib.hid (hm0.out.below bools_onCells hb1)
  obtain ⟨A1, c1, rfl, hcap1⟩ := own_form ho1
  have hQ1 : Hid (QV w1 (m + 1) A1 n c1 ids) := by
    show QV _ _ _ _ _ _
    rcases Nat.eq_zero_or_pos n with h0 | h0
    · exact Or.inl h0
    · obtain ⟨g, cap, e, hq⟩ := Que.of_own (k := 0) ho1 h0
      simp only [Value.slice.injEq] at e
      obtain ⟨rfl, _, rfl⟩ := e
      exact Or.inr ⟨g, 0, rfl, hq.mono (by simp; omega)⟩
  clear ho1 hb1 hm0
  rw [← hm] at hM1 ⊢
  have HMM := Lib.hid hm; clear hm
  go_loopg [6, 7, 8] (3 * L.length + n) (fun gk v6 _ _ wr => ∃ (A n cap : _) (l : List Int) (S : List (Int × Unit)), v6 = .slice A n cap ∧ n ≤ cap ∧ gk ≤ 400000 ∧ Hid (l.length = n) ∧ Hid (QV wr (m + 1) A n cap l) ∧ Hid (MapIs (Value.int .u64) boolIs wr m S) ∧ Hid (SOk L S) ∧ Hid (reachLeft L S l ≤ gk) ∧ Hid (RES = reachRun L gk S l) ∧ Below w.heap.size w wr)
  case atStart => exact ⟨A1, n, c1, ids, [], rfl, hcap1, by omega, HN.out.symm, hQ1, hM1, ⟨fun k hk => by simp [mkeys] at hk, List.nodup_nil⟩, (by show reachLeft L [] ids ≤ _; unfold reachLeft; rw [HN.out]; simp), HR0.out, hb01⟩
  case round =>
    obtain ⟨A, n, cap, l, S, rfl, hcap, hl, hn, hQ, hM, hS, hK, hR, hB⟩ := hrel
    cases l with
    | nil =>
      obtain rfl : n = 0 := hn.out.symm
      have hR2 : RES = S := by rw [hR.out]; cases gk <;> rfl
      subst hR2
      go_wp2
      go_ret
      exact ⟨m, rfl, hM.out, hB, by have := HMM.out; omega⟩
    | cons hd t =>
      obtain ⟨n', rfl⟩ : ∃ n', n = n' + 1 := ⟨t.length, hn.out.symm⟩
      have hk1 : 1 ≤ gk := by have := hK.out; unfold reachLeft at this; simp at this; omega
      obtain ⟨f, rfl⟩ : ∃ f, gk = f + 1 := ⟨gk - 1, by omega⟩
      obtain ⟨g, off, rfl, hq⟩ : ∃ g off, A = some ⟨g, off, none⟩ ∧ Que wr (m + 1) 24 g off (n' + 1) cap (nums (hd :: t)) := by
        rcases hQ.out with h0 | h0
        · omega
        · exact h0
      clear hQ
      have c0 := hq.cell (j := 0) (u := .int .u64 hd) rfl
      rw [Nat.add_zero] at c0
      have hgl := hq.lt
      have hgm : m < g := by have := hq.base; omega
      have HQT := Lib.hid (hq.tail (x := .int .u64 hd) (xs := nums t))
      clear hq
      have HG2 := Lib.hid (HG.out _ (H.out.below hB) hd)
      have hn3 : n' + 1 ≤ 400000 := by have := hK.out; have := hn.out; unfold reachLeft at *; omega
      have HLT : Hid (t.length = n') := by have := hn.out; show _ = _; simp at this; exact this
      cases hq : mget L hd with
      | none =>
        have hRun : Hid (RES = reachRun L f S t) := by
          have := hR.out
          simp only [reachRun, hq] at this
          exact this
        have HKT : Hid (reachLeft L S t ≤ f) := by have := hK.out; show _ ≤ _; unfold reachLeft at *; simp at this; omega
        have hg2 : Calls Try.prog 44 #[.pointer gq, .int .u64 hd] wr (GetOwn wr CommitD.zero false) := by
          have := HG2.out
          unfold gGet at this
          rw [hq] at this
          exact this
        have HG3 := Lib.hid hg2; clear hg2 HG2 hq hR
        by_cases hc1 : cap = 1
        · rw [if_pos hc1] at HQT
          obtain rfl : n' = 0 := by omega
          subst hc1
          go_wp2_with (go_at_call 44; refine HG3.out.mono ?_; rintro e w5 ⟨A5, k5, rfl, ho5, hb5⟩; clear ho5)
          go_roundg f
          case rel => exact ⟨some ⟨g, off, none⟩, 0, 0, t, S, rfl, Nat.le_refl _, by omega, HLT, Or.inl rfl, hM.out.below bools_onCells (bel_al0 hb5 _), hS, HKT, hRun, by (repeat (first | (with_reducible exact Below.refl _ _) | (with_reducible assumption) | (with_reducible refine bel_al0 ?_ _) | (with_reducible refine bel_set ?_ (by first | (simp; done) | (simp; omega)) _) | (with_reducible refine bel_dr ?_) | (with_reducible refine bel_drn ?_ _) | (with_reducible refine bel_tr ?_ (by assumption))))⟩
          case measure => omega
        · rw [if_neg hc1] at HQT
          go_wp2_with (go_at_call 44; refine HG3.out.mono ?_; rintro e w5 ⟨A5, k5, rfl, ho5, hb5⟩; clear ho5)
          go_roundg f
          case rel => exact ⟨some ⟨g, off + 1, none⟩, n', cap - 1, t, S, rfl, by omega, by omega, HLT, Or.inr ⟨g, off + 1, rfl, HQT.out.below (bel_al0 hb5 _)⟩, hM.out.below bools_onCells (bel_al0 hb5 _), hS, HKT, hRun, by (repeat (first | (with_reducible exact Below.refl _ _) | (with_reducible assumption) | (with_reducible refine bel_al0 ?_ _) | (with_reducible refine bel_set ?_ (by first | (simp; done) | (simp; omega)) _) | (with_reducible refine bel_dr ?_) | (with_reducible refine bel_drn ?_ _) | (with_reducible refine bel_tr ?_ (by assumption))))⟩
          case measure => omega
      | some c =>
        have hid := HO.out.ids hd c hq
        have htwo := HO.out.two hd c hq
        have hg2 : Calls Try.prog 44 #[.pointer gq, .int .u64 hd] wr (GetOwn wr c true) := by
          have := HG2.out
          unfold gGet at this
          rw [hq] at this
          exact this
        have HG3 := Lib.hid hg2; clear hg2 HG2
        have hLs : (mget L c.id).isSome := by rw [hid, hq]; rfl
        have hR' := hR.out
        simp only [reachRun, hq] at hR'
        clear hR hid hq
        cases hmq : mget S c.id with
        | some u =>
          rw [hmq] at hR'
          have hRun : Hid (RES = reachRun L f S t) := hR'
          have HKT : Hid (reachLeft L S t ≤ f) := by have := hK.out; show _ ≤ _; unfold reachLeft at *; simp at this; omega
          have HMQ := Lib.hid hmq; clear hmq hR'
          by_cases hc1 : cap = 1
          · rw [if_pos hc1] at HQT
            obtain rfl : n' = 0 := by omega
            subst hc1
            go_wp2_with (first | (go_at_call 44; refine HG3.out.mono ?_; rintro e w5 ⟨A5, k5, rfl, ho5, hb5⟩; clear ho5; have hM5 := Lib.hid (hM.out.below bools_onCells (bel_al0 hb5 (.cells #[.int .u64 c.id, .slice A5 c.par.length k5, .int .u64 c.gen, .int .u64 c.root, .string c.text] 69)))) | (at_lookup; refine wplw_look_some rfl false _ _ 117 4 rfl keyU Try.underlying117 rfl c.id rfl hM5.out HMQ.out ?_; intro u hu; unfold boolIs at hu; subst hu))
            go_roundg f
            case rel => exact ⟨some ⟨g, off, none⟩, 0, 0, t, S, rfl, Nat.le_refl _, by omega, HLT, Or.inl rfl, hM5, hS, HKT, hRun, by (repeat (first | (with_reducible exact Below.refl _ _) | (with_reducible assumption) | (with_reducible refine bel_al0 ?_ _) | (with_reducible refine bel_set ?_ (by first | (simp; done) | (simp; omega)) _) | (with_reducible refine bel_dr ?_) | (with_reducible refine bel_drn ?_ _) | (with_reducible refine bel_tr ?_ (by assumption))))⟩
            case measure => omega
          · rw [if_neg hc1] at HQT
            go_wp2_with (first | (go_at_call 44; refine HG3.out.mono ?_; rintro e w5 ⟨A5, k5, rfl, ho5, hb5⟩; clear ho5; have hM5 := Lib.hid (hM.out.below bools_onCells (bel_al0 hb5 (.cells #[.int .u64 c.id, .slice A5 c.par.length k5, .int .u64 c.gen, .int .u64 c.root, .string c.text] 69)))) | (at_lookup; refine wplw_look_some rfl false _ _ 117 4 rfl keyU Try.underlying117 rfl c.id rfl hM5.out HMQ.out ?_; intro u hu; unfold boolIs at hu; subst hu))
            go_roundg f
            case rel => exact ⟨some ⟨g, off + 1, none⟩, n', cap - 1, t, S, rfl, by omega, by omega, HLT, Or.inr ⟨g, off + 1, rfl, HQT.out.below (bel_al0 hb5 _)⟩, hM5, hS, HKT, hRun, by (repeat (first | (with_reducible exact Below.refl _ _) | (with_reducible assumption) | (with_reducible refine bel_al0 ?_ _) | (with_reducible refine bel_set ?_ (by first | (simp; done) | (simp; omega)) _) | (with_reducible refine bel_dr ?_) | (with_reducible refine bel_drn ?_ _) | (with_reducible refine bel_tr ?_ (by assumption))))⟩
            case measure => omega
        | none =>
          rw [hmq] at hR'
          have hRun : Hid (RES = reachRun L f (mput S c.id ()) (t ++ c.par)) := hR'
          have hS2 := hS.out.put hLs
          have hle := hS2.le
          have hml := mput_len hmq
          have HKT : Hid (reachLeft L (mput S c.id ()) (t ++ c.par) ≤ f) := by
            have := hK.out; show _ ≤ _; unfold reachLeft at *; rw [hml]; rw [hml] at hle; simp at this ⊢; omega
          have HS2 := Lib.hid hS2; clear hS2 hle hml
          have HMQ := Lib.hid hmq; clear hmq hR' hLs
          obtain ⟨np, hnp⟩ : ∃ np, np = c.par.length := ⟨_, rfl⟩
          unfold GetOwn at HG3
          rw [← hnp] at HG3 htwo
          have HNP := Lib.hid hnp; clear hnp
          have HLA : Hid ((t ++ c.par).length = n' + np) := by show _ = _; rw [List.length_append, HLT.out, HNP.out]
          by_cases hc1 : cap = 1
          · rw [if_pos hc1] at HQT
            obtain rfl : n' = 0 := by omega
            subst hc1
            go_wp2_with (first
              | (go_at_call 44; refine HG3.out.mono ?_; rintro e w5 ⟨A5, k5, rfl, ho5, hb5⟩; have hb6 : Below wr.heap.size wr (w5.alloc (.cells #[.int .u64 c.id, .slice A5 np k5, .int .u64 c.gen, .int .u64 c.root, .string c.text] 69)) := bel_al0 hb5 _; have hM5 := Lib.hid (hM.out.below bools_onCells hb6); have hQ5 := Lib.hid (HQT.out.below hb6); have hF5 := Lib.hid ((own_flat ho5).below (bel_al0 (Below.refl _ w5) (.cells #[.int .u64 c.id, .slice A5 np k5, .int .u64 c.gen, .int .u64 c.root, .string c.text] 69))); clear ho5; have hz5 := hb5.size; have hB5 := Lib.hid (bel_tr hB hb6); clear hb6)
              | (at_lookup; refine wplw_look_none rfl false _ _ 117 4 rfl keyU Try.underlying117 _ (fun W => zeroBool W) rfl c.id rfl hM5.out HMQ.out ?_)
              | (at_mapUpdate; refine wpl_store (R := boolIs) rfl _ _ _ 117 4 rfl keyU bools_onCells Try.underlying117 rfl c.id rfl _ rfl hM5.out (v := ()) rfl ?_; intro w7 hm7 hg7 hz7; have HM7 := Lib.hid hm7; clear hm7; have HB7 := Lib.hid (But.of_grown hg7); clear hg7; have HQ7 := Lib.hid (hQ5.out.but HB7.out (by omega)); obtain ⟨o9, ho9, hoc9⟩ := hM5.out.notCells; have HF7 := Lib.hid (hF5.out.cells (HB7.out.cells ho9 hoc9)); have B7 := HB7.out.cells ho9 hoc9 w5.heap.size _ (MapKept.heap_alloc w5 _).1 rfl; obtain ⟨x0, x1, x2, x3, x4, xf⟩ := Blk.five B7; have hz7' : w5.heap.size < w7.heap.size := (by simp at hz7; omega); clear ho9 hoc9 B7; have hms : m < w7.heap.size := HM7.out.lt; have HZ7 := Lib.hid hz7; clear hz7)
              | (at_builtin; refine wpl_que_appends rfl _ _ 50 rfl _ 8 Try.underlying50 infoU64 rfl rfl HQ7.out A5 np k5 (nums c.par) rfl (by rw [nums_len]; exact HNP.out.symm) HF7.out (nums_one _) (by unfold maxLen; omega) (by omega) (by omega) ?_; intro g8 off8 cap8 w8 hQ8 hb8 hg8))
            have hM8 : Hid (MapIs (Value.int .u64) boolIs w8 m (mput S c.id ())) := MapIs.but_bools HM7.out (by omega) hb8
            have hB8 : Below w.heap.size w w8 := But.below (But.below hB5.out (Nat.le_refl _) (by have := HMM.out; omega) HB7.out) (Nat.le_refl _) (by have := HMM.out; omega) hb8
            rw [Nat.zero_add] at hQ8
            have hcap8 := hQ8.le
            rw [← nums_app] at hQ8
            have HQ8 := Lib.hid hQ8; clear hQ8 hb8 hg8
            have hla := HLA.out
            rw [Nat.zero_add] at hla
            have HLA2 := Lib.hid hla; clear hla
            go_roundg f
            case rel => exact ⟨some ⟨g8, off8, none⟩, np, cap8, t ++ c.par, mput S c.id (), rfl, hcap8, by omega, HLA2, Or.inr ⟨g8, off8, rfl, HQ8.out⟩, hM8, HS2, HKT, hRun, hB8⟩
            case measure => omega
          · rw [if_neg hc1] at HQT
            go_wp2_with (first
              | (go_at_call 44; refine HG3.out.mono ?_; rintro e w5 ⟨A5, k5, rfl, ho5, hb5⟩; have hb6 : Below wr.heap.size wr (w5.alloc (.cells #[.int .u64 c.id, .slice A5 np k5, .int .u64 c.gen, .int .u64 c.root, .string c.text] 69)) := bel_al0 hb5 _; have hM5 := Lib.hid (hM.out.below bools_onCells hb6); have hQ5 := Lib.hid (HQT.out.below hb6); have hF5 := Lib.hid ((own_flat ho5).below (bel_al0 (Below.refl _ w5) (.cells #[.int .u64 c.id, .slice A5 np k5, .int .u64 c.gen, .int .u64 c.root, .string c.text] 69))); clear ho5; have hz5 := hb5.size; have hB5 := Lib.hid (bel_tr hB hb6); clear hb6)
              | (at_lookup; refine wplw_look_none rfl false _ _ 117 4 rfl keyU Try.underlying117 _ (fun W => zeroBool W) rfl c.id rfl hM5.out HMQ.out ?_)
              | (at_mapUpdate; refine wpl_store (R := boolIs) rfl _ _ _ 117 4 rfl keyU bools_onCells Try.underlying117 rfl c.id rfl _ rfl hM5.out (v := ()) rfl ?_; intro w7 hm7 hg7 hz7; have HM7 := Lib.hid hm7; clear hm7; have HB7 := Lib.hid (But.of_grown hg7); clear hg7; have HQ7 := Lib.hid (hQ5.out.but HB7.out (by omega)); obtain ⟨o9, ho9, hoc9⟩ := hM5.out.notCells; have HF7 := Lib.hid (hF5.out.cells (HB7.out.cells ho9 hoc9)); have B7 := HB7.out.cells ho9 hoc9 w5.heap.size _ (MapKept.heap_alloc w5 _).1 rfl; obtain ⟨x0, x1, x2, x3, x4, xf⟩ := Blk.five B7; have hz7' : w5.heap.size < w7.heap.size := (by simp at hz7; omega); clear ho9 hoc9 B7; have hms : m < w7.heap.size := HM7.out.lt; have HZ7 := Lib.hid hz7; clear hz7)
              | (at_builtin; refine wpl_que_appends rfl _ _ 50 rfl _ 8 Try.underlying50 infoU64 rfl rfl HQ7.out A5 np k5 (nums c.par) rfl (by rw [nums_len]; exact HNP.out.symm) HF7.out (nums_one _) (by unfold maxLen; omega) (by omega) (by omega) ?_; intro g8 off8 cap8 w8 hQ8 hb8 hg8))
            have hM8 : Hid (MapIs (Value.int .u64) boolIs w8 m (mput S c.id ())) := MapIs.but_bools HM7.out (by omega) hb8
            have hB8 : Below w.heap.size w w8 := But.below (But.below hB5.out (Nat.le_refl _) (by have := HMM.out; omega) HB7.out) (Nat.le_refl _) (by have := HMM.out; omega) hb8
            have hcap8 := hQ8.le
            rw [← nums_app] at hQ8
            have HQ8 := Lib.hid hQ8; clear hQ8 hb8 hg8
            go_roundg f
            case rel => exact ⟨some ⟨g8, off8, none⟩, n' + np, cap8, t ++ c.par, mput S c.id (), rfl, hcap8, by omega, HLA, Or.inr ⟨g8, off8, rfl, HQ8.out⟩, hM8, HS2, HKT, hRun, hB8⟩
            case measure => omega
end Go.Proofs.Ytehneliphhgegaa.N
end
section
set_option linter.unusedVariables false
set_option linter.unusedSimpArgs false
set_option maxRecDepth 100000
namespace Go.Proofs.Ytehneliphhgegaa.N
open Go.RowKit Go.Apo Go.Shelf
attribute [local go_sem] Oper.semAt_some
theorem is_calls (w : World) (gq : Option Addr) (L : List (Int × CommitD)) (h : GP w gq L) (hO : LOk L) (hL : L.length ≤ 100000) (old late : Int) :
    Calls Try.prog 50 #[.pointer gq, .int .u64 old, .int .u64 late] w fun e w' => e = .returned (.bool (isB L old late)) ∧ Below w.heap.size w w' := by
  have HR := Lib.hid (reach_calls (w.alloc (.cells #[.int .u64 late] 24)) gq L (h.below (by (repeat (first | (with_reducible exact Below.refl _ _) | (with_reducible assumption) | (with_reducible refine bel_al0 ?_ _) | (with_reducible refine bel_set ?_ (by first | (simp; done) | (simp; omega)) _) | (with_reducible refine bel_dr ?_) | (with_reducible refine bel_drn ?_ _) | (with_reducible refine bel_tr ?_ (by assumption)))))) hO hL (some ⟨w.heap.size, 0, none⟩) 1 1 [late] rfl (flat_one w late) (fun e => by cases e) (by omega))
  unfold isB
  clear h hO
  obtain ⟨S, hS⟩ : ∃ S, S = reachS L [late] := ⟨_, rfl⟩
  rw [← hS] at HR ⊢
  clear hS
  cases hq : mget S old with
  | none =>
    have HQ := Lib.hid hq; clear hq
    go_enter Try.func50, Try.ntmps50
    go_wp2_with (first | (go_at_call 85; refine HR.out.mono ?_; rintro e w1 ⟨m, rfl, hM, hb1, hm⟩; have HM := Lib.hid hM; clear hM) | (at_lookup; refine wpl_look_none rfl false _ _ 117 4 rfl keyU Try.underlying117 _ (fun W => zeroBool W) rfl old rfl HM.out HQ.out ?_))
    go_ret
    exact ⟨rfl, by (repeat (first | (with_reducible exact Below.refl _ _) | (with_reducible assumption) | (with_reducible refine bel_al0 ?_ _) | (with_reducible refine bel_set ?_ (by first | (simp; done) | (simp; omega)) _) | (with_reducible refine bel_dr ?_) | (with_reducible refine bel_drn ?_ _) | (with_reducible refine bel_tr ?_ (by assumption))))⟩
  | some u =>
    have HQ := Lib.hid hq; clear hq
    go_enter Try.func50, Try.ntmps50
    go_wp2_with (first | (go_at_call 85; refine HR.out.mono ?_; rintro e w1 ⟨m, rfl, hM, hb1, hm⟩; have HM := Lib.hid hM; clear hM) | (at_lookup; refine wpl_look_some rfl false _ _ 117 4 rfl keyU Try.underlying117 rfl old rfl HM.out HQ.out ?_; intro u hu; unfold boolIs at hu; subst hu))
    go_ret
    exact ⟨rfl, by (repeat (first | (with_reducible exact Below.refl _ _) | (with_reducible assumption) | (with_reducible refine bel_al0 ?_ _) | (with_reducible refine bel_set ?_ (by first | (simp; done) | (simp; omega)) _) | (with_reducible refine bel_dr ?_) | (with_reducible refine bel_drn ?_ _) | (with_reducible refine bel_tr ?_ (by assumption))))⟩
theorem Reach_calls (w : World) (gq : Option Addr) (L : List (Int × CommitD)) (h : GP w gq L) (hO : LOk L) (hL : L.length ≤ 100000) (hw : numsIn (mkeys L)) (A : Option Addr) (n k : Nat) (ids : List Int) (hn : ids.length = n) (hf : Flat w A (nums ids)) (hA : A = none → ids = []) (hn2 : n ≤ 100000) :
    Calls Try.prog 59 #[.pointer gq, .slice A n k] w (NumsOwn w (reachL L ids)) := by
  have HR := Lib.hid (reach_calls w gq L h hO hL A n k ids hn hf hA hn2)
  have hle := (reachS_ok hO ids).le
  have HW := Lib.hid (reachS_nums hO hw ids)
  unfold reachL
  obtain ⟨S, hS⟩ : ∃ S, S = reachS L ids := ⟨_, rfl⟩
  rw [← hS] at HR HW hle ⊢
  clear hS h hO hf hA hw hn
  have hlk : (mkeys S).length = S.length := by simp [mkeys]
  have hls : (sortI (mkeys S)).length = S.length := by rw [sortI_len, hlk]
  have HLK := Lib.hid hlk; clear hlk
  unfold NumsOwn
  rw [hls]
  clear hls
  go_enter Try.func59, Try.ntmps59
  go_wp2_with (first | (go_at_call 85; refine HR.out.mono ?_; rintro e w1 ⟨m, rfl, hM, hb1, hm⟩; have HM := Lib.hid hM; clear hM) | (go_at_call 94; refine (keysB_calls _ _).mono ?_; rintro e w' ⟨rfl, rfl⟩) | (go_at_call 93; refine (sortedB_calls _ w1.heap.size (cell_at_new w1 _ _ 0 rfl) (HM.out.below bools_onCells (bel_al0 (Below.refl _ _) _)) (by omega) HW.out).mono ?_; rintro e w2 ⟨v, rfl, ho, hnil, hb2⟩))
  rw [HLK.out] at ho
  have hsz := hb1.size
  go_ret
  exact ⟨v, rfl, own_mono ho (by simp; omega), by (repeat (first | (with_reducible exact Below.refl _ _) | (with_reducible assumption) | (with_reducible refine bel_al0 ?_ _) | (with_reducible refine bel_set ?_ (by first | (simp; done) | (simp; omega)) _) | (with_reducible refine bel_dr ?_) | (with_reducible refine bel_drn ?_ _) | (with_reducible refine bel_tr ?_ (by assumption))))⟩
/-- the closure of below -/
theorem below1_calls (w : World) (gq : Option Addr) (Bi Bg : Nat) (L : List (Int × CommitD)) (h : GP w gq L) (hO : LOk L) (hL : L.length ≤ 100000) (id k : Int) (h1 : w.cell? ⟨Bi, 0, none⟩ = some (.int .u64 id)) (h2 : w.cell? ⟨Bg, 0, none⟩ = some (.pointer gq)) :
    Calls Try.prog 118 #[.int .u64 k, .pointer (some ⟨Bi, 0, none⟩), .pointer (some ⟨Bg, 0, none⟩)] w fun e w' => e = .returned (.bool (!(k == id) && isB L id k)) ∧ Below w.heap.size w w' := by
  have HI := Lib.hid (is_calls w gq L h hO hL id k)
  clear h hO
  obtain ⟨b, hb⟩ : ∃ b, b = isB L id k := ⟨_, rfl⟩
  rw [← hb] at HI ⊢
  clear hb
  have l1 := cell_lt h1
  have l2 := cell_lt h2
  by_cases he : k = id
  · subst he
    have g2 : (!(k == k)) = false := by simp
    rw [g2, Bool.false_and]
    clear g2
    go_enter Try.func118, Try.ntmps118
    go_wp2
    go_ret
    exact ⟨rfl, by (repeat (first | (with_reducible exact Below.refl _ _) | (with_reducible assumption) | (with_reducible refine bel_al0 ?_ _) | (with_reducible refine bel_set ?_ (by first | (simp; done) | (simp; omega)) _) | (with_reducible refine bel_dr ?_) | (with_reducible refine bel_drn ?_ _) | (with_reducible refine bel_tr ?_ (by assumption))))⟩
  · have g2 : (!(k == id)) = true := by simp [he]
    rw [g2, Bool.true_and]
    have g3 : (k != id) = true := by simpa using he
    go_enter Try.func118, Try.ntmps118
    go_wp2_with (go_at_call 50; refine HI.out.mono ?_; rintro e w1 ⟨rfl, hb1⟩)
    go_ret
    exact ⟨rfl, by (repeat (first | (with_reducible exact Below.refl _ _) | (with_reducible assumption) | (with_reducible refine bel_al0 ?_ _) | (with_reducible refine bel_set ?_ (by first | (simp; done) | (simp; omega)) _) | (with_reducible refine bel_dr ?_) | (with_reducible refine bel_drn ?_ _) | (with_reducible refine bel_tr ?_ (by assumption))))⟩
theorem indexB_calls (w : World) (gq : Option Addr) (Bi Bg : Nat) (L : List (Int × CommitD)) (h : GP w gq L) (hO : LOk L) (hL : L.length ≤ 100000) (id : Int) (h1 : w.cell? ⟨Bi, 0, none⟩ = some (.int .u64 id)) (h2 : w.cell? ⟨Bg, 0, none⟩ = some (.pointer gq))
    (A : Option Addr) (n k : Nat) (l : List Int) (hn : l.length = n) (hf : Flat w A (nums l)) (hn2 : n ≤ 100000) :
    Calls Try.prog 113 #[.slice A n k, .func (.func 118) #[] #[.pointer (some ⟨Bi, 0, none⟩), .pointer (some ⟨Bg, 0, none⟩)]] w fun e w' => e = .returned (.int .i64 (firstB (fun k => !(k == id) && isB L id k) l)) ∧ Below w.heap.size w w' := by
  obtain ⟨r, hr⟩ : ∃ r, r = firstB (fun k => !(k == id) && isB L id k) l := ⟨_, rfl⟩
  rw [← hr]
  have HR := Lib.hid hr; clear hr
  have HN := Lib.hid hn; clear hn
  have HF := Lib.hid hf; clear hf
  have HC := Lib.hid (fun W (hW : Below w.heap.size w W) k => below1_calls W gq Bi Bg L (h.below hW) hO hL id k (cell_bel h1 hW) (cell_bel h2 hW))
  clear h hO h1 h2
  go_enter Try.func113, Try.ntmps113
  go_wp2
  go_loopw [8, 5] (fun v _ wr => ∃ j : Nat, j ≤ n ∧ v = .int .i64 j ∧ Hid (∀ q x, q < j → l[q]? = some x → (!(x == id) && isB L id x) = false) ∧ Below w.heap.size w wr) (fun v _ _ => n - (intOf v).toNat)
  case atStart => exact ⟨0, Nat.zero_le _, rfl, fun q _ hq => absurd hq (Nat.not_lt_zero _), by (repeat (first | (with_reducible exact Below.refl _ _) | (with_reducible assumption) | (with_reducible refine bel_al0 ?_ _) | (with_reducible refine bel_set ?_ (by first | (simp; done) | (simp; omega)) _) | (with_reducible refine bel_dr ?_) | (with_reducible refine bel_drn ?_ _) | (with_reducible refine bel_tr ?_ (by assumption))))⟩
  case round =>
    obtain ⟨j, hj, rfl, hok, hB⟩ := hrel
    by_cases hlt : j < n
    · obtain ⟨x, hx⟩ : ∃ x, l[j]? = some x := ⟨_, List.getElem?_eq_getElem (by rw [HN.out]; exact hlt)⟩
      obtain ⟨b, off, rfl, cj⟩ := HF.out.at_ (nums_at hx)
      replace cj := cell_bel cj hB
      have HC2 := Lib.hid (HC.out _ hB x)
      obtain ⟨y, hy⟩ : ∃ y, y = (!(x == id) && isB L id x) := ⟨_, rfl⟩
      rw [← hy] at HC2
      have HX := Lib.hid hx; clear hx
      have HY := Lib.hid hy; clear hy
      cases y with
      | true =>
        have hr : r = j := by
          rw [HR.out]
          unfold firstB
          have : l.findIdx? (fun k => !(k == id) && isB L id k) = some j := by
            rw [List.findIdx?_eq_some_iff_getElem]
            obtain ⟨hk, hc⟩ := List.getElem?_eq_some_iff.1 HX.out
            refine ⟨hk, by rw [hc]; exact HY.out.symm, fun q hq => ?_⟩
            have := hok.out q l[q] hq (List.getElem?_eq_getElem _)
            rw [this]; decide
          rw [this]
        subst hr
        go_wp2_with (go_at_call 118; refine HC2.out.mono ?_; rintro e w1 ⟨rfl, hb1⟩)
        go_ret
        exact ⟨rfl, by (repeat (first | (with_reducible exact Below.refl _ _) | (with_reducible assumption) | (with_reducible refine bel_al0 ?_ _) | (with_reducible refine bel_set ?_ (by first | (simp; done) | (simp; omega)) _) | (with_reducible refine bel_dr ?_) | (with_reducible refine bel_drn ?_ _) | (with_reducible refine bel_tr ?_ (by assumption))))⟩
      | false =>
        go_wp2_with (go_at_call 118; refine HC2.out.mono ?_; rintro e w1 ⟨rfl, hb1⟩)
        go_roundw
        case rel =>
          refine ⟨j + 1, by omega, by go_num, fun q x' hq hq' => ?_, by (repeat (first | (with_reducible exact Below.refl _ _) | (with_reducible assumption) | (with_reducible refine bel_al0 ?_ _) | (with_reducible refine bel_set ?_ (by first | (simp; done) | (simp; omega)) _) | (with_reducible refine bel_dr ?_) | (with_reducible refine bel_drn ?_ _) | (with_reducible refine bel_tr ?_ (by assumption))))⟩
          rcases Nat.lt_or_ge q j with h' | h'
          · exact hok.out q x' h' hq'
          · obtain rfl : q = j := by omega
            rw [HX.out] at hq'; cases hq'; exact HY.out.symm
        case measure => simp [intOf]; omega
    · have hr : r = -1 := by
        rw [HR.out]
        unfold firstB
        have : l.findIdx? (fun k => !(k == id) && isB L id k) = none := by
          rw [List.findIdx?_eq_none_iff]
          intro x hx
          obtain ⟨q, hq⟩ := List.mem_iff_getElem?.1 hx
          exact hok.out q x (by have := (List.getElem?_eq_some_iff.1 hq).1; have := HN.out; omega) hq
        rw [this]
      subst hr
      go_wp2
      go_ret
      exact ⟨rfl, hB⟩
theorem containsB_calls (w : World) (gq : Option Addr) (Bi Bg : Nat) (L : List (Int × CommitD)) (h : GP w gq L) (hO : LOk L) (hL : L.length ≤ 100000) (id : Int) (h1 : w.cell? ⟨Bi, 0, none⟩ = some (.int .u64 id)) (h2 : w.cell? ⟨Bg, 0, none⟩ = some (.pointer gq))
    (A : Option Addr) (n k : Nat) (l : List Int) (hn : l.length = n) (hf : Flat w A (nums l)) (hn2 : n ≤ 100000) :
    Calls Try.prog 117 #[.slice A n k, .func (.func 118) #[] #[.pointer (some ⟨Bi, 0, none⟩), .pointer (some ⟨Bg, 0, none⟩)]] w fun e w' => e = .returned (.bool (belowB L id l)) ∧ Below w.heap.size w w' := by
  have HI := Lib.hid (indexB_calls w gq Bi Bg L h hO hL id h1 h2 A n k l hn hf hn2)
  unfold belowB
  rw [← firstB_any]
  clear h hO h1 h2 hf hn
  obtain ⟨r, hr⟩ : ∃ r, r = firstB (fun k => !(k == id) && isB L id k) l := ⟨_, rfl⟩
  rw [← hr] at HI ⊢
  clear hr
  go_enter Try.func117, Try.ntmps117
  go_wp2_with (go_at_call 113; refine HI.out.mono ?_; rintro e w1 ⟨rfl, hb1⟩)
  go_ret
  exact ⟨rfl, hb1⟩
theorem below_calls (w : World) (gq : Option Addr) (L : List (Int × CommitD)) (h : GP w gq L) (hO : LOk L) (hL : L.length ≤ 100000) (id : Int)
    (A : Option Addr) (n k : Nat) (l : List Int) (hn : l.length = n) (hf : Flat w A (nums l)) (hn2 : n ≤ 100000) :
    Calls Try.prog 92 #[.pointer gq, .int .u64 id, .slice A n k] w fun e w' => e = .returned (.bool (belowB L id l)) ∧ Below w.heap.size w w' := by
  obtain ⟨W, hW⟩ : ∃ W, W = (w.alloc (.cells #[.pointer gq] 42)).alloc (.cells #[.int .u64 id] 24) := ⟨_, rfl⟩
  have hb : Below w.heap.size w ((w.alloc (.cells #[.pointer gq] 42)).alloc (.cells #[.int .u64 id] 24)) := by (repeat (first | (with_reducible exact Below.refl _ _) | (with_reducible assumption) | (with_reducible refine bel_al0 ?_ _) | (with_reducible refine bel_set ?_ (by first | (simp; done) | (simp; omega)) _) | (with_reducible refine bel_dr ?_) | (with_reducible refine bel_drn ?_ _) | (with_reducible refine bel_tr ?_ (by assumption))))
  have c1 : ((w.alloc (.cells #[.pointer gq] 42)).alloc (.cells #[.int .u64 id] 24)).cell? ⟨w.heap.size + 1, 0, none⟩ = some (.int .u64 id) := by
    have := cell_at_new (w.alloc (.cells #[.pointer gq] 42)) #[.int .u64 id] 24 0 (v := .int .u64 id) rfl
    have hz : (w.alloc (.cells #[.pointer gq] 42)).heap.size = w.heap.size + 1 := by simp
    rw [hz] at this
    exact this
  have c2 : ((w.alloc (.cells #[.pointer gq] 42)).alloc (.cells #[.int .u64 id] 24)).cell? ⟨w.heap.size, 0, none⟩ = some (.pointer gq) :=
    cell_al (cell_at_new w #[.pointer gq] 42 0 rfl) _
  have HI := Lib.hid (containsB_calls _ gq (w.heap.size + 1) w.heap.size L (h.below hb) hO hL id c1 c2 A n k l hn (hf.below hb) hn2)
  clear h hO hf hn c1 c2 hW
  obtain ⟨r, hr⟩ : ∃ r, r = belowB L id l := ⟨_, rfl⟩
  rw [← hr] at HI ⊢
  clear hr
  go_enter Try.func92, Try.ntmps92
  go_wp2_with (go_at_call 117; refine HI.out.mono ?_; rintro e w1 ⟨rfl, hb1⟩)
  go_ret
  exact ⟨rfl, bel_tr hb hb1⟩
end Go.Proofs.Ytehneliphhgegaa.N
end
section
set_option linter.unusedVariables false
set_option linter.unusedSimpArgs false
set_option maxRecDepth 100000
namespace Go.Proofs.Ytehneliphhgegaa.N
open Go.RowKit Go.Apo Go.Shelf
attribute [local go_sem] Oper.semAt_some
set_option maxHeartbeats 4000000 in
theorem bases_calls (w : World) (gq : Option Addr) (L : List (Int × CommitD)) (h : GP w gq L) (hO : LOk L) (hL : L.length ≤ 100000) (hw : numsIn (mkeys L)) (a b : Int) :
    Calls Try.prog 57 #[.pointer gq, .int .u64 a, .int .u64 b] w (NumsOwn w (basesL L a b)) := by
  have HR1 := Lib.hid (reach_calls (w.alloc (.cells #[.int .u64 a] 24)) gq L (h.below (by (repeat (first | (with_reducible exact Below.refl _ _) | (with_reducible assumption) | (with_reducible refine bel_al0 ?_ _) | (with_reducible refine bel_set ?_ (by first | (simp; done) | (simp; omega)) _) | (with_reducible refine bel_dr ?_) | (with_reducible refine bel_drn ?_ _) | (with_reducible refine bel_tr ?_ (by assumption)))))) hO hL (some ⟨w.heap.size, 0, none⟩) 1 1 [a] rfl (flat_one w a) (fun e => by cases e) (by omega))
  have HR2 := Lib.hid (fun W (hW : Below w.heap.size w W) => reach_calls (W.alloc (.cells #[.int .u64 b] 24)) gq L (h.below (bel_al0 hW _)) hO hL (some ⟨W.heap.size, 0, none⟩) 1 1 [b] rfl (flat_one W b) (fun e => by cases e) (by omega))
  have hle1 := (reachS_ok hO [a]).le
  have hle2 := (reachS_ok hO [b]).le
  have HW1 := Lib.hid (reachS_nums hO hw [a])
  obtain ⟨X, hX⟩ : ∃ X, X = reachS L [a] := ⟨_, rfl⟩
  obtain ⟨Y, hY⟩ : ∃ Y, Y = reachS L [b] := ⟨_, rfl⟩
  obtain ⟨C, hC⟩ : ∃ C, C = commonL L a b := ⟨_, rfl⟩
  obtain ⟨RES, hRES⟩ : ∃ RES, RES = basesL L a b := ⟨_, rfl⟩
  have hRES' : RES = C.filter fun x => !belowB L x C := by rw [hRES, hC]; rfl
  have hC' : C = sortI ((mkeys X).filter fun x => (mget Y x).isSome) := by rw [hC, hX, hY]; rfl
  rw [← hRES]
  rw [← hX] at HR1 hle1 HW1
  rw [← hY] at HR2 hle2
  clear hRES hC hX hY hw
  have hcl : C.length ≤ 100000 := by
    rw [hC', sortI_len]
    have := List.length_filter_le (fun x => (mget Y x).isSome) (mkeys X)
    simp [mkeys] at this ⊢
    omega
  have HRES := Lib.hid hRES'; clear hRES'
  have HCC := Lib.hid hC'; clear hC'
  have HBL := Lib.hid (fun W (hW : Below w.heap.size w W) id A n k l hn hf hn2 => below_calls W gq L (h.below hW) hO hL id A n k l hn hf hn2)
  clear h hO
  go_enter Try.func57, Try.ntmps57
  have hba : Below w.heap.size w (w.alloc (.cells #[.int .u64 a] 24)) := by (repeat (first | (with_reducible exact Below.refl _ _) | (with_reducible assumption) | (with_reducible refine bel_al0 ?_ _) | (with_reducible refine bel_set ?_ (by first | (simp; done) | (simp; omega)) _) | (with_reducible refine bel_dr ?_) | (with_reducible refine bel_drn ?_ _) | (with_reducible refine bel_tr ?_ (by assumption))))
  go_wp2_with fail
  refine HR1.out.mono ?_
  rintro e w1 ⟨mx, rfl, hM1, hb1, hm1⟩
  have HM1 := Lib.hid hM1; clear hM1
  have hB1 : Below w.heap.size w w1 := bel_tr hba hb1
  clear hba hb1
  go_wp2_with fail
  refine (HR2.out w1 hB1).mono ?_
  rintro e w2 ⟨my, rfl, hM2, hb2, hm2⟩
  have hb12 : Below w1.heap.size w1 w2 := bel_tr (bel_al0 (Below.refl _ w1) _) hb2
  have HMX := Lib.hid (HM1.out.below bools_onCells hb12)
  have HMY := Lib.hid hM2; clear hM2
  have hB2 : Below w.heap.size w w2 := bel_tr hB1 hb12
  clear hb2 hb12 HM1 hB1
  obtain ⟨D0, q1, q2, q3⟩ := mapIs_owns (P := Try.prog) Try.underlying24 HMX.out (by unfold maxLen; omega) HW1.out
  have hmxl := HMX.out.lt
  have hmyl := HMY.out.lt
  obtain ⟨nn, hnn⟩ : ∃ nn, nn = X.length := ⟨_, rfl⟩
  rw [← hnn] at q1 q3
  have HNN := Lib.hid hnn; clear hnn
  have HQ2 := Lib.hid q2; clear q2
  have HQ3 := Lib.hid q3; clear q3
  have HOWN := Lib.hid q1; clear q1
  go_wp2_with (at_range; refine wpList_range_own _ rfl _ 117 rfl 24 4 (Maps.int_keyed Try.underlying24) Try.underlying117 _ mx nn _ rfl HOWN.out ?_; intro w3 hrg3 hg3 hs3)
  go_frame
  obtain ⟨r, hr⟩ : ∃ r, r = w2.heap.size := ⟨_, rfl⟩
  rw [← hr] at hrg3 hs3 ⊢
  have hb23 : Below w2.heap.size w2 w3 := (Below.refl _ w2).grown hg3 (Nat.le_refl _) (fun k e => by cases e)
  have HMY3 := Lib.hid (HMY.out.below bools_onCells hb23)
  have HRR := Lib.hid hr.symm
  have hmyr : my < r := by omega
  have hmxr : mx < r := by omega
  have HRG := Lib.hid hrg3; clear hrg3 hg3 hr
  have hs3' : r + 1 ≤ w3.heap.size := by omega
  have HS3 := Lib.hid hs3; clear hs3
  go_loopw [9, 10] (fun v9 _ wr => BInv w2 mx my r nn D0 Y v9 wr) (fun _ _ wr => wr.rangeLeft mx r)
  case atStart => exact ⟨_, _, [], HRG, CollectedU.start D0, (by show _ ≤ _; simp), World.ownsRow_nil _ _ _ _, HMY3, hb23, hs3'⟩
  case round =>
    obtain ⟨left, cnt, ss, hrg, hCo, hcs, ho, hMY, hB, hsz⟩ := hrel
    obtain ⟨cc, hcc⟩ : ∃ cc, cc = ss.filter fun x => (mget Y x).isSome := ⟨_, rfl⟩
    rw [← hcc] at ho
    have hccl : cc.length ≤ 100000 := by
      have h1 := List.length_filter_le (fun x => (mget Y x).isSome) ss
      rw [← hcc] at h1
      have h2 := hcs.out
      have h3 := HQ3.out
      have h4 := HNN.out
      omega
    obtain ⟨ncc, hncc⟩ : ∃ ncc, ncc = cc.length := ⟨_, rfl⟩
    rw [← hncc] at ho hccl
    have HNC := Lib.hid hncc; clear hncc
    have HCO := Lib.hid hcc; clear hcc
    go_wp2_with (at_next; refine wpList_next_ranges _ rfl _ rfl 24 (Maps.int_keyed Try.underlying24) anyR encU id (fun key kl hk => by obtain ⟨x, hx, _⟩ := keyOf_u64 Try.underlying24 hk; exact ⟨x, hx⟩) (fun v _ _ => ⟨v, rfl⟩) mx r nn _ _ _ rfl hrg.out ?_ ?_)
    · intro hc0 hl0
      have hperm := (hCo.out.perm HOWN.out (Maps.int_keyed Try.underlying24) Try.underlying24 hl0).trans HQ2.out
      have hcs2 : sortI cc = C := by
        rw [HCO.out, HCC.out]
        exact sortI_of_perm (hperm.filter _)
      have HCS := Lib.hid hcs2; clear hcs2 hperm hc0 hl0
      have hnc : C.length = ncc := by rw [HNC.out, ← HCS.out, sortI_len]
      have HNC2 := Lib.hid hnc; clear hnc
      obtain ⟨A9, c9, rfl, hcap9⟩ := own_form ho.out
      have HSO := Lib.hid (sort_own wr (r + 1) _ ncc cc ho.out (by omega))
      rw [HCS.out] at HSO
      have hrb := own_row_ge ho.out
      clear hCo hrg hcs
      go_wp2_with (go_at_call 91; refine HSO.out.mono ?_; rintro e w4 ⟨rfl, ho4, hg4⟩)
      have hb4 : Below w2.heap.size w2 w4 := grown_bel hB (Nat.le_refl _) hg4 (fun k hk => by have := hrb k hk; have := HRR.out; omega)
      have hbw4 : Below w.heap.size w w4 := bel_tr hB2 hb4
      have HF4 := Lib.hid (own_flat ho4)
      have hz4 : r + 1 ≤ w4.heap.size := Nat.le_trans hsz hg4.size
      clear ho4 hg4 hrb hcap9 hB ho hMY hb4
      go_loopw [39, 11, 13] (fun v v11 _ wq => ∃ j : Nat, j ≤ ncc ∧ v = .int .i64 j ∧ Hid (wq.ownsRow w4.heap.size 24 1 v11 ((C.take j).filter fun x => !belowB L x C).length (nums ((C.take j).filter fun x => !belowB L x C))) ∧ Below w4.heap.size w4 wq) (fun v _ _ _ => ncc - (intOf v).toNat)
      case atStart => exact ⟨0, Nat.zero_le _, rfl, World.ownsRow_nil _ _ _ _, by (repeat (first | (with_reducible exact Below.refl _ _) | (with_reducible assumption) | (with_reducible refine bel_al0 ?_ _) | (with_reducible refine bel_set ?_ (by first | (simp; done) | (simp; omega)) _) | (with_reducible refine bel_dr ?_) | (with_reducible refine bel_drn ?_ _) | (with_reducible refine bel_tr ?_ (by assumption))))⟩
      case round =>
        obtain ⟨j, hj, rfl, hoj, hBj⟩ := hrel
        by_cases hlt : j < ncc
        · obtain ⟨x, hx⟩ : ∃ x, C[j]? = some x := ⟨_, List.getElem?_eq_getElem (by rw [HNC2.out]; exact hlt)⟩
          have HFj := Lib.hid (HF4.out.below hBj)
          obtain ⟨bb, off, rfl, cj⟩ := HFj.out.at_ (nums_at hx)
          have htk : C.take (j + 1) = C.take j ++ [x] := by rw [List.take_add_one, hx]; rfl
          have HB2 := Lib.hid (HBL.out wr (bel_tr hbw4 hBj) x _ ncc c9 C HNC2.out HFj.out (by omega))
          obtain ⟨y, hy⟩ : ∃ y, y = belowB L x C := ⟨_, rfl⟩
          rw [← hy] at HB2
          obtain ⟨oo, hoo⟩ : ∃ oo, oo = (C.take j).filter fun x => !belowB L x C := ⟨_, rfl⟩
          rw [← hoo] at hoj
          have hol : oo.length ≤ 100000 := by
            rw [hoo]
            have h1 := List.length_filter_le (fun x => !belowB L x C) (C.take j)
            rw [List.length_take] at h1
            omega
          have hnew : (C.take (j + 1)).filter (fun x => !belowB L x C) = if y then oo else oo ++ [x] := by
            rw [htk, List.filter_append, ← hoo, hy]
            cases h : belowB L x C <;> simp [h]
          have HNEW := Lib.hid hnew; clear hnew
          obtain ⟨no, hno⟩ : ∃ no, no = oo.length := ⟨_, rfl⟩
          rw [← hno] at hoj hol
          have HNO := Lib.hid hno; clear hno
          have hbl := cell_lt cj
          clear hx hy htk hoo
          have hq4 := hBj.size
          cases y with
          | true =>
            go_wp2_with (go_at_call 92; refine HB2.out.mono ?_; rintro e w5 ⟨rfl, hb5⟩)
            go_roundw
            case rel =>
              refine ⟨j + 1, by omega, by go_num, ?_, by (repeat (first | (with_reducible exact Below.refl _ _) | (with_reducible assumption) | (with_reducible refine bel_al0 ?_ _) | (with_reducible refine bel_set ?_ (by first | (simp; done) | (simp; omega)) _) | (with_reducible refine bel_dr ?_) | (with_reducible refine bel_drn ?_ _) | (with_reducible refine bel_tr ?_ (by assumption))))⟩
              show World.ownsRow _ _ _ _ _ _ _
              rw [HNEW.out]
              simp only [if_true]
              rw [← HNO.out]
              exact own_below hoj.out hb5
            case measure => simp [intOf]; omega
          | false =>
            go_wp2_with (first | (go_at_call 92; refine HB2.out.mono ?_; rintro e w5 ⟨rfl, hb5⟩; have ho5 := own_below hoj.out hb5; have hz5 := hb5.size; obtain ⟨i0, hi, hz0, hz1, hz2⟩ := info_parts infoU64) | (at_builtin; refine wpl_append rfl _ _ 50 rfl w4.heap.size 24 _ 1 8 Try.underlying50 infoU64 rfl (by decide) _ no (nums oo) rfl (own_below ho5 (bel_al0 (Below.refl _ _) _)) (some ⟨w5.heap.size, 0, none⟩) 1 1 (nums [x]) rfl rfl (flat_one w5 x) (nums_one _) (by unfold maxLen; omega) (by omega) (by simp; omega) ?_; intro v' w6 ho6 hg6 hat6))
            have hb6 : Below w4.heap.size w4 w6 := grown_bel (bel_al0 (bel_tr hBj hb5) _) (Nat.le_refl _) hg6 (own_row_ge ho5)
            go_roundw
            case rel =>
              refine ⟨j + 1, by omega, by go_num, ?_, hb6⟩
              show World.ownsRow _ _ _ _ _ _ _
              rw [HNEW.out]
              simp only [Bool.false_eq_true, if_false]
              rw [nums_app, List.length_append, ← HNO.out]
              exact ho6
            case measure => simp [intOf]; omega
        · have hjn : j = ncc := by omega
          have htk : C.take j = C := by rw [List.take_of_length_le]; rw [HNC2.out]; omega
          rw [htk, ← HRES.out] at hoj
          go_wp2
          go_ret
          exact ⟨_, rfl, own_mono hoj.out (by have := hbw4.size; omega), bel_tr hbw4 hBj⟩
    · intro x c kl yd yp w5 cnt2 hkey hlk hv hat hrg5 hlt hg5 hs5 hen
      obtain ⟨x', ex, rfl, _⟩ := keyOf_u64 Try.underlying24 hkey
      obtain rfl : x = x' := encU_inj ex
      have hCo2 := Lib.hid (hCo.out.step hlk hat)
      have hcs2 : Hid ((ss ++ [x]).length + cnt2 ≤ Maps.size D0) := by
        show _ ≤ _
        have := hcs.out
        simp
        omega
      have hb5 : Below w2.heap.size w2 w5 := grown_bel hB (Nat.le_refl _) hg5 (fun k hk => by cases hk; have := HRR.out; omega)
      have ho5 := Lib.hid (ho.out.kept hg5 (own_ne_row ho.out (by omega)))
      have hMY5 : Hid (MapIs (Value.int .u64) boolIs w5 my Y) := MapIs.but_bools hMY.out (by omega) (But.of_grown hg5)
      have hsz5 : r + 1 ≤ w5.heap.size := by omega
      have HOL := Lib.hid hlt; clear hlt
      have HLE := Lib.hid hrg.out.left_eq
      clear hs5 hlk hat hv hkey hCo hcs hMY ho hB hg5 ex
      have HRG5 := Lib.hid hrg5; clear hrg5 hrg
      cases hyq : mget Y x with
      | none =>
        have hnew : (ss ++ [x]).filter (fun x => (mget Y x).isSome) = cc := by
          rw [List.filter_append, ← HCO.out]; simp [hyq]
        have HNEW := Lib.hid hnew; clear hnew
        have HYQ := Lib.hid hyq; clear hyq
        go_wp2_with (at_lookup; refine wpl_look_none rfl false _ _ 117 4 rfl keyU Try.underlying117 _ (fun W => zeroBool W) rfl x rfl hMY5.out HYQ.out ?_)
        go_roundw
        case rel =>
          refine ⟨_, cnt2, ss ++ [x], HRG5, hCo2, hcs2, ?_, hMY5, hb5, hsz5⟩
          show World.ownsRow _ _ _ _ _ _ _
          rw [HNEW.out, ← HNC.out]
          exact ho5.out
        case measure => rw [HRG5.out.left_eq, HLE.out]; exact HOL.out
      | some u =>
        have hnew : (ss ++ [x]).filter (fun x => (mget Y x).isSome) = cc ++ [x] := by
          rw [List.filter_append, ← HCO.out]; simp [hyq]
        have HNEW := Lib.hid hnew; clear hnew
        have HYQ := Lib.hid hyq; clear hyq
        go_wp2_with (first | (at_lookup; refine wpl_look_some rfl false _ _ 117 4 rfl keyU Try.underlying117 rfl x rfl hMY5.out HYQ.out ?_; intro u hu; unfold boolIs at hu; subst hu) | (at_builtin; refine wpl_append rfl _ _ 50 rfl (r + 1) 24 _ 1 8 Try.underlying50 infoU64 rfl (by decide) _ ncc (nums cc) rfl (own_below ho5.out (bel_al0 (Below.refl _ _) _)) (some ⟨w5.heap.size, 0, none⟩) 1 1 (nums [x]) rfl rfl (flat_one w5 x) (nums_one _) (by unfold maxLen; omega) (by omega) (by simp; omega) ?_; intro v' w6 ho6 hg6 hat6))
        have hal : Below w5.heap.size w5 (w5.alloc (.cells #[.int .u64 x] 24)) := by (repeat (first | (with_reducible exact Below.refl _ _) | (with_reducible assumption) | (with_reducible refine bel_al0 ?_ _) | (with_reducible refine bel_set ?_ (by first | (simp; done) | (simp; omega)) _) | (with_reducible refine bel_dr ?_) | (with_reducible refine bel_drn ?_ _) | (with_reducible refine bel_tr ?_ (by assumption))))
        have hb6 : Below w2.heap.size w2 w6 := grown_bel (bel_tr hb5 hal) (Nat.le_refl _) hg6 (fun k hk => by have := own_row_ge ho5.out k hk; have := HRR.out; omega)
        have hrg6 : Hid (w6.ranges Try.prog 24 anyR mx r nn D0 (fun z => left z && !z.sameKey (.int .u64 x)) cnt2) :=
          (HRG5.out.alloc _).kept hg6 (own_ne_row' ho5.out (by omega)) (own_ne_row' ho5.out (by omega))
        have hMY6 : Hid (MapIs (Value.int .u64) boolIs w6 my Y) := HMY.out.below bools_onCells hb6
        have hsz6 : r + 1 ≤ w6.heap.size := by have := hg6.size; simp at this; omega
        go_roundw
        case rel =>
          refine ⟨_, cnt2, ss ++ [x], hrg6, hCo2, hcs2, ?_, hMY6, hb6, hsz6⟩
          show World.ownsRow _ _ _ _ _ _ _
          rw [HNEW.out, nums_app, List.length_append, ← HNC.out]
          exact ho6
        case measure => rw [hrg6.out.left_eq, HLE.out]; exact HOL.out
end Go.Proofs.Ytehneliphhgegaa.N
end
section
set_option linter.unusedVariables false
set_option linter.unusedSimpArgs false
set_option maxRecDepth 100000
namespace Go.Proofs.Ytehneliphhgegaa.N
open Go.RowKit Go.Apo Go.Shelf
attribute [local go_sem] Oper.semAt_some
set_option maxHeartbeats 4000000 in
theorem base_calls (w : World) (gq : Option Addr) (L : List (Int × CommitD)) (h : GP w gq L) (hO : LOk L) (hL : L.length ≤ 100000) (hw : numsIn (mkeys L)) (a b : Int) :
    Calls Try.prog 49 #[.pointer gq, .int .u64 a, .int .u64 b] w fun e w' => e = .returned (.tuple #[.int .u64 (baseC L a b).id, .bool (!((baseC L a b).id == 0))]) ∧ Below w.heap.size w w' := by
  have HW0 := Lib.hid h
  have hb0 : Below w.heap.size w (w.alloc (.cells #[.int .u64 0, .slice none 0 0, .int .u64 0, .int .u64 0, .string ⟨#[]⟩] 69)) := by (repeat (first | (with_reducible exact Below.refl _ _) | (with_reducible assumption) | (with_reducible refine bel_al0 ?_ _) | (with_reducible refine bel_set ?_ (by first | (simp; done) | (simp; omega)) _) | (with_reducible refine bel_dr ?_) | (with_reducible refine bel_drn ?_ _) | (with_reducible refine bel_tr ?_ (by assumption))))
  have HB := Lib.hid (bases_calls _ gq L (h.below hb0) hO hL hw a b)
  have hbl := basesL_len hO a b
  unfold baseC
  obtain ⟨l, hl⟩ : ∃ l, l = basesL L a b := ⟨_, rfl⟩
  rw [← hl] at HB hbl ⊢
  clear hl hO hw
  obtain ⟨RES, hRES⟩ : ∃ RES, RES = bestOf L l := ⟨_, rfl⟩
  rw [← hRES]
  have HRES := Lib.hid hRES; clear hRES
  have HG := Lib.hid (fun W (hW : GP W gq L) i => gp_get gq W L hW i)
  have H := Lib.hid (h.below hb0); clear h
  obtain ⟨n, hn⟩ : ∃ n, n = l.length := ⟨_, rfl⟩
  unfold NumsOwn at HB
  rw [← hn] at HB hbl
  have HN := Lib.hid hn; clear hn
  go_enter Try.func49, Try.ntmps49
  go_wp2_with (go_at_call 57; refine HB.out.mono ?_; rintro e w1 ⟨v, rfl, ho, hb1⟩; obtain ⟨A1, c1, rfl, hcap⟩ := own_form ho)
  obtain ⟨B, hB⟩ : ∃ B, B = w.heap.size := ⟨_, rfl⟩
  have hblk : HoldsC w1 B CommitD.zero := ⟨none, 0, 0, by rw [hB]; exact (blk_new w _ _).below hb1⟩
  have hF : Hid (Flat w1 A1 (nums l)) := own_flat ho
  have hne : Hid (∀ bb off, A1 = some ⟨bb, off, none⟩ → bb ≠ B) := by
    show ∀ bb off, A1 = some ⟨bb, off, none⟩ → bb ≠ B
    rintro bb off rfl
    have := own_blk ho
    simp at this
    omega
  have hbw : Below w.heap.size w w1 := bel_tr hb0 hb1
  have hB1 : B < w1.heap.size := by have := hb1.size; simp at this; omega
  have hBB := Lib.hid hB; clear hB hb1 ho hcap hb0
  rw [hBB.out.symm]
  go_loopw [19, 10, 11, 12] (fun v _ _ _ wr => ∃ j : Nat, j ≤ n ∧ v = .int .i64 j ∧ Hid (HoldsC wr B (bestOf L (l.take j))) ∧ Hid (But B w1 wr) ∧ Below w.heap.size w wr ∧ B < wr.heap.size) (fun v _ _ _ _ => n - (intOf v).toNat)
  case atStart => exact ⟨0, Nat.zero_le _, rfl, hblk, But.refl _ _, hbw, hB1⟩
  case round =>
    obtain ⟨j, hj, rfl, hblk, hBut, hbw, hB1⟩ := hrel
    obtain ⟨best, hbest⟩ : ∃ best, best = bestOf L (l.take j) := ⟨_, rfl⟩
    rw [← hbest] at hblk
    obtain ⟨A2, n2, k2, hbk⟩ := hblk.out
    obtain ⟨x0, x1, x2, x3, x4, xf⟩ := hbk.five
    by_cases hlt : j < n
    · obtain ⟨id, hid⟩ : ∃ id, l[j]? = some id := ⟨_, List.getElem?_eq_getElem (by rw [← HN.out]; exact hlt)⟩
      obtain ⟨bb, off, rfl, cj⟩ := hF.out.at_ (nums_at hid)
      replace cj := (hBut.out.cell (p := ⟨bb, off + j, none⟩) (cell_lt cj) (hne.out bb off rfl)).trans cj
      have hbl' := cell_lt cj
      have htk : l.take (j + 1) = l.take j ++ [id] := by rw [List.take_add_one, hid]; rfl
      have hnew : bestOf L (l.take (j + 1)) = bestStep L best id := by rw [htk, hbest]; unfold bestOf; rw [List.foldl_append]; rfl
      have HNEW := Lib.hid hnew; clear hnew htk
      have HG2 := Lib.hid (HG.out _ (HW0.out.below hbw) id)
      unfold GetOwn at HG2
      obtain ⟨c, hc⟩ : ∃ c, c = gGet L id := ⟨_, rfl⟩
      unfold bestStep at HNEW
      rw [← hc] at HG2 HNEW
      clear hc hid hbest
      have HBK := Lib.hid hbk; clear hbk
      by_cases hgt : best.gen < c.gen
      · have hn2 := HNEW.out
        rw [if_pos hgt] at hn2
        have HN2 := Lib.hid hn2; clear hn2 HNEW
        go_wp2_with (go_at_call 44; refine HG2.out.mono ?_; rintro e w5 ⟨A5, k5, rfl, ho5, hb5⟩; clear ho5; replace x0 := cell_bel x0 hb5; replace x1 := cell_bel x1 hb5; replace x2 := cell_bel x2 hb5; replace x3 := cell_bel x3 hb5; replace x4 := cell_bel x4 hb5; have xf' := (HBK.out.below hb5).five.2.2.2.2.2; clear xf; have hz5 := hb5.size; have hBz5 : B < w5.heap.size := (by omega))
        obtain ⟨s1, s2⟩ := blk_set5 (.int .u64 c.id) (.slice A5 c.par.length k5) (.int .u64 c.gen) (.int .u64 c.root) (.string c.text) (HBK.out.below hb5)
        have S1 := Lib.hid s1; clear s1
        have S2 := Lib.hid s2; clear s2
        go_roundw
        case rel =>
          have hb9 : Below w.heap.size w w5 := bel_tr hbw hb5
          refine ⟨j + 1, by omega, by go_num, ?_, ?_, ?_, ?_⟩
          · show HoldsC _ _ _
            rw [HN2.out]
            exact ⟨A5, c.par.length, k5, S1.out.al _⟩
          · exact ((hBut.out.trans (But.of_below hb5)).trans S2.out).trans (But.of_below (bel_al0 (Below.refl _ _) _))
          · exact bel_al0 (But.below hb9 (Nat.le_refl _) (by have := hBB.out; omega) S2.out) _
          · simp; omega
        case measure => simp [intOf]; omega
      · have hn2 := HNEW.out
        rw [if_neg hgt] at hn2
        have HN2 := Lib.hid hn2; clear hn2 HNEW
        go_wp2_with (go_at_call 44; refine HG2.out.mono ?_; rintro e w5 ⟨A5, k5, rfl, ho5, hb5⟩; clear ho5; replace x0 := cell_bel x0 hb5; replace x1 := cell_bel x1 hb5; replace x2 := cell_bel x2 hb5; replace x3 := cell_bel x3 hb5; replace x4 := cell_bel x4 hb5; clear xf; have hz5 := hb5.size; have hBz5 : B < w5.heap.size := (by omega))
        have hal : Below wr.heap.size wr (w5.alloc (.cells #[.int .u64 c.id, .slice A5 c.par.length k5, .int .u64 c.gen, .int .u64 c.root, .string c.text] 69)) := by (repeat (first | (with_reducible exact Below.refl _ _) | (with_reducible assumption) | (with_reducible refine bel_al0 ?_ _) | (with_reducible refine bel_set ?_ (by first | (simp; done) | (simp; omega)) _) | (with_reducible refine bel_dr ?_) | (with_reducible refine bel_drn ?_ _) | (with_reducible refine bel_tr ?_ (by assumption))))
        go_roundw
        case rel =>
          refine ⟨j + 1, by omega, by go_num, ?_, hBut.out.trans (But.of_below hal), bel_tr hbw hal, by simp; omega⟩
          show HoldsC _ _ _
          rw [HN2.out]
          exact ⟨A2, n2, k2, HBK.out.below hal⟩
        case measure => simp [intOf]; omega
    · have htk : l.take j = l := by rw [List.take_of_length_le]; have := HN.out; omega
      rw [htk, ← HRES.out] at hbest
      subst hbest
      clear htk hblk
      have g1 : True := trivial
      go_wp2_with fail
      go_region
      all_goals go_wp2
      all_goals go_ret2
      all_goals exact ⟨rfl, by (repeat (first | (with_reducible exact Below.refl _ _) | (with_reducible assumption) | (with_reducible refine bel_al0 ?_ _) | (with_reducible refine bel_set ?_ (by first | (simp; done) | (simp; omega)) _) | (with_reducible refine bel_dr ?_) | (with_reducible refine bel_drn ?_ _) | (with_reducible refine bel_tr ?_ (by assumption))))⟩
end Go.Proofs.Ytehneliphhgegaa.N
end
