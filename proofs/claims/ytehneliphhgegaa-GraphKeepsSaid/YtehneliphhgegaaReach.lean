/- The ancestors of some commits: what the graph's reach does, walked once. -/
import Derived.Test.YtehneliphhgegaaMadeAll
import Derived.Test.YtehneliphhgegaaQueueAll
import Derived.Test.YtehneliphhgegaaIds
import Derived.Deep.LoopGhost
set_option linter.unusedVariables false
set_option linter.unusedSimpArgs false
set_option maxRecDepth 100000
namespace Go.Proofs.Ytehneliphhgegaa
open Go.RowKit Go.Apo

/-- a set of numbers: a map whose values are all true -/
def boolIs (_ : World) (_ : Unit) (v : Value) : Prop := v = .bool true
theorem bools_onCells : OnCells boolIs := onCells_plain _
theorem zeroBool (W : World) : (zeroValue 4).run Try.prog W = .ok (.bool false) W := by kernel_rfl
def reachRun (L : List (Int × CommitD)) : Nat → List (Int × Unit) → List Int → List (Int × Unit)
  | 0, S, _ => S
  | _ + 1, S, [] => S
  | f + 1, S, h :: t => match mget L h with
    | none => reachRun L f S t
    | some c => if (mget S c.id).isSome then reachRun L f S t else reachRun L f (mput S c.id ()) (t ++ c.par)
def reachS (L : List (Int × CommitD)) (ids : List Int) : List (Int × Unit) := reachRun L (3 * L.length + ids.length) [] ids
structure LOk (L : List (Int × CommitD)) : Prop where
  ids : ∀ i c, mget L i = some c → c.id = i
  two : ∀ i c, mget L i = some c → c.par.length ≤ 2
theorem Sync.lok {L : List (Int × CommitD)} {R : List CommitD} (h : Sync L R) : LOk L := ⟨h.ids, fun i c hc => (h.two i c hc).1⟩
structure SOk (L : List (Int × CommitD)) (S : List (Int × Unit)) : Prop where
  sub : ∀ k ∈ mkeys S, (mget L k).isSome
  nodup : (mkeys S).Nodup
theorem mget_unit {S : List (Int × Unit)} {k : Int} (h : (mget S k).isSome = true) : mget S k = some () := by
  cases hq : mget S k with
  | none => rw [hq] at h; cases h
  | some u => rfl
theorem nodup_le2 : ∀ {a b : List Int}, a.Nodup → (∀ x ∈ a, x ∈ b) → a.length ≤ b.length
  | [], _, _, _ => Nat.zero_le _
  | x :: a, b, hn, hs => by
    have hx : x ∈ b := hs x List.mem_cons_self
    have h2 := List.nodup_cons.1 hn
    have := nodup_le2 (a := a) (b := b.erase x) h2.2 (fun y hy => by
      have hne : y ≠ x := fun e => h2.1 (e ▸ hy)
      exact (List.mem_erase_of_ne hne).2 (hs y (List.mem_cons_of_mem _ hy)))
    have hl := List.length_erase_of_mem hx
    have : 0 < b.length := List.length_pos_of_mem hx
    simp only [List.length_cons]
    omega
theorem mem_keys {ν : Type} {L : List (Int × ν)} {k : Int} : (mget L k).isSome = true ↔ k ∈ mkeys L := by
  constructor
  · intro h
    refine Classical.byContradiction fun hn => ?_
    rw [mget_none.2 hn] at h; cases h
  · intro h
    cases hq : mget L k with
    | none => exact absurd h (mget_none.1 hq)
    | some _ => rfl
theorem SOk.le {L : List (Int × CommitD)} {S : List (Int × Unit)} (h : SOk L S) : S.length ≤ L.length := by
  have := nodup_le2 (b := mkeys L) h.nodup (fun k hk => mem_keys.1 (h.sub k hk))
  simpa [mkeys] using this
theorem SOk.put {L : List (Int × CommitD)} {S : List (Int × Unit)} (h : SOk L S) {k : Int} (hk : (mget L k).isSome) : SOk L (mput S k ()) :=
  ⟨fun x hx => by rcases mem_keys_mput.1 hx with rfl | hx; exact hk; exact h.sub x hx, nodup_mput _ h.nodup⟩
theorem mput_len {S : List (Int × Unit)} {k : Int} (h : mget S k = none) : (mput S k ()).length = S.length + 1 := by
  rw [mput_new _ (mget_none.1 h)]; simp
def reachLeft (L : List (Int × CommitD)) (S : List (Int × Unit)) (l : List Int) : Nat := 3 * (L.length - S.length) + l.length
/-- what reach leaves -/
def ReachPost (w : World) (S : List (Int × Unit)) (e : Ending) (w' : World) : Prop :=
  ∃ m, e = .returned (.map (some m)) ∧ MapIs (Value.int .u64) boolIs w' m S ∧ Below w.heap.size w w' ∧ w.heap.size ≤ m
theorem MapIs.but_bools {w w' : World} {m g : Nat} {M : List (Int × Unit)} (h : MapIs (Value.int .u64) boolIs w m M) (hm : m ≠ g) (hb : But g w w') : MapIs (Value.int .u64) boolIs w' m M := by
  have hl := h.lt
  obtain ⟨es, c, h1, hs, he⟩ := h.ex
  exact ⟨es, c, (hb.block m hl hm).trans h1, hs, he⟩
/-- a queue: empty, or a slice of one's own -/
def QV (w : World) (base : Nat) (A : Option Addr) (n cap : Nat) (l : List Int) : Prop := n = 0 ∨ ∃ g off, A = some ⟨g, off, none⟩ ∧ Que w base 24 g off n cap (nums l)
theorem QV.below {w w' : World} {base : Nat} {A : Option Addr} {n cap : Nat} {l : List Int} (h : QV w base A n cap l) (hb : Below w.heap.size w w') : QV w' base A n cap l := by
  rcases h with h | ⟨g, off, h1, h2⟩
  · exact Or.inl h
  · exact Or.inr ⟨g, off, h1, h2.below hb⟩

set_option maxHeartbeats 4000000 in
theorem reach_calls (w : World) (p mg : Nat) (L : List (Int × CommitD)) (h : GraphAt w p mg L) (hO : LOk L) (hL : L.length ≤ 100000) (A : Option Addr) (n k : Nat) (ids : List Int) (hn : ids.length = n) (hf : Flat w A (nums ids)) (hA : A = none → ids = []) (hn2 : n ≤ 100000) :
    Calls Try.prog 85 #[.pointer (some ⟨p, 0, none⟩), .slice A n k] w (ReachPost w (reachS L ids)) := by
  subst hn
  obtain ⟨RES, hRES⟩ : ∃ RES, RES = reachS L ids := ⟨_, rfl⟩
  rw [← hRES]
  unfold reachS at hRES
  have hmm := @run_makeMap Try.prog
  have HG := Lib.hid (fun W (hW : GraphAt W p mg L) i => gget_calls p mg W L hW i)
  have H := Lib.hid h; clear h
  have HO := Lib.hid hO; clear hO
  have HC := Lib.hid (fun W hW => clone_calls W A k ids hW (by omega) hA); clear hA
  have HF := Lib.hid hf; clear hf
  have HR0 := Lib.hid hRES; clear hRES
  obtain ⟨n, hn⟩ : ∃ n, n = ids.length := ⟨_, rfl⟩
  unfold ClonePost at HC
  rw [← hn] at HC HR0 hn2 ⊢
  have HN := Lib.hid hn; clear hn
  have hB0 : Below w.heap.size w (w.alloc (.map #[] 0)) := by (repeat (first | (with_reducible exact Below.refl _ _) | (with_reducible assumption) | (with_reducible refine bel_al0 ?_ _) | (with_reducible refine bel_set ?_ (by first | (simp; done) | (simp; omega)) _) | (with_reducible refine bel_dr ?_) | (with_reducible refine bel_drn ?_ _) | (with_reducible refine bel_tr ?_ (by assumption))))
  have hm0 := Lib.hid (mapIs_made (Value.int .u64) boolIs w)
  obtain ⟨m, hm⟩ : ∃ m, m = w.heap.size := ⟨_, rfl⟩
  go_enter Try.func85, Try.ntmps85
  go_wp2_with (go_at_call 109; refine (HC.out _ (HF.out.below hB0)).mono ?_; rintro e w1 ⟨v, rfl, ho1, hb1⟩)
  have hb01 : Below w.heap.size w w1 := bel_tr hB0 hb1
  have hM1 := Lib.hid (hm0.out.below bools_onCells hb1)
  obtain ⟨A1, c1, rfl, hcap1⟩ := own_form ho1
  have hQ1 : Hid (QV w1 (m + 1) A1 n c1 ids) := by
    show QV _ _ _ _ _ _
    rcases Nat.eq_zero_or_pos n with h0 | h0
    · exact Or.inl h0
    · obtain ⟨g, cap, e, hq⟩ := Que.of_own (k := 0) ho1 h0
      simp only [Value.slice.injEq] at e
      obtain ⟨rfl, _, rfl⟩ := e
      exact Or.inr ⟨g, 0, rfl, hq.mono (by simp; omega)⟩
  clear ho1 hb1 hm0
  rw [← hm] at hM1 ⊢
  have HMM := Lib.hid hm; clear hm
  go_loopg [6, 7, 8] (3 * L.length + n) (fun gk v6 _ _ wr => ∃ (A n cap : _) (l : List Int) (S : List (Int × Unit)), v6 = .slice A n cap ∧ n ≤ cap ∧ gk ≤ 400000 ∧ Hid (l.length = n) ∧ Hid (QV wr (m + 1) A n cap l) ∧ Hid (MapIs (Value.int .u64) boolIs wr m S) ∧ Hid (SOk L S) ∧ Hid (reachLeft L S l ≤ gk) ∧ Hid (RES = reachRun L gk S l) ∧ Below w.heap.size w wr)
  case atStart => exact ⟨A1, n, c1, ids, [], rfl, hcap1, by omega, HN.out.symm, hQ1, hM1, ⟨fun k hk => by simp [mkeys] at hk, List.nodup_nil⟩, (by show reachLeft L [] ids ≤ _; unfold reachLeft; rw [HN.out]; simp), HR0.out, hb01⟩
  case round =>
    obtain ⟨A, n, cap, l, S, rfl, hcap, hl, hn, hQ, hM, hS, hK, hR, hB⟩ := hrel
    cases l with
    | nil =>
      obtain rfl : n = 0 := hn.out.symm
      have hR2 : RES = S := by rw [hR.out]; cases gk <;> rfl
      subst hR2
      go_wp2
      go_ret
      exact ⟨m, rfl, hM.out, hB, by have := HMM.out; omega⟩
    | cons hd t =>
      obtain ⟨n', rfl⟩ : ∃ n', n = n' + 1 := ⟨t.length, hn.out.symm⟩
      have hk1 : 1 ≤ gk := by have := hK.out; unfold reachLeft at this; simp at this; omega
      obtain ⟨f, rfl⟩ : ∃ f, gk = f + 1 := ⟨gk - 1, by omega⟩
      obtain ⟨g, off, rfl, hq⟩ : ∃ g off, A = some ⟨g, off, none⟩ ∧ Que wr (m + 1) 24 g off (n' + 1) cap (nums (hd :: t)) := by
        rcases hQ.out with h0 | h0
        · omega
        · exact h0
      clear hQ
      have c0 := hq.cell (j := 0) (u := .int .u64 hd) rfl
      rw [Nat.add_zero] at c0
      have hgl := hq.lt
      have hgm : m < g := by have := hq.base; omega
      have HQT := Lib.hid (hq.tail (x := .int .u64 hd) (xs := nums t))
      clear hq
      have HG2 := Lib.hid (HG.out _ (H.out.below hB) hd)
      have hn3 : n' + 1 ≤ 400000 := by have := hK.out; have := hn.out; unfold reachLeft at *; omega
      have HLT : Hid (t.length = n') := by have := hn.out; show _ = _; simp at this; exact this
      cases hq : mget L hd with
      | none =>
        have hRun : Hid (RES = reachRun L f S t) := by
          have := hR.out
          simp only [reachRun, hq] at this
          exact this
        have HKT : Hid (reachLeft L S t ≤ f) := by have := hK.out; show _ ≤ _; unfold reachLeft at *; simp at this; omega
        have hg2 : Calls Try.prog 44 #[.pointer (some ⟨p, 0, none⟩), .int .u64 hd] wr (GetOwn wr CommitD.zero false) := by
          have := HG2.out
          unfold gGet at this
          rw [hq] at this
          exact this
        have HG3 := Lib.hid hg2; clear hg2 HG2 hq hR
        by_cases hc1 : cap = 1
        · rw [if_pos hc1] at HQT
          obtain rfl : n' = 0 := by omega
          subst hc1
          go_wp2_with (go_at_call 44; refine HG3.out.mono ?_; rintro e w5 ⟨A5, k5, rfl, ho5, hb5⟩; clear ho5)
          go_roundg f
          case rel => exact ⟨some ⟨g, off, none⟩, 0, 0, t, S, rfl, Nat.le_refl _, by omega, HLT, Or.inl rfl, hM.out.below bools_onCells (bel_al0 hb5 _), hS, HKT, hRun, by (repeat (first | (with_reducible exact Below.refl _ _) | (with_reducible assumption) | (with_reducible refine bel_al0 ?_ _) | (with_reducible refine bel_set ?_ (by first | (simp; done) | (simp; omega)) _) | (with_reducible refine bel_dr ?_) | (with_reducible refine bel_drn ?_ _) | (with_reducible refine bel_tr ?_ (by assumption))))⟩
          case measure => omega
        · rw [if_neg hc1] at HQT
          go_wp2_with (go_at_call 44; refine HG3.out.mono ?_; rintro e w5 ⟨A5, k5, rfl, ho5, hb5⟩; clear ho5)
          go_roundg f
          case rel => exact ⟨some ⟨g, off + 1, none⟩, n', cap - 1, t, S, rfl, by omega, by omega, HLT, Or.inr ⟨g, off + 1, rfl, HQT.out.below (bel_al0 hb5 _)⟩, hM.out.below bools_onCells (bel_al0 hb5 _), hS, HKT, hRun, by (repeat (first | (with_reducible exact Below.refl _ _) | (with_reducible assumption) | (with_reducible refine bel_al0 ?_ _) | (with_reducible refine bel_set ?_ (by first | (simp; done) | (simp; omega)) _) | (with_reducible refine bel_dr ?_) | (with_reducible refine bel_drn ?_ _) | (with_reducible refine bel_tr ?_ (by assumption))))⟩
          case measure => omega
      | some c =>
        have hid := HO.out.ids hd c hq
        have htwo := HO.out.two hd c hq
        have hg2 : Calls Try.prog 44 #[.pointer (some ⟨p, 0, none⟩), .int .u64 hd] wr (GetOwn wr c true) := by
          have := HG2.out
          unfold gGet at this
          rw [hq] at this
          exact this
        have HG3 := Lib.hid hg2; clear hg2 HG2
        have hLs : (mget L c.id).isSome := by rw [hid, hq]; rfl
        have hR' := hR.out
        simp only [reachRun, hq] at hR'
        clear hR hid hq
        cases hmq : mget S c.id with
        | some u =>
          rw [hmq] at hR'
          have hRun : Hid (RES = reachRun L f S t) := hR'
          have HKT : Hid (reachLeft L S t ≤ f) := by have := hK.out; show _ ≤ _; unfold reachLeft at *; simp at this; omega
          have HMQ := Lib.hid hmq; clear hmq hR'
          by_cases hc1 : cap = 1
          · rw [if_pos hc1] at HQT
            obtain rfl : n' = 0 := by omega
            subst hc1
            go_wp2_with (first | (go_at_call 44; refine HG3.out.mono ?_; rintro e w5 ⟨A5, k5, rfl, ho5, hb5⟩; clear ho5; have hM5 := Lib.hid (hM.out.below bools_onCells (bel_al0 hb5 (.cells #[.int .u64 c.id, .slice A5 c.par.length k5, .int .u64 c.gen, .int .u64 c.root, .string c.text] 69)))) | (at_lookup; refine wplw_look_some rfl false _ _ 117 4 rfl keyU Try.underlying117 rfl c.id rfl hM5.out HMQ.out ?_; intro u hu; unfold boolIs at hu; subst hu))
            go_roundg f
            case rel => exact ⟨some ⟨g, off, none⟩, 0, 0, t, S, rfl, Nat.le_refl _, by omega, HLT, Or.inl rfl, hM5, hS, HKT, hRun, by (repeat (first | (with_reducible exact Below.refl _ _) | (with_reducible assumption) | (with_reducible refine bel_al0 ?_ _) | (with_reducible refine bel_set ?_ (by first | (simp; done) | (simp; omega)) _) | (with_reducible refine bel_dr ?_) | (with_reducible refine bel_drn ?_ _) | (with_reducible refine bel_tr ?_ (by assumption))))⟩
            case measure => omega
          · rw [if_neg hc1] at HQT
            go_wp2_with (first | (go_at_call 44; refine HG3.out.mono ?_; rintro e w5 ⟨A5, k5, rfl, ho5, hb5⟩; clear ho5; have hM5 := Lib.hid (hM.out.below bools_onCells (bel_al0 hb5 (.cells #[.int .u64 c.id, .slice A5 c.par.length k5, .int .u64 c.gen, .int .u64 c.root, .string c.text] 69)))) | (at_lookup; refine wplw_look_some rfl false _ _ 117 4 rfl keyU Try.underlying117 rfl c.id rfl hM5.out HMQ.out ?_; intro u hu; unfold boolIs at hu; subst hu))
            go_roundg f
            case rel => exact ⟨some ⟨g, off + 1, none⟩, n', cap - 1, t, S, rfl, by omega, by omega, HLT, Or.inr ⟨g, off + 1, rfl, HQT.out.below (bel_al0 hb5 _)⟩, hM5, hS, HKT, hRun, by (repeat (first | (with_reducible exact Below.refl _ _) | (with_reducible assumption) | (with_reducible refine bel_al0 ?_ _) | (with_reducible refine bel_set ?_ (by first | (simp; done) | (simp; omega)) _) | (with_reducible refine bel_dr ?_) | (with_reducible refine bel_drn ?_ _) | (with_reducible refine bel_tr ?_ (by assumption))))⟩
            case measure => omega
        | none =>
          rw [hmq] at hR'
          have hRun : Hid (RES = reachRun L f (mput S c.id ()) (t ++ c.par)) := hR'
          have hS2 := hS.out.put hLs
          have hle := hS2.le
          have hml := mput_len hmq
          have HKT : Hid (reachLeft L (mput S c.id ()) (t ++ c.par) ≤ f) := by
            have := hK.out; show _ ≤ _; unfold reachLeft at *; rw [hml]; rw [hml] at hle; simp at this ⊢; omega
          have HS2 := Lib.hid hS2; clear hS2 hle hml
          have HMQ := Lib.hid hmq; clear hmq hR' hLs
          obtain ⟨np, hnp⟩ : ∃ np, np = c.par.length := ⟨_, rfl⟩
          unfold GetOwn at HG3
          rw [← hnp] at HG3 htwo
          have HNP := Lib.hid hnp; clear hnp
          have HLA : Hid ((t ++ c.par).length = n' + np) := by show _ = _; rw [List.length_append, HLT.out, HNP.out]
          by_cases hc1 : cap = 1
          · rw [if_pos hc1] at HQT
            obtain rfl : n' = 0 := by omega
            subst hc1
            go_wp2_with (first
              | (go_at_call 44; refine HG3.out.mono ?_; rintro e w5 ⟨A5, k5, rfl, ho5, hb5⟩; have hb6 : Below wr.heap.size wr (w5.alloc (.cells #[.int .u64 c.id, .slice A5 np k5, .int .u64 c.gen, .int .u64 c.root, .string c.text] 69)) := bel_al0 hb5 _; have hM5 := Lib.hid (hM.out.below bools_onCells hb6); have hQ5 := Lib.hid (HQT.out.below hb6); have hF5 := Lib.hid ((own_flat ho5).below (bel_al0 (Below.refl _ w5) (.cells #[.int .u64 c.id, .slice A5 np k5, .int .u64 c.gen, .int .u64 c.root, .string c.text] 69))); clear ho5; have hz5 := hb5.size; have hB5 := Lib.hid (bel_tr hB hb6); clear hb6)
              | (at_lookup; refine wplw_look_none rfl false _ _ 117 4 rfl keyU Try.underlying117 _ (fun W => zeroBool W) rfl c.id rfl hM5.out HMQ.out ?_)
              | (at_mapUpdate; refine wpl_store (R := boolIs) rfl _ _ _ 117 4 rfl keyU bools_onCells Try.underlying117 rfl c.id rfl _ rfl hM5.out (v := ()) rfl ?_; intro w7 hm7 hg7 hz7; have HM7 := Lib.hid hm7; clear hm7; have HB7 := Lib.hid (But.of_grown hg7); clear hg7; have HQ7 := Lib.hid (hQ5.out.but HB7.out (by omega)); obtain ⟨o9, ho9, hoc9⟩ := hM5.out.notCells; have HF7 := Lib.hid (hF5.out.cells (HB7.out.cells ho9 hoc9)); have B7 := HB7.out.cells ho9 hoc9 w5.heap.size _ (MapKept.heap_alloc w5 _).1 rfl; obtain ⟨x0, x1, x2, x3, x4, xf⟩ := Blk.five B7; have hz7' : w5.heap.size < w7.heap.size := (by simp at hz7; omega); clear ho9 hoc9 B7; have hms : m < w7.heap.size := HM7.out.lt; have HZ7 := Lib.hid hz7; clear hz7)
              | (at_builtin; refine wpl_que_appends rfl _ _ 50 rfl _ 8 Try.underlying50 infoU64 rfl rfl HQ7.out A5 np k5 (nums c.par) rfl (by rw [nums_len]; exact HNP.out.symm) HF7.out (nums_one _) (by unfold maxLen; omega) (by omega) (by omega) ?_; intro g8 off8 cap8 w8 hQ8 hb8 hg8))
            have hM8 : Hid (MapIs (Value.int .u64) boolIs w8 m (mput S c.id ())) := MapIs.but_bools HM7.out (by omega) hb8
            have hB8 : Below w.heap.size w w8 := But.below (But.below hB5.out (Nat.le_refl _) (by have := HMM.out; omega) HB7.out) (Nat.le_refl _) (by have := HMM.out; omega) hb8
            rw [Nat.zero_add] at hQ8
            have hcap8 := hQ8.le
            rw [← nums_app] at hQ8
            have HQ8 := Lib.hid hQ8; clear hQ8 hb8 hg8
            have hla := HLA.out
            rw [Nat.zero_add] at hla
            have HLA2 := Lib.hid hla; clear hla
            go_roundg f
            case rel => exact ⟨some ⟨g8, off8, none⟩, np, cap8, t ++ c.par, mput S c.id (), rfl, hcap8, by omega, HLA2, Or.inr ⟨g8, off8, rfl, HQ8.out⟩, hM8, HS2, HKT, hRun, hB8⟩
            case measure => omega
          · rw [if_neg hc1] at HQT
            go_wp2_with (first
              | (go_at_call 44; refine HG3.out.mono ?_; rintro e w5 ⟨A5, k5, rfl, ho5, hb5⟩; have hb6 : Below wr.heap.size wr (w5.alloc (.cells #[.int .u64 c.id, .slice A5 np k5, .int .u64 c.gen, .int .u64 c.root, .string c.text] 69)) := bel_al0 hb5 _; have hM5 := Lib.hid (hM.out.below bools_onCells hb6); have hQ5 := Lib.hid (HQT.out.below hb6); have hF5 := Lib.hid ((own_flat ho5).below (bel_al0 (Below.refl _ w5) (.cells #[.int .u64 c.id, .slice A5 np k5, .int .u64 c.gen, .int .u64 c.root, .string c.text] 69))); clear ho5; have hz5 := hb5.size; have hB5 := Lib.hid (bel_tr hB hb6); clear hb6)
              | (at_lookup; refine wplw_look_none rfl false _ _ 117 4 rfl keyU Try.underlying117 _ (fun W => zeroBool W) rfl c.id rfl hM5.out HMQ.out ?_)
              | (at_mapUpdate; refine wpl_store (R := boolIs) rfl _ _ _ 117 4 rfl keyU bools_onCells Try.underlying117 rfl c.id rfl _ rfl hM5.out (v := ()) rfl ?_; intro w7 hm7 hg7 hz7; have HM7 := Lib.hid hm7; clear hm7; have HB7 := Lib.hid (But.of_grown hg7); clear hg7; have HQ7 := Lib.hid (hQ5.out.but HB7.out (by omega)); obtain ⟨o9, ho9, hoc9⟩ := hM5.out.notCells; have HF7 := Lib.hid (hF5.out.cells (HB7.out.cells ho9 hoc9)); have B7 := HB7.out.cells ho9 hoc9 w5.heap.size _ (MapKept.heap_alloc w5 _).1 rfl; obtain ⟨x0, x1, x2, x3, x4, xf⟩ := Blk.five B7; have hz7' : w5.heap.size < w7.heap.size := (by simp at hz7; omega); clear ho9 hoc9 B7; have hms : m < w7.heap.size := HM7.out.lt; have HZ7 := Lib.hid hz7; clear hz7)
              | (at_builtin; refine wpl_que_appends rfl _ _ 50 rfl _ 8 Try.underlying50 infoU64 rfl rfl HQ7.out A5 np k5 (nums c.par) rfl (by rw [nums_len]; exact HNP.out.symm) HF7.out (nums_one _) (by unfold maxLen; omega) (by omega) (by omega) ?_; intro g8 off8 cap8 w8 hQ8 hb8 hg8))
            have hM8 : Hid (MapIs (Value.int .u64) boolIs w8 m (mput S c.id ())) := MapIs.but_bools HM7.out (by omega) hb8
            have hB8 : Below w.heap.size w w8 := But.below (But.below hB5.out (Nat.le_refl _) (by have := HMM.out; omega) HB7.out) (Nat.le_refl _) (by have := HMM.out; omega) hb8
            have hcap8 := hQ8.le
            rw [← nums_app] at hQ8
            have HQ8 := Lib.hid hQ8; clear hQ8 hb8 hg8
            go_roundg f
            case rel => exact ⟨some ⟨g8, off8, none⟩, n' + np, cap8, t ++ c.par, mput S c.id (), rfl, hcap8, by omega, HLA, Or.inr ⟨g8, off8, rfl, HQ8.out⟩, hM8, HS2, HKT, hRun, hB8⟩
            case measure => omega
end Go.Proofs.Ytehneliphhgegaa
