/- graph.Keep: maps.DeleteFunc on the table of commits, walked; what then is left in it. -/
import Derived.Test.YtehneliphhgegaaKidsAll
import Derived.Lib.SlMapFilter
import Derived.Maps.RangeWalk
import Derived.WideKeyElems
set_option linter.unusedVariables false
set_option linter.unusedSimpArgs false
set_option maxRecDepth 100000
namespace Go.Proofs.Ytehneliphhgegaa
open Go.RowKit Go.Apo Go.Maps

/-- a commit as a value -/
structure CV where
  i : Int
  A : Option Addr
  n : Nat
  k : Nat
  g : Int
  r : Int
  t : ByteArray
def cv (c : CV) : Value := .agg #[.int .u64 c.i, .slice c.A c.n c.k, .int .u64 c.g, .int .u64 c.r, .string c.t]
open Classical in
noncomputable def heldR (v : Value) : Option (DataW Value × List MemPlace) := if ∃ c, v = cv c then some (.held v, []) else none
theorem heldR_of (c : CV) : heldR (cv c) = some (.held (cv c), []) := if_pos ⟨c, rfl⟩
theorem heldR_inv {v : Value} {y : DataW Value × List MemPlace} (h : heldR v = some y) : (∃ c, v = cv c) ∧ y = (.held v, []) := by
  unfold heldR at h
  split at h
  · rename_i hc; cases h; exact ⟨hc, rfl⟩
  · cases h
theorem gcIs_cv {w : World} {c : CommitD} {v : Value} (h : gcIs w c v) : ∃ x, v = cv x := by
  obtain ⟨⟨A, k, rfl, _⟩, _⟩ := h
  exact ⟨⟨c.id, A, c.par.length, k, c.gen, c.root, c.text⟩, rfl⟩
/-- who is struck -/
def pdS (S : List (Int × Unit)) (kl : Lit) (_ : DataW Value) : Bool := match kl with
  | .int _ x => !(mget S x).isSome
  | _ => false

/-! pairs of values that stand for pairs -/
def PEnts {κ ν : Type} (ek : κ → Value) (R : ν → Value → Prop) : List (Value × Value) → List (κ × ν) → Prop
  | [], [] => True
  | e :: es, p :: L => e.1 = ek p.1 ∧ R p.2 e.2 ∧ PEnts ek R es L
  | _, _ => False
def pk (e : MapEntry) : Value × Value := (e.key, e.val)
section
variable {κ ν : Type} {ek : κ → Value} {R : ν → Value → Prop}
theorem ents_pents : ∀ {es : List MapEntry} {L : List (κ × ν)}, Ents ek R es L → PEnts ek R (es.map pk) L
  | [], [], _ => trivial
  | _ :: _, _ :: _, h => ⟨h.1, h.2.1, ents_pents h.2.2⟩
theorem pents_ents : ∀ {es : List MapEntry} {L : List (κ × ν)}, PEnts ek R (es.map pk) L → Ents ek R es L
  | [], [], _ => trivial
  | _ :: _, _ :: _, h => ⟨h.1, h.2.1, pents_ents h.2.2⟩
theorem pents_perm {l1 l2 : List (Value × Value)} (hp : l1.Perm l2) : ∀ {L1 : List (κ × ν)}, PEnts ek R l1 L1 → ∃ L2, PEnts ek R l2 L2 ∧ L2.Perm L1 := by
  induction hp with
  | nil => intro L1 h; exact ⟨L1, h, .refl _⟩
  | cons x _ ih =>
    intro L1 h
    match L1, h with
    | p :: L, ⟨h1, h2, h3⟩ =>
      obtain ⟨L2, q1, q2⟩ := ih h3
      exact ⟨p :: L2, ⟨h1, h2, q1⟩, q2.cons p⟩
  | swap x y l =>
    intro L1 h
    match L1, h with
    | p :: q :: L, ⟨h1, h2, h3, h4, h5⟩ => exact ⟨q :: p :: L, ⟨h3, h4, h1, h2, h5⟩, .swap _ _ _⟩
  | trans _ _ ih1 ih2 =>
    intro L1 h
    obtain ⟨L2, q1, q2⟩ := ih1 h
    obtain ⟨L3, q3, q4⟩ := ih2 q1
    exact ⟨L3, q3, q4.trans q2⟩
theorem pents_filter {f : Value × Value → Bool} {g : κ × ν → Bool} (hfg : ∀ e p, e.1 = ek p.1 → f e = g p) : ∀ {l : List (Value × Value)} {L : List (κ × ν)}, PEnts ek R l L → PEnts ek R (l.filter f) (L.filter g)
  | [], [], _ => trivial
  | e :: l, p :: L, ⟨h1, h2, h3⟩ => by
    have ih := pents_filter hfg h3
    rw [List.filter_cons, List.filter_cons, hfg e p h1]
    by_cases hg : g p = true
    · rw [if_pos hg, if_pos hg]; exact ⟨h1, h2, ih⟩
    · rw [if_neg hg, if_neg hg]; exact ih
end
def unlit (p : Lit × DataW Value) : Value × Value := (match p.1 with
  | .int q x => .int q x
  | _ => .bool false, match p.2 with
  | .held v => v
  | _ => .bool false)
def keepsB (S : List (Int × Unit)) (e : Value × Value) : Bool := match e.1 with
  | .int _ x => (mget S x).isSome
  | _ => false

theorem rd_form {x : MapEntry} {y : Lit × DataW Value} (h : Go.WideElems.rd Try.prog 24 heldR x = some y) : ∃ k, x.key = .int .u64 k ∧ y = (.int .u64 k, .held x.val) := by
  obtain ⟨k, h1, h2, _⟩ := keyOf_int_inv Try.underlying24 (Go.WideElems.rd_key h)
  obtain ⟨z, h3, h4⟩ := Go.WideElems.rd_val h
  obtain ⟨_, rfl⟩ := heldR_inv h3
  obtain ⟨y1, y2⟩ := y
  simp only at h2 h4
  exact ⟨k, h1, by rw [h2, h4]⟩
theorem unlit_rg {x : MapEntry} {y : Lit × DataW Value} (h : Go.WideElems.rd Try.prog 24 heldR x = some y) : unlit (Go.WideElems.rg Try.prog 24 heldR x) = pk x := by
  obtain ⟨k, h1, rfl⟩ := rd_form h
  rw [Go.WideElems.rg_of h]
  unfold unlit pk
  rw [h1]

theorem mapIs_held {w : World} {m : Nat} {L : List (Int × CommitD)} (h : MapIs (Value.int .u64) gcIs w m L) (hL : L.length ≤ maxLen) (hw : numsIn (mkeys L)) (S : List (Int × Unit)) :
    ∃ D, w.ownsMap Try.prog 24 heldR m L.length D ∧ ∀ w' : World, w'.ownsMap Try.prog 24 heldR m L.length (Lib.deleteFuncD (pdS S) D) → w.grownBy w' (some m) →
      ∃ L', MapIs (Value.int .u64) gcIs w' m L' ∧ L'.Perm (L.filter fun p => (mget S p.1).isSome) := by
  obtain ⟨es, c, hb, hs, he⟩ := h.ex
  have hlen := he.length
  have hrd : ∀ x ∈ es.toList, ∃ y, Go.WideElems.rd Try.prog 24 heldR x = some y := fun x hx => by
    obtain ⟨j, hj⟩ := List.mem_iff_getElem?.1 hx
    obtain ⟨p, hp, h1, h2⟩ := he.at_ hj
    obtain ⟨z, hz⟩ := gcIs_cv h2
    have hk : keyOf Try.prog 24 (.int .u64 p.1) = some (.int .u64 p.1) := Maps.keyOf_int_mk Try.underlying24 (hw p.1 (List.mem_map.2 ⟨p, List.mem_of_getElem? hp, rfl⟩))
    exact ⟨(.int .u64 p.1, .held x.val), by simp only [Go.WideElems.rd, h1, hk, hz, heldR_of, Option.bind_some, Option.map_some]⟩
  refine ⟨_, ⟨es, c, hb, ⟨by simpa using (show es.toList.length ≤ maxLen by rw [hlen]; exact hL), hs, hrd⟩, by simpa using (show es.toList.length ≤ L.length by omega), rfl⟩, fun w' hown hg => ?_⟩
  obtain ⟨es', c', hb', F', _, hD'⟩ := hown
  unfold Lib.deleteFuncD at hD'
  simp only [DataW.map.injEq] at hD'
  have p1 := ((Go.WideShapes.sorted_perm (es.toList.map (Go.WideElems.rg Try.prog 24 heldR))).filter fun p => !pdS S p.1 p.2)
  have p2 := Go.WideShapes.sorted_perm (es'.toList.map (Go.WideElems.rg Try.prog 24 heldR))
  rw [hD'] at p1
  have p3 := (p1.symm.trans p2).map unlit
  have e1 : (es'.toList.map (Go.WideElems.rg Try.prog 24 heldR)).map unlit = es'.toList.map pk := by
    rw [List.map_map]
    exact List.map_congr_left fun x hx => by obtain ⟨y, hy⟩ := F'.reads x hx; exact unlit_rg hy
  have e2 : ((es.toList.map (Go.WideElems.rg Try.prog 24 heldR)).filter fun p => !pdS S p.1 p.2).map unlit = (es.toList.map pk).filter (keepsB S) := by
    rw [List.filter_map, List.filter_map, List.map_map]
    have e3 : es.toList.filter ((fun p : Lit × DataW Value => !pdS S p.1 p.2) ∘ Go.WideElems.rg Try.prog 24 heldR) = es.toList.filter (keepsB S ∘ pk) := List.filter_congr fun x hx => by
      obtain ⟨y, hy⟩ := hrd x hx
      obtain ⟨k, h1, rfl⟩ := rd_form hy
      simp only [Function.comp, Go.WideElems.rg_of hy, pdS, keepsB, pk, h1, Bool.not_not]
    rw [e3]
    exact List.map_congr_left fun x hx => by obtain ⟨y, hy⟩ := hrd x (List.mem_filter.1 hx).1; exact unlit_rg hy
  rw [e1, e2] at p3
  have q1 := pents_filter (f := keepsB S) (g := fun p => (mget S p.1).isSome) (fun e p hp => by unfold keepsB; rw [hp]) (ents_pents he)
  obtain ⟨L', q2, q3⟩ := pents_perm p3 q1
  have hbut := But.of_grown hg
  have hcells := hbut.cells hb rfl
  exact ⟨L', ⟨es', c', hb', F'.stamped, (pents_ents q2).mono (fun v x hx => gcs_onCells w w' v x hcells hx)⟩, q3⟩

theorem keep1_calls (w : World) (B mm : Nat) (S : List (Int × Unit)) (hc : w.cell? ⟨B, 0, none⟩ = some (.map (some mm))) (hM : MapIs (Value.int .u64) boolIs w mm S) (x i : Int) (A : Option Addr) (n k : Nat) (g r : Int) (t : ByteArray) :
    Calls Try.prog 101 #[.int .u64 x, .agg #[.int .u64 i, .slice A n k, .int .u64 g, .int .u64 r, .string t], .pointer (some ⟨B, 0, none⟩)] w fun e w' => e = .returned (.bool (!(mget S x).isSome)) ∧ Below w.heap.size w w' := by
  have HM := Lib.hid hM; clear hM
  have hlt := cell_lt hc
  have hB := bel_al0 (Below.refl w.heap.size w) (.cells #[.int .u64 i, .slice A n k, .int .u64 g, .int .u64 r, .string t] 69)
  cases hq : mget S x with
  | none =>
    have HQ := Lib.hid hq; clear hq
    go_enter Try.func101, Try.ntmps101
    go_wp2_with (at_lookup; refine wpl_look_none rfl false _ _ 117 4 rfl keyU Try.underlying117 _ (fun W => zeroBool W) rfl x rfl (HM.out.below bools_onCells hB) HQ.out ?_)
    go_ret
    exact ⟨rfl, by (repeat (first | (with_reducible exact Below.refl _ _) | (with_reducible assumption) | (with_reducible refine bel_al0 ?_ _) | (with_reducible refine bel_set ?_ (by first | (simp; done) | (simp; omega)) _) | (with_reducible refine bel_dr ?_) | (with_reducible refine bel_drn ?_ _) | (with_reducible refine bel_tr ?_ (by assumption))))⟩
  | some u =>
    have HQ := Lib.hid hq; clear hq
    go_enter Try.func101, Try.ntmps101
    go_wp2_with (at_lookup; refine wpl_look_some rfl false _ _ 117 4 rfl keyU Try.underlying117 rfl x rfl (HM.out.below bools_onCells hB) HQ.out ?_; intro u hu; unfold boolIs at hu; subst hu)
    go_ret
    exact ⟨rfl, by (repeat (first | (with_reducible exact Below.refl _ _) | (with_reducible assumption) | (with_reducible refine bel_al0 ?_ _) | (with_reducible refine bel_set ?_ (by first | (simp; done) | (simp; omega)) _) | (with_reducible refine bel_dr ?_) | (with_reducible refine bel_drn ?_ _) | (with_reducible refine bel_tr ?_ (by assumption))))⟩

theorem grown_of_below {w w' : World} (h : Below w.heap.size w w') : w.grownBy w' none := ⟨h.os, h.tape, h.output, h.size, fun i hi _ => h.block i hi⟩
set_option maxHeartbeats 4000000 in
theorem delKeep_calls (w : World) (m n : Nat) (D : DataW Value) (hown : w.ownsMap Try.prog 24 heldR m n D) (B mm : Nat) (S : List (Int × Unit)) (hc : w.cell? ⟨B, 0, none⟩ = some (.map (some mm))) (hM : MapIs (Value.int .u64) boolIs w mm S) (hB : B ≠ m) (hmm : mm ≠ m) :
    Calls Try.prog 100 #[.map (some m), .func (.func 101) #[] #[.pointer (some ⟨B, 0, none⟩)]] w fun e w' => e = .returned (.tuple #[]) ∧ w'.ownsMap Try.prog 24 heldR m n (Lib.deleteFuncD (pdS S) D) ∧ w.grownBy w' (some m) := by
  have K : Keyed Try.prog 24 := int_keyed Try.underlying24
  obtain ⟨es0, rfl, hap, hkeys⟩ := hown.entries K
  have HD := Lib.hid (fun W (hg : w.grownBy W (some m)) x i A n k g r t => keep1_calls W B mm S (((But.of_grown hg).cell (p := ⟨B, 0, none⟩) (cell_lt hc) hB).trans hc) (MapIs.but_bools hM hmm (But.of_grown hg)) x i A n k g r t)
  clear hc hM
  have HAP := Lib.hid hap; clear hap
  go_enter Try.func100, Try.ntmps100
  go_wp2_with (first
    | (at_range; refine wpList_range_own _ rfl _ 110 rfl 24 69 K Try.underlying110 heldR m n _ rfl hown ?_; intro w0 hrg0 hg0 hs0)
    | go_in)
  go_frame
  clear hown
  go_loopw [8] (fun _ wr => ∃ (left : Lit → Bool) (cnt : Nat), Hid (wr.ranges Try.prog 24 heldR m w.heap.size n (Fk (pdS S) es0 left) left cnt) ∧ w.grownBy wr (some m))
    (fun _ wr => wr.rangeLeft m w.heap.size)
  case atStart => exact ⟨_, _, by show World.ranges _ _ _ _ _ _ _ _ _ _; rw [Fk_start hkeys]; exact hrg0, hg0.but _⟩
  case round =>
    obtain ⟨left, cnt, hrg, hgw⟩ := hrel
    go_wp2_with (first
      | (at_next; refine wpList_next_ranges _ rfl _ rfl 24 K heldR (Value.int .u64) cv (fun key kl hk => by obtain ⟨x, rfl, _⟩ := keyOf_int_inv Try.underlying24 hk; exact ⟨x, rfl⟩) (fun v y hv => (heldR_inv hv).1) m w.heap.size n _ _ _ rfl hrg.out ?_ ?_)
      | go_in)
    · intro _ hl0
      have HR : Hid (wr.ownsMap Try.prog 24 heldR m n (Lib.deleteFuncD (pdS S) (.map es0))) := by show World.ownsMap _ _ _ _ _ _ _; rw [← Fk_end hl0]; exact hrg.out.owns
      go_wp2
      go_end0
      exact ⟨rfl, HR.out, hgw⟩
    · intro x c kl yd yp w1 cnt1 hkey hlx hv hat hrg1 hlt hg1 hs1 hen
      obtain ⟨i, A, nn, kk, g, r, t⟩ := c
      obtain ⟨x', e1, rfl, _⟩ := keyOf_int_inv Try.underlying24 hkey
      cases e1
      have hgw1 := hgw.andThen hg1 (fun j hj => by cases hj; exact Or.inl (Nat.le_refl _))
      have hgw2 : w.grownBy (w1.alloc (.cells #[.int .u64 i, .slice A nn kk, .int .u64 g, .int .u64 r, .string t] 69)) (some m) := hgw1.andThen (World.grownBy_alloc w1 _ none) (fun j hj => by cases hj)
      have HC := Lib.hid (HD.out _ hgw2 x i A nn kk g r t)
      have hbl := hrg1.owns.lt
      have hrl := hrg1.lt
      have hsame : pdS S (.int .u64 x) yd = !(mget S x).isSome := rfl
      have HRG1 := Lib.hid hrg1; clear hrg1
      have HAT := Lib.hid hat; clear hat
      have HKEY := Lib.hid (K.key hkey)
      have HGW2 := Lib.hid hgw2; clear hgw2
      have HLX := Lib.hid hlx; clear hlx
      unfold cv at hen
      cases hp : (mget S x).isSome <;> rw [hp] at hsame HC
      · -- struck
        clear hp
        go_wp2_with (first
          | (go_at_call 101; refine HC.out.mono ?_; rintro e w2 ⟨rfl, hb2⟩; have HRG2 := Lib.hid (((HRG1.out.alloc _).kept (grown_of_below hb2) (by simp) (by simp))); have HGW3 := Lib.hid (HGW2.out.andThen (grown_of_below hb2) (fun j hj => by cases hj)))
          | (at_delete; refine wpList_delete_ranges _ rfl _ _ 110 24 rfl 69 K Try.underlying110 heldR m w.heap.size n _ _ _ rfl HRG2.out _ _ rfl hkey ?_; intro w3 cnt3 hrg3 hle hturn; go_frame)
          | go_in)
        rw [strike_twice] at hrg3
        go_roundw
        case rel => exact ⟨_, cnt3, by show World.ranges _ _ _ _ _ _ _ _ _ _; rw [← Fk_struck HAP.out HKEY.out HLX.out hsame HAT.out]; exact hrg3, HGW3.out.andThen hturn.grown (fun j hj => by cases hj; exact Or.inr rfl)⟩
        case measure => rw [hrg3.left_eq, hrg.out.left_eq]; omega
      · -- stays
        clear hp
        go_wp2_with (first
          | (go_at_call 101; refine HC.out.mono ?_; rintro e w2 ⟨rfl, hb2⟩; have HRG2 := Lib.hid (((HRG1.out.alloc _).kept (grown_of_below hb2) (by simp) (by simp))); have HGW3 := Lib.hid (HGW2.out.andThen (grown_of_below hb2) (fun j hj => by cases hj)))
          | go_in)
        go_roundw
        case rel => exact ⟨_, cnt1, by show World.ranges _ _ _ _ _ _ _ _ _ _; rw [← Fk_stays HAP.out HKEY.out HLX.out hsame HAT.out]; exact HRG2.out, HGW3.out⟩
        case measure => rw [HRG2.out.left_eq, hrg.out.left_eq]; exact hlt

/-- what Keep leaves -/
def KeepPost (w : World) (p m : Nat) (L : List (Int × CommitD)) (ids : List Int) (e : Ending) (w' : World) : Prop :=
  ∃ L' : List (Int × CommitD), e = .returned (.int .i64 ((L.length : Int) - (L'.length : Int))) ∧ GraphAt w' p m L' ∧ L'.Perm (L.filter fun q => (mget (reachS L ids) q.1).isSome) ∧ But m w w'
set_option maxHeartbeats 4000000 in
theorem keep_calls (w : World) (p m : Nat) (L : List (Int × CommitD)) (h : GraphAt w p m L) (hO : LOk L) (hL : L.length ≤ 100000) (hw : numsIn (mkeys L)) (A : Option Addr) (n k : Nat) (ids : List Int) (hn : ids.length = n) (hf : Flat w A (nums ids)) (hA : A = none → ids = []) (hn2 : n ≤ 100000) :
    Calls Try.prog 66 #[.pointer (some ⟨p, 0, none⟩), .slice A n k] w (KeepPost w p m L ids) := by
  have HR := Lib.hid (reach_calls w p m L h hO hL A n k ids hn hf hA hn2)
  unfold KeepPost
  obtain ⟨S, hS⟩ : ∃ S, S = reachS L ids := ⟨_, rfl⟩
  rw [← hS] at HR ⊢
  have hfl : (L.filter fun q => (mget S q.1).isSome).length ≤ L.length := List.length_filter_le _ _
  clear hS hO hf hA hn
  have hc := h.1
  have hpl := cell_lt hc
  have hml := h.2.lt
  have hne := h.ne
  have H := Lib.hid h; clear h
  have hlen0 := fun ty => H.out.2.len 110 ty Try.underlying110
  go_enter Try.func66, Try.ntmps66
  go_upto_region 5 with (first
    | (go_at_call 82; refine (gok_yes p m _ hc).mono ?_; rintro e w' ⟨rfl, rfl⟩)
    | (go_at_call 85; refine HR.out.mono ?_; rintro e w1 ⟨mm, rfl, hM, hb1, hmm⟩; have HM := Lib.hid hM; clear hM; have hc1 := cell_bel hc hb1))
  obtain ⟨W2, hW2⟩ : ∃ W2, W2 = w1.alloc (.cells #[.map (some mm)] 117) := ⟨_, rfl⟩
  have hb2 : Below w.heap.size w W2 := by rw [hW2]; exact bel_al0 hb1 _
  have hc2 := cell_bel hc hb2
  have hs2 : W2.cell? ⟨w1.heap.size, 0, none⟩ = some (.map (some mm)) := by rw [hW2]; exact cell_at_new _ _ _ 0 rfl
  have hM2 : MapIs (Value.int .u64) boolIs W2 mm S := by rw [hW2]; exact HM.out.below bools_onCells (bel_al0 (Below.refl _ _) _)
  have hz1 := hb1.size
  have H2 := Lib.hid (H.out.below hb2)
  obtain ⟨D, hD, hback⟩ := mapIs_held H2.out.2 (by unfold maxLen; omega) hw S
  have HDEL := Lib.hid (delKeep_calls W2 m L.length D hD w1.heap.size mm S hs2 hM2 (by omega) (by omega))
  have HBACK := Lib.hid hback
  rw [← hW2]
  clear hW2 hM2 hs2 hD hback HM HR
  have HB2 := Lib.hid hb2; clear hb2
  go_wp2_with (first
    | (go_at_call 100; refine HDEL.out.mono ?_; rintro e w3 ⟨rfl, ho3, hg3⟩; obtain ⟨L', hm3, hp3⟩ := HBACK.out w3 ho3 hg3; have hl3 : L'.length ≤ L.length := (by rw [hp3.length_eq]; exact hfl); have HBUT := Lib.hid (But.of_grown hg3); clear ho3 hg3; have hlen3 := (fun ty => hm3.len 110 ty Try.underlying110); have HM3 := Lib.hid hm3; clear hm3; obtain ⟨o9, ho9, hoc9⟩ := H2.out.2.notCells; have hc3 := HBUT.out.cell_keeps ho9 hoc9 hc2; clear ho9 hoc9))
  go_ret
  exact ⟨L', by go_num, ⟨hc3, HM3.out⟩, hp3, (But.of_below HB2.out).trans HBUT.out⟩
end Go.Proofs.Ytehneliphhgegaa
