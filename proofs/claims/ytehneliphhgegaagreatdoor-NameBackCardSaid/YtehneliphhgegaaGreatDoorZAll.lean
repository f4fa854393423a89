/- What a graph's commits are called, told one by one: the iterator that ranges over the iterator of the numbers. -/
import Derived.Test.YtehneliphhgegaaGreatDoorZIds
import Derived.Test.YtehneliphhgegaaGreatDoorZKDOfN
import Derived.RangeFuncCalls
import Derived.OrdersIn
import Derived.Stop.RegionWithIn
set_option linter.unusedVariables false
set_option linter.unusedSimpArgs false
set_option maxRecDepth 100000
namespace Go.Proofs.YtehneliphhgegaaGreatDoor
open Go.RowKit Go.Apo Go.Shelf
attribute [local go_sem] Oper.semAt_some

theorem allF_calls (gq : Option Addr) (A : Option Addr) (n c : Nat) (w : World) :
    Calls Tryz.prog 9 #[.pointer gq, .slice A n c] w fun e w' => e = .returned (.func (.func 18) #[] #[.pointer (some ⟨w.heap.size, 0, none⟩), .pointer (some ⟨w.heap.size + 1, 0, none⟩)]) ∧ w' = (w.alloc (.cells #[.pointer gq] 27)).alloc (.cells #[.slice A n c] 23) := by
  go_enter Tryz.func9, Tryz.ntmps9
  go_wp2
  go_ret
  exact ⟨by simp, rfl⟩
theorem boxed_ownR {β : Type} (B C : Nat) (t : TypeId) (v : Value) : OwnFrom B (fun (_ : β) W => Boxed W C t v) := fun s W W' row hs hg hr => Boxed.kept hs hg (fun e => by
  obtain ⟨o, ho, hc⟩ := (hr _ e.symm).2
  rw [show W.heap[C]? = _ from hs] at ho
  cases ho
  cases hc)
def encN (x : Int × ByteArray) : Array Value := #[.int .u64 x.1, .string x.2]
/-- each commit with what it is called -/
def allN (L : List (Int × CommitD)) (l : List RefD) : List (Int × ByteArray) := (sortI (mkeys L)).map fun id => (id, ofV L l id)
/-- what the iterator reads between two rounds -/
structure TabN (W : World) (B1 B2 : Nat) (gq : Option Addr) (L : List (Int × CommitD)) (A : Option Addr) (n c : Nat) (l : List RefD) : Prop where
  c1 : W.cell? ⟨B1, 0, none⟩ = some (.pointer gq)
  c2 : W.cell? ⟨B2, 0, none⟩ = some (.slice A n c)
  g : GP W gq L
  row : RefRow W A n l
  v : VarsOk W
theorem TabN.below {W W' : World} {B1 B2 : Nat} {gq : Option Addr} {L : List (Int × CommitD)} {A : Option Addr} {n c : Nat} {l : List RefD} (h : TabN W B1 B2 gq L A n c l) (hb : Below W.heap.size W W') : TabN W' B1 B2 gq L A n c l :=
  ⟨cell_bel h.c1 hb, cell_bel h.c2 hb, h.g.below hb, h.row.below hb, h.v.below hb⟩
theorem round_any {m m' : Nat} {P : Program} {l : Nat} {f : FuncId} {tmps : Array Value} {assign body : Code} {w : World} {R : Ending → World → Prop} (h : RoundIn Fence.wide m P l f tmps assign body w R) : RoundIn Fence.wide m' P l f tmps assign body w R :=
  ⟨trivial, fun c cs _ => h.2 c cs (room_wide _)⟩
/-- no operation of some is a deferred call -/
def noDefer (ops : Array Oper) : Bool := ops.all fun o => match o.op with
  | .defer _ => false
  | _ => true
theorem noDefer_spec {ops : Array Oper} (h : noDefer ops = true) {i : Nat} {o : Oper} (hi : ops[i]? = some o) : ∀ c, o.op ≠ .defer c := fun c e => by
  unfold noDefer at h
  rw [Array.all_eq_true] at h
  obtain ⟨hlt, he⟩ := Array.getElem?_eq_some_iff.1 hi
  have := h i hlt
  rw [he, e] at this
  cases this
theorem wpOpIn_round {F : Fence} {n : Nat} {P : Program} {ops : Array Oper} {Q : Exit → Act → World → Prop} {i l : Nat} {K : Act → World → Prop} {a : Act} {w : World} (hro : F.round = none) (hnd : noDefer ops = true)
    (h : wpOpIn F n P ops Q i K a w) : wpOpIn (F.inRound l) n P ops Q i K a w := by
  unfold wpOpIn at *
  cases ho : ops[i]? with
  | none => simpa [ho] using h
  | some o =>
    simp only [ho] at h ⊢
    by_cases hw : Region.wanted o (yielded ops a.tmps) = true
    · simp only [hw, if_true] at h ⊢
      unfold Oper.wpIn at *
      refine ⟨h.1, ?_⟩
      have h2 := h.2
      rw [hro, Oper.semAt_none] at h2
      show Oper.uponIn (F.inRound l) n P o a K Q ((o.semAt (some l) a.eval).run P w)
      rw [Oper.semAt_some l _ o (noDefer_spec hnd ho)]
      generalize (execOp a.eval o).run P w = r at *
      cases r with
      | ok x w' => cases x <;> exact h2
      | halt x w' => cases x <;> exact h2
    · simp only [hw] at h ⊢
      exact h
theorem wpAnyIn_round {F : Fence} {n : Nat} {P : Program} {md : Region.Mode} {ops : Array Oper} {Q : Exit → Act → World → Prop} {l : Nat} (hro : F.round = none) (hnd : noDefer ops = true) :
    ∀ (fuel : Nat) (listed : Array Bool) (a : Act) (w : World), wpAnyIn F n P md ops Q fuel listed a w → wpAnyIn (F.inRound l) n P md ops Q fuel listed a w
  | 0, listed, a, w, h => h
  | fuel + 1, listed, a, w, h => ⟨h.1, fun i hi => wpOpIn_round hro hnd (wpOpIn_mono (fun a' w' h' => wpAnyIn_round hro hnd fuel _ a' w' h') (h.2 i hi))⟩
theorem yield_post {e : Ending} {A B C : Prop} (h : (e = .returned (.bool true) ∧ A ∧ C) ∨ (e = .returned (.bool false) ∧ B ∧ C)) : ∃ b, e = .returned (.bool b) ∧ (b = true → A) ∧ (b = false → B) ∧ C := by
  rcases h with ⟨h1, h2, h3⟩ | ⟨h1, h2, h3⟩
  · exact ⟨true, h1, fun _ => h2, (fun e => by cases e), h3⟩
  · exact ⟨false, h1, (fun e => by cases e), fun _ => h2, h3⟩
theorem span_below {B G : Nat} {W W' : World} (h : Below W.heap.size W W') (hG : G ≤ W.heap.size) : KeepsSpan B G W W' := ⟨h.size, fun k _ hk => h.block k (by omega)⟩
set_option maxHeartbeats 4000000 in
theorem all1_K (d : Nat) (hd : 3 ≤ d) (w : World) (B1 B2 : Nat) (gq : Option Addr) (L : List (Int × CommitD)) (A : Option Addr) (n c : Nat) (l : List RefD) (h : TabN w B1 B2 gq L A n c l) (hL : L.length ≤ 1000000) (hw : numsIn (mkeys L)) (hF : Falls L) (hbig : ∀ i, (lineL L i).length ≤ 25) (hnc : n ≤ c) (hn : n ≤ 1000) :
    SeqK Fence.wide d Tryz.prog 18 #[.pointer (some ⟨B1, 0, none⟩), .pointer (some ⟨B2, 0, none⟩)] encN (allN L l) (fun W => TabN W B1 B2 gq L A n c l) w := by
  intro lp J Jx W hW hJ hJx hT hY h0
  show CallsIn Fence.wide d Tryz.prog _ #[.func (.yield lp) #[] #[], .pointer (some ⟨B1, 0, none⟩), .pointer (some ⟨B2, 0, none⟩)] W _
  have hTW := h.below hW
  have hcW := hTW.c1
  have hlt := cell_lt hcW
  have f1 : Fence.wide.fn 19 := trivial
  have hd1 : 1 ≤ d := by omega
  have hmix : Tryz.prog.follows .mixedOrders = true := by kernel_rfl
  refine callsIn_of_wp_marks Tryz.func18 rfl trivial ?_ rfl
  simp only [Tryz.ntmps18, List.size_toArray, List.length_cons, List.length_nil, Nat.reduceAdd, Nat.reduceSub, Array.replicate_succ, Array.replicate_zero, List.push_toArray, List.append_toArray, List.nil_append, List.cons_append]
  gi_wp2_with (gi_at_call 19; refine (callsIn_wide.2 (idsF_calls _ _)).mono ?_; rintro e w' ⟨rfl, rfl⟩)
  have bO := Boxed.new W 54 (.func (.yield lp) #[] #[])
  have hB0 : Below W.heap.size W ((W.alloc (.cells #[.func (.yield lp) #[] #[]] 54)).alloc (.cells #[.pointer gq] 27)) := bel_al0 (bel_al0 (Below.refl _ _) _) _
  have hz0 : ((W.alloc (.cells #[.func (.yield lp) #[] #[]] 54)).alloc (.cells #[.pointer gq] 27)).heap.size = W.heap.size + 2 := by simp
  have hbg : ((W.alloc (.cells #[.func (.yield lp) #[] #[]] 54)).alloc (.cells #[.pointer gq] 27)).cell? ⟨W.heap.size + 1, 0, none⟩ = some (.pointer gq) := by
    have := cell_at_new (W.alloc (.cells #[.func (.yield lp) #[] #[]] 54)) #[.pointer gq] 27 0 (v := .pointer gq) rfl
    rw [World.size_alloc] at this
    exact this
  have hJ0 : ∀ G, W.heap.size ≤ G → J G [] ((W.alloc (.cells #[.func (.yield lp) #[] #[]] 54)).alloc (.cells #[.pointer gq] 27)) := fun G hG => (hJ G).alloc _ ((hJ G).alloc _ (h0 G hG))
  have bO2 := bO.alloc (.cells #[.pointer gq] 27)
  have hg2 := hTW.g.below hB0
  clear bO hcW hlt
  generalize (W.alloc (.cells #[.func (.yield lp) #[] #[]] 54)).alloc (.cells #[.pointer gq] 27) = W2 at *
  refine wpIn_rangeFunc_K rfl hd1 (gf := 39) (lb := #[.pointer (some ⟨W.heap.size + 1, 0, none⟩)]) rfl trivial (enters_of Tryz.func39 (by kernel_rfl) rfl)
    (ids1_KGP (d - 1) (by omega) W2 (W.heap.size + 1) gq L hbg hg2 hL hw (fun _ => True)) (Below.refl _ _) (fun _ => rfl)
    (fun G pre W' => J G (pre.map fun id => (id, ofV L l id)) W' ∧ Boxed W' W.heap.size 54 (.func (.yield lp) #[] #[]))
    (fun G c pre W' => c = .ret ∧ Jx G (pre.map fun id => (id, ofV L l id)) W')
    (fun G => OwnFrom.and (fun s X Y row hs hg hr => hJ G _ X Y row hs hg (fun r e => ⟨by have := (hr r e).1; omega, (hr r e).2⟩)) (boxed_ownR _ _ _ _))
    (fun G c s X Y row hs hg hr => ⟨hs.1, hJx G _ X Y row hs.2 hg (fun r e => ⟨by have := (hr r e).1; omega, (hr r e).2⟩)⟩)
    (fun G hG => ⟨hJ0 G (by omega), bO2⟩)
    (fun _ _ _ _ => trivial)
    (fun x => { tmps := #[.func (.yield lp) #[] #[], .pointer (some ⟨B1, 0, none⟩), .pointer (some ⟨B2, 0, none⟩), .pointer (some ⟨W.heap.size, 0, none⟩), .int .u64 x, .pointer gq, .func (.func 39) #[] #[.pointer (some ⟨W.heap.size + 1, 0, none⟩)], .int .u64 x, undef, undef, undef, undef, undef, undef, undef, undef], defers := [] }) ?assign ?body ?done ?stop
  case assign =>
    intro l' x W' K hK
    gi_wp2
    exact hK
  case body =>
    rintro G l' pre x W' hG hGW ⟨hj, hbx⟩ hpre
    have hx : x ∈ mkeys L := mem_sortI.1 (hpre.subset (by simp))
    have hxu := u64_wf (hw x hx)
    have hTb := hT G _ W' hj
    have b1 := hTb.c1
    have b2 := hTb.c2
    have bc := hbx.cell
    have hd2 : 1 ≤ d - 1 - 1 := by omega
    have hpre2 : (pre.map fun id => (id, ofV L l id)) ++ [(x, ofV L l x)] <+: allN L l := by
      have h1 : (pre.map fun id => (id, ofV L l id)) ++ [(x, ofV L l x)] = (pre ++ [x]).map fun id => (id, ofV L l id) := by simp
      rw [h1]
      exact hpre.map _
    have HOF := Lib.hid (fun Z (hZ : Below W'.heap.size W' Z) => cof_calls Z gq L (hTb.g.below hZ) hF hbig A n c l (hTb.row.below hZ) hnc hn x hxu (hTb.v.below hZ))
    have HY := Lib.hid (fun Z (hZ : Below W'.heap.size W' Z) => hY G _ (x, ofV L l x) Z (by omega) (by have := hZ.size; omega) (hJ G _ W' Z none hj (grown_below hZ) (fun r e => by cases e)) hpre2)
    gi_wp2_with fail
    have f2 : Fence.wide.fn 12 := trivial
    have hbd : Below W'.heap.size W' W'.drew := bel_dr (Below.refl _ _)
    refine wpIn_region_any (by kernel_rfl) ?_
    try (change wpAnyIn _ _ _ _ _ _ _ _ _ (World.drew _))
    refine wpAnyIn_round rfl (by kernel_rfl) _ _ _ _ ?_
    refine wpAnyIn_take (i := 1) (v := .int .u64 x) rfl rfl (by kernel_rfl) (by kernel_rfl) (by kernel_rfl) (fun _ _ _ h => h) ⟨Or.inl ⟨by kernel_rfl, fun w => by go_simp⟩, fun _ => rfl⟩ ?_
    refine wpAnyIn_take (i := 4) (v := .int .u64 x) rfl rfl (by kernel_rfl) (by kernel_rfl) (by kernel_rfl) (fun _ _ _ h => h) ⟨Or.inl ⟨by kernel_rfl, fun w => by go_simp⟩, fun _ => rfl⟩ ?_
    refine wpAnyIn_ready (rs := [0, 2, 3]) (by kernel_rfl) (by simp) ?_
    refine AllReadyIn.cons rfl (fun K hK => ?_) ?_
    · go_simp
      try (refine hK _ _ ?_; clear hK K)
      refine wpAnyIn_ready (rs := [2, 3]) (by kernel_rfl) (by simp) ?_
      refine AllReadyIn.cons rfl (fun K hK => ?_) ?_
      · go_simp
        try (refine hK _ _ ?_; clear hK K)
        refine wpAnyIn_ready (rs := [3]) (by kernel_rfl) (by simp) ?_
        refine AllReadyIn.cons rfl (fun K hK => ?_) ?_
        · go_simp
          try (refine hK _ _ ?_; clear hK K)
          refine wpAnyIn_ready (rs := [5]) (by kernel_rfl) (by simp) ?_
          refine AllReadyIn.cons rfl (fun K hK => ?_) ?_
          · go_simp
            gi_wp2_with (first | (gi_at_call 12; refine (callsIn_wide.2 (HOF.out _ hbd)).mono ?_; rintro e w5 ⟨rfl, hb5⟩; have hb5' := bel_tr hbd hb5; obtain ⟨fn, tmps, assign, body, hy, hR⟩ := HY.out w5 hb5'; unfold encN at hy; have bc5 := cell_bel bc hb5'; have hR2 := round_any (m' := d - 1 - 1 - 1) hR; clear hR))
            try (refine hK _ _ ?_; clear hK K)
            refine wpAnyIn_ready (rs := [6]) (by kernel_rfl) (by simp) ?_
            refine AllReadyIn.cons rfl (fun K hK => ?_) ?_
            · go_simp
              gi_wp2_with (first | (with_reducible refine hR2.mono ?_; rintro e W6 hp6; obtain ⟨b, rfl, hp⟩ := yield_post hp6; have HP := Lib.hid hp; clear hp hp6 hR2 hy))
              try (refine hK _ _ ?_; clear hK K)
              refine wpAnyIn_ready (rs := [7]) (by kernel_rfl) (by simp) ?_
              refine AllReadyIn.cons rfl (fun K hK => ?_) ?_
              · go_simp
                try (refine hK _ _ ?_; clear hK K)
                refine wpAnyIn_done (by kernel_rfl) ?_ _
                obtain ⟨h1, h2, h3⟩ := HP.out
                have hsp := (span_below (B := W.heap.size) hb5' hGW).trans h3
                have hsp2 : KeepsSpan W2.heap.size G W' W6 := ⟨hsp.size, fun k k1 k2 => hsp.same k (by omega) k2⟩
                have hbx6 : Boxed W6 W.heap.size 54 (.func (.yield lp) #[] #[]) := (hsp.same W.heap.size (Nat.le_refl _) (by omega)).trans hbx
                have HS := Lib.hid hsp2; rw [hz0] at hsp2; have HS2 := Lib.hid hsp2; have HBX := Lib.hid hbx6; clear h3 hsp hsp2 hbx6 HP
                cases b with
                | true =>
                  have H1 := Lib.hid (h1 rfl); clear h1 h2
                  gi_wp2
                  exact ⟨(by first | exact HS.out | exact HS2.out), by rw [List.map_append]; exact H1.out, HBX.out⟩
                | false =>
                  have H2 := Lib.hid (h2 rfl); clear h1 h2
                  gi_wp2
                  exact ⟨(by first | exact HS.out | exact HS2.out), rfl, by rw [List.map_append]; exact H2.out⟩
              exact AllReadyIn.nil
            exact AllReadyIn.nil
          exact AllReadyIn.nil
        exact AllReadyIn.nil
      refine AllReadyIn.cons rfl (fun K hK => ?_) ?_
      · go_simp
        try (refine hK _ _ ?_; clear hK K)
        refine wpAnyIn_ready (rs := [2]) (by kernel_rfl) (by simp) ?_
        refine AllReadyIn.cons rfl (fun K hK => ?_) ?_
        · go_simp
          try (refine hK _ _ ?_; clear hK K)
          refine wpAnyIn_ready (rs := [5]) (by kernel_rfl) (by simp) ?_
          refine AllReadyIn.cons rfl (fun K hK => ?_) ?_
          · go_simp
            gi_wp2_with (first | (gi_at_call 12; refine (callsIn_wide.2 (HOF.out _ hbd)).mono ?_; rintro e w5 ⟨rfl, hb5⟩; have hb5' := bel_tr hbd hb5; obtain ⟨fn, tmps, assign, body, hy, hR⟩ := HY.out w5 hb5'; unfold encN at hy; have bc5 := cell_bel bc hb5'; have hR2 := round_any (m' := d - 1 - 1 - 1) hR; clear hR))
            try (refine hK _ _ ?_; clear hK K)
            refine wpAnyIn_ready (rs := [6]) (by kernel_rfl) (by simp) ?_
            refine AllReadyIn.cons rfl (fun K hK => ?_) ?_
            · go_simp
              gi_wp2_with (first | (with_reducible refine hR2.mono ?_; rintro e W6 hp6; obtain ⟨b, rfl, hp⟩ := yield_post hp6; have HP := Lib.hid hp; clear hp hp6 hR2 hy))
              try (refine hK _ _ ?_; clear hK K)
              refine wpAnyIn_ready (rs := [7]) (by kernel_rfl) (by simp) ?_
              refine AllReadyIn.cons rfl (fun K hK => ?_) ?_
              · go_simp
                try (refine hK _ _ ?_; clear hK K)
                refine wpAnyIn_done (by kernel_rfl) ?_ _
                obtain ⟨h1, h2, h3⟩ := HP.out
                have hsp := (span_below (B := W.heap.size) hb5' hGW).trans h3
                have hsp2 : KeepsSpan W2.heap.size G W' W6 := ⟨hsp.size, fun k k1 k2 => hsp.same k (by omega) k2⟩
                have hbx6 : Boxed W6 W.heap.size 54 (.func (.yield lp) #[] #[]) := (hsp.same W.heap.size (Nat.le_refl _) (by omega)).trans hbx
                have HS := Lib.hid hsp2; rw [hz0] at hsp2; have HS2 := Lib.hid hsp2; have HBX := Lib.hid hbx6; clear h3 hsp hsp2 hbx6 HP
                cases b with
                | true =>
                  have H1 := Lib.hid (h1 rfl); clear h1 h2
                  gi_wp2
                  exact ⟨(by first | exact HS.out | exact HS2.out), by rw [List.map_append]; exact H1.out, HBX.out⟩
                | false =>
                  have H2 := Lib.hid (h2 rfl); clear h1 h2
                  gi_wp2
                  exact ⟨(by first | exact HS.out | exact HS2.out), rfl, by rw [List.map_append]; exact H2.out⟩
              exact AllReadyIn.nil
            exact AllReadyIn.nil
          exact AllReadyIn.nil
        exact AllReadyIn.nil
      exact AllReadyIn.nil
    refine AllReadyIn.cons rfl (fun K hK => ?_) ?_
    · go_simp
      try (refine hK _ _ ?_; clear hK K)
      refine wpAnyIn_ready (rs := [0, 3]) (by kernel_rfl) (by simp) ?_
      refine AllReadyIn.cons rfl (fun K hK => ?_) ?_
      · go_simp
        try (refine hK _ _ ?_; clear hK K)
        refine wpAnyIn_ready (rs := [3]) (by kernel_rfl) (by simp) ?_
        refine AllReadyIn.cons rfl (fun K hK => ?_) ?_
        · go_simp
          try (refine hK _ _ ?_; clear hK K)
          refine wpAnyIn_ready (rs := [5]) (by kernel_rfl) (by simp) ?_
          refine AllReadyIn.cons rfl (fun K hK => ?_) ?_
          · go_simp
            gi_wp2_with (first | (gi_at_call 12; refine (callsIn_wide.2 (HOF.out _ hbd)).mono ?_; rintro e w5 ⟨rfl, hb5⟩; have hb5' := bel_tr hbd hb5; obtain ⟨fn, tmps, assign, body, hy, hR⟩ := HY.out w5 hb5'; unfold encN at hy; have bc5 := cell_bel bc hb5'; have hR2 := round_any (m' := d - 1 - 1 - 1) hR; clear hR))
            try (refine hK _ _ ?_; clear hK K)
            refine wpAnyIn_ready (rs := [6]) (by kernel_rfl) (by simp) ?_
            refine AllReadyIn.cons rfl (fun K hK => ?_) ?_
            · go_simp
              gi_wp2_with (first | (with_reducible refine hR2.mono ?_; rintro e W6 hp6; obtain ⟨b, rfl, hp⟩ := yield_post hp6; have HP := Lib.hid hp; clear hp hp6 hR2 hy))
              try (refine hK _ _ ?_; clear hK K)
              refine wpAnyIn_ready (rs := [7]) (by kernel_rfl) (by simp) ?_
              refine AllReadyIn.cons rfl (fun K hK => ?_) ?_
              · go_simp
                try (refine hK _ _ ?_; clear hK K)
                refine wpAnyIn_done (by kernel_rfl) ?_ _
                obtain ⟨h1, h2, h3⟩ := HP.out
                have hsp := (span_below (B := W.heap.size) hb5' hGW).trans h3
                have hsp2 : KeepsSpan W2.heap.size G W' W6 := ⟨hsp.size, fun k k1 k2 => hsp.same k (by omega) k2⟩
                have hbx6 : Boxed W6 W.heap.size 54 (.func (.yield lp) #[] #[]) := (hsp.same W.heap.size (Nat.le_refl _) (by omega)).trans hbx
                have HS := Lib.hid hsp2; rw [hz0] at hsp2; have HS2 := Lib.hid hsp2; have HBX := Lib.hid hbx6; clear h3 hsp hsp2 hbx6 HP
                cases b with
                | true =>
                  have H1 := Lib.hid (h1 rfl); clear h1 h2
                  gi_wp2
                  exact ⟨(by first | exact HS.out | exact HS2.out), by rw [List.map_append]; exact H1.out, HBX.out⟩
                | false =>
                  have H2 := Lib.hid (h2 rfl); clear h1 h2
                  gi_wp2
                  exact ⟨(by first | exact HS.out | exact HS2.out), rfl, by rw [List.map_append]; exact H2.out⟩
              exact AllReadyIn.nil
            exact AllReadyIn.nil
          exact AllReadyIn.nil
        exact AllReadyIn.nil
      refine AllReadyIn.cons rfl (fun K hK => ?_) ?_
      · go_simp
        try (refine hK _ _ ?_; clear hK K)
        refine wpAnyIn_ready (rs := [0, 5]) (by kernel_rfl) (by simp) ?_
        refine AllReadyIn.cons rfl (fun K hK => ?_) ?_
        · go_simp
          try (refine hK _ _ ?_; clear hK K)
          refine wpAnyIn_ready (rs := [5]) (by kernel_rfl) (by simp) ?_
          refine AllReadyIn.cons rfl (fun K hK => ?_) ?_
          · go_simp
            gi_wp2_with (first | (gi_at_call 12; refine (callsIn_wide.2 (HOF.out _ hbd)).mono ?_; rintro e w5 ⟨rfl, hb5⟩; have hb5' := bel_tr hbd hb5; obtain ⟨fn, tmps, assign, body, hy, hR⟩ := HY.out w5 hb5'; unfold encN at hy; have bc5 := cell_bel bc hb5'; have hR2 := round_any (m' := d - 1 - 1 - 1) hR; clear hR))
            try (refine hK _ _ ?_; clear hK K)
            refine wpAnyIn_ready (rs := [6]) (by kernel_rfl) (by simp) ?_
            refine AllReadyIn.cons rfl (fun K hK => ?_) ?_
            · go_simp
              gi_wp2_with (first | (with_reducible refine hR2.mono ?_; rintro e W6 hp6; obtain ⟨b, rfl, hp⟩ := yield_post hp6; have HP := Lib.hid hp; clear hp hp6 hR2 hy))
              try (refine hK _ _ ?_; clear hK K)
              refine wpAnyIn_ready (rs := [7]) (by kernel_rfl) (by simp) ?_
              refine AllReadyIn.cons rfl (fun K hK => ?_) ?_
              · go_simp
                try (refine hK _ _ ?_; clear hK K)
                refine wpAnyIn_done (by kernel_rfl) ?_ _
                obtain ⟨h1, h2, h3⟩ := HP.out
                have hsp := (span_below (B := W.heap.size) hb5' hGW).trans h3
                have hsp2 : KeepsSpan W2.heap.size G W' W6 := ⟨hsp.size, fun k k1 k2 => hsp.same k (by omega) k2⟩
                have hbx6 : Boxed W6 W.heap.size 54 (.func (.yield lp) #[] #[]) := (hsp.same W.heap.size (Nat.le_refl _) (by omega)).trans hbx
                have HS := Lib.hid hsp2; rw [hz0] at hsp2; have HS2 := Lib.hid hsp2; have HBX := Lib.hid hbx6; clear h3 hsp hsp2 hbx6 HP
                cases b with
                | true =>
                  have H1 := Lib.hid (h1 rfl); clear h1 h2
                  gi_wp2
                  exact ⟨(by first | exact HS.out | exact HS2.out), by rw [List.map_append]; exact H1.out, HBX.out⟩
                | false =>
                  have H2 := Lib.hid (h2 rfl); clear h1 h2
                  gi_wp2
                  exact ⟨(by first | exact HS.out | exact HS2.out), rfl, by rw [List.map_append]; exact H2.out⟩
              exact AllReadyIn.nil
            exact AllReadyIn.nil
          exact AllReadyIn.nil
        refine AllReadyIn.cons rfl (fun K hK => ?_) ?_
        · go_simp
          gi_wp2_with (first | (gi_at_call 12; refine (callsIn_wide.2 (HOF.out _ hbd)).mono ?_; rintro e w5 ⟨rfl, hb5⟩; have hb5' := bel_tr hbd hb5; obtain ⟨fn, tmps, assign, body, hy, hR⟩ := HY.out w5 hb5'; unfold encN at hy; have bc5 := cell_bel bc hb5'; have hR2 := round_any (m' := d - 1 - 1 - 1) hR; clear hR))
          try (refine hK _ _ ?_; clear hK K)
          refine wpAnyIn_ready (rs := [0]) (by kernel_rfl) (by simp) ?_
          refine AllReadyIn.cons rfl (fun K hK => ?_) ?_
          · go_simp
            try (refine hK _ _ ?_; clear hK K)
            refine wpAnyIn_ready (rs := [6]) (by kernel_rfl) (by simp) ?_
            refine AllReadyIn.cons rfl (fun K hK => ?_) ?_
            · go_simp
              gi_wp2_with (first | (with_reducible refine hR2.mono ?_; rintro e W6 hp6; obtain ⟨b, rfl, hp⟩ := yield_post hp6; have HP := Lib.hid hp; clear hp hp6 hR2 hy))
              try (refine hK _ _ ?_; clear hK K)
              refine wpAnyIn_ready (rs := [7]) (by kernel_rfl) (by simp) ?_
              refine AllReadyIn.cons rfl (fun K hK => ?_) ?_
              · go_simp
                try (refine hK _ _ ?_; clear hK K)
                refine wpAnyIn_done (by kernel_rfl) ?_ _
                obtain ⟨h1, h2, h3⟩ := HP.out
                have hsp := (span_below (B := W.heap.size) hb5' hGW).trans h3
                have hsp2 : KeepsSpan W2.heap.size G W' W6 := ⟨hsp.size, fun k k1 k2 => hsp.same k (by omega) k2⟩
                have hbx6 : Boxed W6 W.heap.size 54 (.func (.yield lp) #[] #[]) := (hsp.same W.heap.size (Nat.le_refl _) (by omega)).trans hbx
                have HS := Lib.hid hsp2; rw [hz0] at hsp2; have HS2 := Lib.hid hsp2; have HBX := Lib.hid hbx6; clear h3 hsp hsp2 hbx6 HP
                cases b with
                | true =>
                  have H1 := Lib.hid (h1 rfl); clear h1 h2
                  gi_wp2
                  exact ⟨(by first | exact HS.out | exact HS2.out), by rw [List.map_append]; exact H1.out, HBX.out⟩
                | false =>
                  have H2 := Lib.hid (h2 rfl); clear h1 h2
                  gi_wp2
                  exact ⟨(by first | exact HS.out | exact HS2.out), rfl, by rw [List.map_append]; exact H2.out⟩
              exact AllReadyIn.nil
            exact AllReadyIn.nil
          exact AllReadyIn.nil
        exact AllReadyIn.nil
      exact AllReadyIn.nil
    refine AllReadyIn.cons rfl (fun K hK => ?_) ?_
    · go_simp
      try (refine hK _ _ ?_; clear hK K)
      refine wpAnyIn_ready (rs := [0, 2]) (by kernel_rfl) (by simp) ?_
      refine AllReadyIn.cons rfl (fun K hK => ?_) ?_
      · go_simp
        try (refine hK _ _ ?_; clear hK K)
        refine wpAnyIn_ready (rs := [2]) (by kernel_rfl) (by simp) ?_
        refine AllReadyIn.cons rfl (fun K hK => ?_) ?_
        · go_simp
          try (refine hK _ _ ?_; clear hK K)
          refine wpAnyIn_ready (rs := [5]) (by kernel_rfl) (by simp) ?_
          refine AllReadyIn.cons rfl (fun K hK => ?_) ?_
          · go_simp
            gi_wp2_with (first | (gi_at_call 12; refine (callsIn_wide.2 (HOF.out _ hbd)).mono ?_; rintro e w5 ⟨rfl, hb5⟩; have hb5' := bel_tr hbd hb5; obtain ⟨fn, tmps, assign, body, hy, hR⟩ := HY.out w5 hb5'; unfold encN at hy; have bc5 := cell_bel bc hb5'; have hR2 := round_any (m' := d - 1 - 1 - 1) hR; clear hR))
            try (refine hK _ _ ?_; clear hK K)
            refine wpAnyIn_ready (rs := [6]) (by kernel_rfl) (by simp) ?_
            refine AllReadyIn.cons rfl (fun K hK => ?_) ?_
            · go_simp
              gi_wp2_with (first | (with_reducible refine hR2.mono ?_; rintro e W6 hp6; obtain ⟨b, rfl, hp⟩ := yield_post hp6; have HP := Lib.hid hp; clear hp hp6 hR2 hy))
              try (refine hK _ _ ?_; clear hK K)
              refine wpAnyIn_ready (rs := [7]) (by kernel_rfl) (by simp) ?_
              refine AllReadyIn.cons rfl (fun K hK => ?_) ?_
              · go_simp
                try (refine hK _ _ ?_; clear hK K)
                refine wpAnyIn_done (by kernel_rfl) ?_ _
                obtain ⟨h1, h2, h3⟩ := HP.out
                have hsp := (span_below (B := W.heap.size) hb5' hGW).trans h3
                have hsp2 : KeepsSpan W2.heap.size G W' W6 := ⟨hsp.size, fun k k1 k2 => hsp.same k (by omega) k2⟩
                have hbx6 : Boxed W6 W.heap.size 54 (.func (.yield lp) #[] #[]) := (hsp.same W.heap.size (Nat.le_refl _) (by omega)).trans hbx
                have HS := Lib.hid hsp2; rw [hz0] at hsp2; have HS2 := Lib.hid hsp2; have HBX := Lib.hid hbx6; clear h3 hsp hsp2 hbx6 HP
                cases b with
                | true =>
                  have H1 := Lib.hid (h1 rfl); clear h1 h2
                  gi_wp2
                  exact ⟨(by first | exact HS.out | exact HS2.out), by rw [List.map_append]; exact H1.out, HBX.out⟩
                | false =>
                  have H2 := Lib.hid (h2 rfl); clear h1 h2
                  gi_wp2
                  exact ⟨(by first | exact HS.out | exact HS2.out), rfl, by rw [List.map_append]; exact H2.out⟩
              exact AllReadyIn.nil
            exact AllReadyIn.nil
          exact AllReadyIn.nil
        exact AllReadyIn.nil
      refine AllReadyIn.cons rfl (fun K hK => ?_) ?_
      · go_simp
        try (refine hK _ _ ?_; clear hK K)
        refine wpAnyIn_ready (rs := [0, 5]) (by kernel_rfl) (by simp) ?_
        refine AllReadyIn.cons rfl (fun K hK => ?_) ?_
        · go_simp
          try (refine hK _ _ ?_; clear hK K)
          refine wpAnyIn_ready (rs := [5]) (by kernel_rfl) (by simp) ?_
          refine AllReadyIn.cons rfl (fun K hK => ?_) ?_
          · go_simp
            gi_wp2_with (first | (gi_at_call 12; refine (callsIn_wide.2 (HOF.out _ hbd)).mono ?_; rintro e w5 ⟨rfl, hb5⟩; have hb5' := bel_tr hbd hb5; obtain ⟨fn, tmps, assign, body, hy, hR⟩ := HY.out w5 hb5'; unfold encN at hy; have bc5 := cell_bel bc hb5'; have hR2 := round_any (m' := d - 1 - 1 - 1) hR; clear hR))
            try (refine hK _ _ ?_; clear hK K)
            refine wpAnyIn_ready (rs := [6]) (by kernel_rfl) (by simp) ?_
            refine AllReadyIn.cons rfl (fun K hK => ?_) ?_
            · go_simp
              gi_wp2_with (first | (with_reducible refine hR2.mono ?_; rintro e W6 hp6; obtain ⟨b, rfl, hp⟩ := yield_post hp6; have HP := Lib.hid hp; clear hp hp6 hR2 hy))
              try (refine hK _ _ ?_; clear hK K)
              refine wpAnyIn_ready (rs := [7]) (by kernel_rfl) (by simp) ?_
              refine AllReadyIn.cons rfl (fun K hK => ?_) ?_
              · go_simp
                try (refine hK _ _ ?_; clear hK K)
                refine wpAnyIn_done (by kernel_rfl) ?_ _
                obtain ⟨h1, h2, h3⟩ := HP.out
                have hsp := (span_below (B := W.heap.size) hb5' hGW).trans h3
                have hsp2 : KeepsSpan W2.heap.size G W' W6 := ⟨hsp.size, fun k k1 k2 => hsp.same k (by omega) k2⟩
                have hbx6 : Boxed W6 W.heap.size 54 (.func (.yield lp) #[] #[]) := (hsp.same W.heap.size (Nat.le_refl _) (by omega)).trans hbx
                have HS := Lib.hid hsp2; rw [hz0] at hsp2; have HS2 := Lib.hid hsp2; have HBX := Lib.hid hbx6; clear h3 hsp hsp2 hbx6 HP
                cases b with
                | true =>
                  have H1 := Lib.hid (h1 rfl); clear h1 h2
                  gi_wp2
                  exact ⟨(by first | exact HS.out | exact HS2.out), by rw [List.map_append]; exact H1.out, HBX.out⟩
                | false =>
                  have H2 := Lib.hid (h2 rfl); clear h1 h2
                  gi_wp2
                  exact ⟨(by first | exact HS.out | exact HS2.out), rfl, by rw [List.map_append]; exact H2.out⟩
              exact AllReadyIn.nil
            exact AllReadyIn.nil
          exact AllReadyIn.nil
        refine AllReadyIn.cons rfl (fun K hK => ?_) ?_
        · go_simp
          gi_wp2_with (first | (gi_at_call 12; refine (callsIn_wide.2 (HOF.out _ hbd)).mono ?_; rintro e w5 ⟨rfl, hb5⟩; have hb5' := bel_tr hbd hb5; obtain ⟨fn, tmps, assign, body, hy, hR⟩ := HY.out w5 hb5'; unfold encN at hy; have bc5 := cell_bel bc hb5'; have hR2 := round_any (m' := d - 1 - 1 - 1) hR; clear hR))
          try (refine hK _ _ ?_; clear hK K)
          refine wpAnyIn_ready (rs := [0]) (by kernel_rfl) (by simp) ?_
          refine AllReadyIn.cons rfl (fun K hK => ?_) ?_
          · go_simp
            try (refine hK _ _ ?_; clear hK K)
            refine wpAnyIn_ready (rs := [6]) (by kernel_rfl) (by simp) ?_
            refine AllReadyIn.cons rfl (fun K hK => ?_) ?_
            · go_simp
              gi_wp2_with (first | (with_reducible refine hR2.mono ?_; rintro e W6 hp6; obtain ⟨b, rfl, hp⟩ := yield_post hp6; have HP := Lib.hid hp; clear hp hp6 hR2 hy))
              try (refine hK _ _ ?_; clear hK K)
              refine wpAnyIn_ready (rs := [7]) (by kernel_rfl) (by simp) ?_
              refine AllReadyIn.cons rfl (fun K hK => ?_) ?_
              · go_simp
                try (refine hK _ _ ?_; clear hK K)
                refine wpAnyIn_done (by kernel_rfl) ?_ _
                obtain ⟨h1, h2, h3⟩ := HP.out
                have hsp := (span_below (B := W.heap.size) hb5' hGW).trans h3
                have hsp2 : KeepsSpan W2.heap.size G W' W6 := ⟨hsp.size, fun k k1 k2 => hsp.same k (by omega) k2⟩
                have hbx6 : Boxed W6 W.heap.size 54 (.func (.yield lp) #[] #[]) := (hsp.same W.heap.size (Nat.le_refl _) (by omega)).trans hbx
                have HS := Lib.hid hsp2; rw [hz0] at hsp2; have HS2 := Lib.hid hsp2; have HBX := Lib.hid hbx6; clear h3 hsp hsp2 hbx6 HP
                cases b with
                | true =>
                  have H1 := Lib.hid (h1 rfl); clear h1 h2
                  gi_wp2
                  exact ⟨(by first | exact HS.out | exact HS2.out), by rw [List.map_append]; exact H1.out, HBX.out⟩
                | false =>
                  have H2 := Lib.hid (h2 rfl); clear h1 h2
                  gi_wp2
                  exact ⟨(by first | exact HS.out | exact HS2.out), rfl, by rw [List.map_append]; exact H2.out⟩
              exact AllReadyIn.nil
            exact AllReadyIn.nil
          exact AllReadyIn.nil
        exact AllReadyIn.nil
      exact AllReadyIn.nil
    exact AllReadyIn.nil
  case done =>
    rintro D G W' hD ⟨hj, hbx⟩ hK
    gi_wp2
    refine ⟨by simp, .inl ⟨_, _, rfl, run_takeDeferred hK, ?_⟩⟩
    exact ⟨_, results_none rfl _ _ _, ⟨_, rfl⟩, .inl ⟨G, (hJ G).putObj _ hj (by omega) hK rfl⟩⟩
  case stop =>
    rintro D G c' pre W' hD hpre ⟨rfl, hjx⟩ hK
    gi_wp2
    refine ⟨by simp, .inl ⟨_, _, rfl, run_takeDeferred hK, ?_⟩⟩
    exact ⟨_, results_none rfl _ _ _, ⟨_, rfl⟩, .inr ⟨G, _, hpre.map _, (hJx G).putObj _ hjx (by omega) hK rfl⟩⟩
end Go.Proofs.YtehneliphhgegaaGreatDoor
