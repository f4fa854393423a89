/- container/heap over commits: walked once. -/
import Derived.Test.YtehneliphhgegaaHeapQQ
import Derived.Handy
import Derived.Test.YtehneliphhgegaaLineAll
set_option linter.unusedVariables false
set_option linter.unusedSimpArgs false
set_option maxRecDepth 100000
namespace Go.Proofs.Ytehneliphhgegaa
open Go.RowKit Go.Apo Go.Shelf

def PermN (n : Nat) (f f' : Nat → Ent) : Prop := ((List.range n).map f').Perm ((List.range n).map f)
theorem PermN.refl (n : Nat) (f : Nat → Ent) : PermN n f f := List.Perm.refl _
theorem PermN.sw {n : Nat} {f f' : Nat → Ent} (h : PermN n f f') {i j : Nat} (hi : i < n) (hj : j < n) : PermN n f (sw f' i j) := by
  refine List.Perm.trans ?_ h
  obtain ⟨t, ht⟩ : ∃ t : Nat → Nat, t = fun k => if k = i then j else if k = j then i else k := ⟨_, rfl⟩
  have hti : ∀ k, t (t k) = k := fun k => by
    rw [ht]
    simp only
    by_cases h1 : k = i
    · subst h1
      by_cases h2 : j = k <;> simp [h2]
    · by_cases h2 : k = j
      · subst h2; simp [h1]
      · simp [h1, h2]
  have e : (List.range n).map (Go.Apo.sw f' i j) = ((List.range n).map t).map f' := by
    rw [List.map_map]
    refine List.map_congr_left fun k _ => ?_
    rw [ht]
    simp only [Function.comp, Go.Apo.sw]
    by_cases h1 : k = i
    · simp [h1]
    · by_cases h2 : k = j
      · subst h2; simp [h1]
      · simp [h1, h2]
  rw [e]
  refine List.Perm.map _ ((List.perm_ext_iff_of_nodup ?_ List.nodup_range).2 fun x => ?_)
  · rw [List.nodup_iff_pairwise_ne, List.pairwise_map]
    exact List.Pairwise.imp (fun {a b} hab e => hab (by rw [← hti a, ← hti b, e])) (List.nodup_iff_pairwise_ne.1 List.nodup_range)
  · rw [List.mem_map]
    have hb : ∀ k, k < n → t k < n := fun k hk => by rw [ht]; (try simp only); (repeat' split) <;> assumption
    constructor
    · rintro ⟨k, hk, rfl⟩
      exact List.mem_range.2 (hb k (List.mem_range.1 hk))
    · intro hx
      exact ⟨t x, List.mem_range.2 (hb x (List.mem_range.1 hx)), hti x⟩
theorem wrapchk (P : Program) (t : TypeId) (a : Addr) (s : String) (w : World) : (Builtin.ssaWrapNilChk_ #[t] t #[.pointer (some a), strVal "", strVal s]).run P w = .ok (.pointer (some a)) w := by rfl
theorem meth_val (t e : TypeId) (h : Nat) (v : Value) (w : World) (name : String) (fn : FuncId)
    (h0 : ∀ w, (typeInfo t).run Try.prog w = .ok ((Try.prog.types[t]?).getD default) w)
    (h1 : ((((Try.prog.types[t]?).getD default).methods.find? (·.name == name)).map fun m => (m.path, m.func)) = some (#[], some (fn, false)))
    (h2 : Try.prog.underlying t = some (.pointer e)) (h3 : ∀ a w, (loadVar e a).run Try.prog w = (load a .plain).run Try.prog w)
    (hc : w.cell? ⟨h, 0, none⟩ = some v) (k : Nat) : (method (k + 1) t (.pointer (some ⟨h, 0, none⟩)) name).run Try.prog w = .ok (fn, v) w := by
  obtain ⟨m, hm, hmm⟩ := Option.map_eq_some_iff.1 h1
  simp only [Prod.mk.injEq] at hmm
  obtain ⟨m1, m2⟩ := hmm
  have h4 : (underlying t).run Try.prog w = .ok (.pointer e) w := run_underlying h2 w
  unfold method
  rw [Sem.run_bind, h0, Result.andThen_ok, hm]
  simp only [m1, m2]
  have h5 := wrapchk Try.prog t ⟨h, 0, none⟩
  simp [follow, receiverAt, Place.get, Sem.run_bind, Sem.run_pure, h4, h5, asAddr, h3, hc, Result.andThen]
theorem meth_ptr (t : TypeId) (h : Nat) (w : World) (name : String) (fn : FuncId) {e : TypeId}
    (h0 : ∀ w, (typeInfo t).run Try.prog w = .ok ((Try.prog.types[t]?).getD default) w)
    (h1 : ((((Try.prog.types[t]?).getD default).methods.find? (·.name == name)).map fun m => (m.path, m.func)) = some (#[], some (fn, true)))
    (h2 : Try.prog.underlying t = some (.pointer e)) (k : Nat) : (method (k + 1) t (.pointer (some ⟨h, 0, none⟩)) name).run Try.prog w = .ok (fn, .pointer (some ⟨h, 0, none⟩)) w := by
  obtain ⟨m, hm, hmm⟩ := Option.map_eq_some_iff.1 h1
  simp only [Prod.mk.injEq] at hmm
  obtain ⟨m1, m2⟩ := hmm
  have h4 : (underlying t).run Try.prog w = .ok (.pointer e) w := run_underlying h2 w
  unfold method
  rw [Sem.run_bind, h0, Result.andThen_ok, hm]
  simp only [m1, m2]
  simp [follow, receiverAt, Place.get, Sem.run_bind, Sem.run_pure, h4, Result.andThen]
theorem lvarQ (a : Addr) (w : World) : (loadVar 131 a).run Try.prog w = (load a .plain).run Try.prog w := by kernel_rfl
theorem infoQ (w : World) : (typeInfo 130).run Try.prog w = .ok ((Try.prog.types[130]?).getD default) w := by kernel_rfl
theorem mLessQ (h : Nat) (v : Value) (w : World) (hc : w.cell? ⟨h, 0, none⟩ = some v) : (method 305 130 (.pointer (some ⟨h, 0, none⟩)) "Less").run Try.prog w = .ok (186, v) w :=
  meth_val _ _ h v w "Less" _ infoQ (by kernel_rfl) Try.underlying130 lvarQ hc 304
theorem mSwapQ (h : Nat) (v : Value) (w : World) (hc : w.cell? ⟨h, 0, none⟩ = some v) : (method 305 130 (.pointer (some ⟨h, 0, none⟩)) "Swap").run Try.prog w = .ok (189, v) w :=
  meth_val _ _ h v w "Swap" _ infoQ (by kernel_rfl) Try.underlying130 lvarQ hc 304
theorem mLenQ (h : Nat) (v : Value) (w : World) (hc : w.cell? ⟨h, 0, none⟩ = some v) : (method 305 130 (.pointer (some ⟨h, 0, none⟩)) "Len").run Try.prog w = .ok (99, v) w :=
  meth_val _ _ h v w "Len" _ infoQ (by kernel_rfl) Try.underlying130 lvarQ hc 304
theorem mPushQ (h : Nat) (w : World) : (method 305 130 (.pointer (some ⟨h, 0, none⟩)) "Push").run Try.prog w = .ok (188, .pointer (some ⟨h, 0, none⟩)) w :=
  meth_ptr _ h w "Push" _ infoQ (by kernel_rfl) Try.underlying130 304
theorem mPopQ (h : Nat) (w : World) : (method 305 130 (.pointer (some ⟨h, 0, none⟩)) "Pop").run Try.prog w = .ok (187, .pointer (some ⟨h, 0, none⟩)) w :=
  meth_ptr _ h w "Pop" _ infoQ (by kernel_rfl) Try.underlying130 304
def ltE (a b : Ent) : Bool := ltQ a.c b.c
theorem ltQ_iff (a b : CommitD) : ltQ a b = true ↔ a.gen < b.gen ∨ (a.gen = b.gen ∧ a.id < b.id) := by
  unfold ltQ
  by_cases e : a.gen = b.gen
  · have e' : (a.gen != b.gen) = false := by simp [e]
    rw [e']
    simp only [Bool.false_eq_true, if_false, decide_eq_true_iff]
    omega
  · have e' : (a.gen != b.gen) = true := by simp [e]
    rw [e']
    simp only [if_true, decide_eq_true_iff]
    omega
theorem ltQ_no (a b : CommitD) : ltQ a b = false ↔ ¬ (a.gen < b.gen ∨ (a.gen = b.gen ∧ a.id < b.id)) := by rw [← ltQ_iff, Bool.not_eq_true]
theorem ordQ : Ord ltE where
  asym := fun a b h => by unfold ltE at *; rw [ltQ_iff] at h; rw [ltQ_no]; omega
  irr := fun a => by unfold ltE; rw [ltQ_no]; omega
  trans := fun a b c h1 h2 => by unfold ltE at *; rw [ltQ_no] at *; omega
theorem HQ.but {t : TypeId} {w w' : World} {h g cap n : Nat} {f f' : Nat → Ent} (q : HQ t w h g cap n f) (hr : HRow w' g cap n f') (hb : But g w w') : HQ t w' h g cap n f' :=
  ⟨(hb.block h q.1.lt q.2.2).trans q.1, hr, q.2.2⟩

set_option maxHeartbeats 4000000 in
theorem up_calls (w : World) (h g cap n : Nat) (f : Nat → Ent) (hq : HQ 131 w h g cap n f) (hn : n ≤ 100000) (j : Nat) (hj : j < n) (hu : UpInv ltE n f j) :
    Calls Try.prog 120 #[.iface 130 (.pointer (some ⟨h, 0, none⟩)), .int .i64 j] w fun r w' => r = .returned (.tuple #[]) ∧ ∃ f', HQ 131 w' h g cap n f' ∧ IsHeap ltE n f' ∧ PermN n f f' ∧ But g w w' := by
  have HQ0 := Lib.hid hq; clear hq
  have HU := Lib.hid hu; clear hu
  go_enter Try.func120, Try.ntmps120
  go_wp2
  go_loopw [1] (fun v wr => ∃ (q : Nat) (f' : Nat → Ent), q < n ∧ v = .int .i64 q ∧ Hid (HQ 131 wr h g cap n f') ∧ Hid (UpInv ltE n f' q) ∧ Hid (PermN n f f') ∧ Hid (But g w wr)) (fun v _ => (intOf v).toNat)
  case atStart => exact ⟨j, f, hj, rfl, HQ0, HU, PermN.refl _ _, But.refl _ _⟩
  case round =>
    obtain ⟨q, f', hq, rfl, hQ, hU, hP, hB⟩ := hrel
    cases q with
    | zero =>
      have e1 : ((0 : Int) - 1).tdiv 2 = 0 := by decide
      go_wp2
      go_end0
      exact ⟨rfl, f', hQ.out, hU.out.done0, hP.out, hB.out⟩
    | succ q =>
      have hc := hQ.out.1.one.1
      have hlt : h < wr.heap.size := cell_lt hc
      have e1 : ((q : Int) + 1 - 1) = q := by omega
      have e2 : ((q : Int)).tdiv 2 = (q : Int) / 2 := by rw [Int.tdiv_eq_ediv_of_nonneg (by omega)]
      have g1 : (((q : Int) / 2) == ((q : Int) + 1)) = false := by rw [beq_eq_false_iff_ne]; omega
      have m1 := mLessQ h _ wr hc
      have HL := lessQ_calls wr g cap n f' hQ.out.2.1 (q + 1) (q / 2) hq (by omega) hn
      obtain ⟨y, hy⟩ : ∃ y, y = ltQ (f' (q + 1)).c (f' (q / 2)).c := ⟨_, rfl⟩
      rw [← hy] at HL
      push_cast at HL
      have HL2 := Lib.hid HL; clear HL
      have HY := Lib.hid hy; clear hy
      cases y with
      | false =>
        go_wp2_with (go_at_call 186; refine HL2.out.mono ?_; rintro e w1 ⟨rfl, hb1⟩)
        go_end0
        refine ⟨rfl, f', hQ.out.below hb1, hU.out.done ?_, hP.out, hB.out.trans (But.of_below hb1)⟩
        rw [show q + 1 - 1 = q by omega]
        exact HY.out.symm
      | true =>
        have HS := Lib.hid (fun w1 (hb1 : Below wr.heap.size wr w1) => swapQ_calls w1 g cap n f' (hQ.out.below hb1).2.1 (q / 2) (q + 1) (by omega) hq (by omega) hn)
        push_cast at HS
        go_wp2_with (first | (go_at_call 186; refine HL2.out.mono ?_; rintro e w1 ⟨rfl, hb1⟩; have m2 := mSwapQ h _ w1 (cell_bel hc hb1)) | (go_at_call 189; refine (HS.out _ hb1).mono ?_; rintro e w2 ⟨rfl, hr2, hb2⟩; have HR2 := Lib.hid hr2; clear hr2; have HB2 := Lib.hid hb2; clear hb2))
        go_roundw
        case rel =>
          refine ⟨q / 2, sw f' (q / 2) (q + 1), by omega, by push_cast; rfl, ?_, ?_, ?_, ?_⟩
          · exact (hQ.out.below hb1).but HR2.out HB2.out
          · exact hU.out.step ordQ (by omega) hq (by omega) HY.out.symm
          · exact hP.out.sw (by omega) hq
          · exact (hB.out.trans (But.of_below hb1)).trans HB2.out
        case measure => simp [intOf]; omega

/-- heap.Push -/
theorem hpush_calls (w : World) (h g cap n : Nat) (f : Nat → Ent) (hq : HQ 131 w h g cap n f) (hn : n ≤ 90000) (hh : IsHeap ltE n f) (e : Ent) :
    Calls Try.prog 96 #[.iface 130 (.pointer (some ⟨h, 0, none⟩)), .iface 69 (.agg #[.int .u64 e.c.id, .slice e.a e.c.par.length e.k, .int .u64 e.c.gen, .int .u64 e.c.root, .string e.c.text])] w fun r w' => r = .returned (.tuple #[]) ∧ ∃ g' cap' f', HQ 131 w' h g' cap' (n + 1) f' ∧ IsHeap ltE (n + 1) f' ∧ PermN (n + 1) (upd f n e) f' ∧ But2 h g w w' ∧ (g' = g ∨ w.heap.size ≤ g') := by
  have HP := Lib.hid (pushQ_calls w h g cap n f hq (by omega) e)
  have hc := hq.1.one.1
  have hlt : h < w.heap.size := cell_lt hc
  have hH : IsHeap ltE n (upd f n e) := hh.congr (fun k hk => by unfold upd; rw [if_neg (by omega)])
  have HH := Lib.hid (UpInv.start hH)
  clear hh hH hq
  have m1 := mPushQ h w
  go_enter Try.func96, Try.ntmps96
  go_wp2_with (first | (go_at_call 188; refine HP.out.mono ?_; rintro r w1 ⟨rfl, g1, cap1, hq1, hb1, hg1⟩; have hc1 := hq1.1.one.1; have hlt1 := cell_lt hc1; have HQ1 := Lib.hid hq1; clear hq1; have m2 := mLenQ h _ w1 hc1; have HB1 := Lib.hid hb1; clear hb1; have HG1 := Lib.hid hg1; clear hg1) | (go_at_call 99; refine (qlen_calls _ _ _ _).mono ?_; rintro r w2 ⟨rfl, hb2⟩; have HU := Lib.hid (up_calls w2 h g1 cap1 (n + 1) (upd f n e) (HQ1.out.below hb2) (by omega) n (by omega) HH.out)) | (go_at_call 120; refine HU.out.mono ?_; rintro r w3 ⟨rfl, f3, hq3, hh3, hp3, hb3⟩))
  go_end0
  refine ⟨rfl, g1, cap1, f3, hq3, hh3, hp3, ?_, HG1.out⟩
  exact HB1.out.later HG1.out ((But2.of_below hb2).trans (But2.right hb3))
/-- heap.down -/
def DownPost (w : World) (h g cap N n : Nat) (f : Nat → Ent) (r : Ending) (w' : World) : Prop :=
  ∃ b f', r = .returned (.bool b) ∧ HQ 131 w' h g cap N f' ∧ IsHeap ltE n f' ∧ PermN N f f' ∧ (∀ k, n ≤ k → f' k = f k) ∧ But g w w'
theorem downPost {w w' : World} {h g cap N n : Nat} {f f' : Nat → Ent} {b : Bool} (h1 : HQ 131 w' h g cap N f') (h2 : IsHeap ltE n f') (h3 : PermN N f f') (h4 : ∀ k, n ≤ k → f' k = f k) (h5 : But g w w') : DownPost w h g cap N n f (.returned (.bool b)) w' := ⟨b, f', rfl, h1, h2, h3, h4, h5⟩
set_option maxHeartbeats 8000000 in
theorem down_calls (w : World) (h g cap N n : Nat) (f : Nat → Ent) (hq : HQ 131 w h g cap N f) (hN : N ≤ 100000) (hn : n ≤ N) (hu : DnInv ltE n f 0) :
    Calls Try.prog 121 #[.iface 130 (.pointer (some ⟨h, 0, none⟩)), .int .i64 0, .int .i64 n] w (DownPost w h g cap N n f) := by
  have HQ0 := Lib.hid hq; clear hq
  have HU := Lib.hid hu; clear hu
  go_enter Try.func121, Try.ntmps121
  go_wp2
  go_loopw [7] (fun v wr => ∃ (i : Nat) (f' : Nat → Ent), i ≤ n ∧ v = .int .i64 i ∧ Hid (HQ 131 wr h g cap N f') ∧ Hid (DnInv ltE n f' i) ∧ Hid (PermN N f f') ∧ Hid (∀ k, n ≤ k → f' k = f k) ∧ Hid (But g w wr)) (fun v _ => n - (intOf v).toNat)
  case atStart => exact ⟨0, f, Nat.zero_le _, rfl, HQ0, HU, PermN.refl _ _, fun _ _ => rfl, But.refl _ _⟩
  case round =>
    obtain ⟨i, f', hi, rfl, hQ, hU, hP, hK, hB⟩ := hrel
    by_cases hlf : n ≤ 2 * i + 1
    · go_wp2
      go_ret
      exact downPost hQ.out (hU.out.leaf hlf) hP.out hK.out hB.out
    · have hc := hQ.out.1.one.1
      have hlt : h < wr.heap.size := cell_lt hc
      have m1 := mLessQ h _ wr hc
      have HL := Lib.hid (fun w1 (hb : Below wr.heap.size wr w1) a b (ha : a < n) (hb' : b < n) => lessQ_calls w1 g cap N f' (hQ.out.below hb).2.1 a b (by omega) (by omega) hN)
      have HSW := Lib.hid (fun w1 (hb : Below wr.heap.size wr w1) a b (ha : a < n) (hb' : b < n) (hab : a ≠ b) => swapQ_calls w1 g cap N f' (hQ.out.below hb).2.1 a b (by omega) (by omega) hab hN)
      by_cases hj2 : n ≤ 2 * i + 1 + 1
      · have HLi := Lib.hid (fun w1 (hb : Below wr.heap.size wr w1) => HL.out w1 hb (2 * i + 1) i (by omega) (by omega))
        obtain ⟨y, hy⟩ : ∃ y, y = ltQ (f' (2 * i + 1)).c (f' i).c := ⟨_, rfl⟩
        rw [← hy] at HLi
        have HY := Lib.hid hy; clear hy
        push_cast at HLi
        have HS := Lib.hid (fun w1 (hb : Below wr.heap.size wr w1) => HSW.out w1 hb i (2 * i + 1) (by omega) (by omega) (by omega))
        push_cast at HS
        have hsm : ∀ k, 0 < k → k < n → (k - 1) / 2 = i → ltE (f' k) (f' (2 * i + 1)) = false := fun k k0 kn kp => by (have e : k = 2 * i + 1 := (by omega)); rw [e]; exact ordQ.irr _
        cases y with
        | false =>
          go_wp2_with (first | (go_at_call 186; refine (HLi.out _ (Below.refl _ _)).mono ?_; clear HLi; rintro e w2 ⟨rfl, hb2⟩))
          go_ret
          exact downPost (hQ.out.below hb2) (hU.out.done ordQ (j := 2 * i + 1) hsm HY.out.symm) hP.out hK.out (hB.out.trans (But.of_below hb2))
        | true =>
          go_wp2_with (first | (go_at_call 186; refine (HLi.out _ (Below.refl _ _)).mono ?_; clear HLi; rintro e w2 ⟨rfl, hb2⟩; have m3 := mSwapQ h _ w2 (cell_bel hc hb2)) | (go_at_call 189; refine (HS.out _ hb2).mono ?_; rintro e w3 ⟨rfl, hr3, hb3⟩; have HR3 := Lib.hid hr3; clear hr3; have HB3 := Lib.hid hb3; clear hb3))
          go_roundw
          case rel =>
            refine ⟨2 * i + 1, sw f' i (2 * i + 1), by omega, by push_cast; rfl, (hQ.out.below hb2).but HR3.out HB3.out, hU.out.step ordQ (by omega) (by omega) (by omega) hsm HY.out.symm, hP.out.sw (by omega) (by omega), fun k hk => ?_, (hB.out.trans (But.of_below hb2)).trans HB3.out⟩
            rw [sw_o (by omega) (by omega)]; exact hK.out k hk
          case measure => simp [intOf]; omega
      · have HL21 := Lib.hid (fun w1 (hb : Below wr.heap.size wr w1) => HL.out w1 hb (2 * i + 1 + 1) (2 * i + 1) (by omega) (by omega))
        obtain ⟨z, hz⟩ : ∃ z, z = ltQ (f' (2 * i + 1 + 1)).c (f' (2 * i + 1)).c := ⟨_, rfl⟩
        rw [← hz] at HL21
        have HZ := Lib.hid hz; clear hz
        push_cast at HL21
        cases z with
        | false =>
          have HLi := Lib.hid (fun w1 (hb : Below wr.heap.size wr w1) => HL.out w1 hb (2 * i + 1) i (by omega) (by omega))
          obtain ⟨y, hy⟩ : ∃ y, y = ltQ (f' (2 * i + 1)).c (f' i).c := ⟨_, rfl⟩
          rw [← hy] at HLi
          have HY := Lib.hid hy; clear hy
          push_cast at HLi
          have HS := Lib.hid (fun w1 (hb : Below wr.heap.size wr w1) => HSW.out w1 hb i (2 * i + 1) (by omega) (by omega) (by omega))
          push_cast at HS
          have hsm : ∀ k, 0 < k → k < n → (k - 1) / 2 = i → ltE (f' k) (f' (2 * i + 1)) = false := fun k k0 kn kp => by
            rcases (show k = 2 * i + 1 ∨ k = 2 * i + 1 + 1 by omega) with e | e
            · rw [e]; exact ordQ.irr _
            · rw [e]; exact HZ.out.symm
          cases y with
          | false =>
            go_wp2_with (first | (go_at_call 186; refine (HL21.out _ (Below.refl _ _)).mono ?_; clear HL21; rintro e w1 ⟨rfl, hb1⟩; have m2 := mLessQ h _ w1 (cell_bel hc hb1)) | (go_at_call 186; refine (HLi.out _ hb1).mono ?_; clear HLi; rintro e w2 ⟨rfl, hb2⟩))
            go_ret
            exact downPost (hQ.out.below (bel_tr hb1 hb2)) (hU.out.done ordQ (j := 2 * i + 1) hsm HY.out.symm) hP.out hK.out (hB.out.trans (But.of_below (bel_tr hb1 hb2)))
          | true =>
            go_wp2_with (first | (go_at_call 186; refine (HL21.out _ (Below.refl _ _)).mono ?_; clear HL21; rintro e w1 ⟨rfl, hb1⟩; have m2 := mLessQ h _ w1 (cell_bel hc hb1)) | (go_at_call 186; refine (HLi.out _ hb1).mono ?_; clear HLi; rintro e w2 ⟨rfl, hb2⟩; have m3 := mSwapQ h _ w2 (cell_bel hc (bel_tr hb1 hb2))) | (go_at_call 189; refine (HS.out _ (bel_tr hb1 hb2)).mono ?_; rintro e w3 ⟨rfl, hr3, hb3⟩; have HR3 := Lib.hid hr3; clear hr3; have HB3 := Lib.hid hb3; clear hb3))
            go_roundw
            case rel =>
              refine ⟨2 * i + 1, sw f' i (2 * i + 1), by omega, by push_cast; rfl, (hQ.out.below (bel_tr hb1 hb2)).but HR3.out HB3.out, hU.out.step ordQ (by omega) (by omega) (by omega) hsm HY.out.symm, hP.out.sw (by omega) (by omega), fun k hk => ?_, (hB.out.trans (But.of_below (bel_tr hb1 hb2))).trans HB3.out⟩
              rw [sw_o (by omega) (by omega)]; exact hK.out k hk
            case measure => simp [intOf]; omega
        | true =>
          have HLi := Lib.hid (fun w1 (hb : Below wr.heap.size wr w1) => HL.out w1 hb (2 * i + 1 + 1) i (by omega) (by omega))
          obtain ⟨y, hy⟩ : ∃ y, y = ltQ (f' (2 * i + 1 + 1)).c (f' i).c := ⟨_, rfl⟩
          rw [← hy] at HLi
          have HY := Lib.hid hy; clear hy
          push_cast at HLi
          have HS := Lib.hid (fun w1 (hb : Below wr.heap.size wr w1) => HSW.out w1 hb i (2 * i + 1 + 1) (by omega) (by omega) (by omega))
          push_cast at HS
          have hsm : ∀ k, 0 < k → k < n → (k - 1) / 2 = i → ltE (f' k) (f' (2 * i + 1 + 1)) = false := fun k k0 kn kp => by
            rcases (show k = 2 * i + 1 ∨ k = 2 * i + 1 + 1 by omega) with e | e
            · rw [e]; exact ordQ.asym _ _ HZ.out.symm
            · rw [e]; exact ordQ.irr _
          cases y with
          | false =>
            go_wp2_with (first | (go_at_call 186; refine (HL21.out _ (Below.refl _ _)).mono ?_; clear HL21; rintro e w1 ⟨rfl, hb1⟩; have m2 := mLessQ h _ w1 (cell_bel hc hb1)) | (go_at_call 186; refine (HLi.out _ hb1).mono ?_; clear HLi; rintro e w2 ⟨rfl, hb2⟩))
            go_ret
            exact downPost (hQ.out.below (bel_tr hb1 hb2)) (hU.out.done ordQ (j := 2 * i + 1 + 1) hsm HY.out.symm) hP.out hK.out (hB.out.trans (But.of_below (bel_tr hb1 hb2)))
          | true =>
            go_wp2_with (first | (go_at_call 186; refine (HL21.out _ (Below.refl _ _)).mono ?_; clear HL21; rintro e w1 ⟨rfl, hb1⟩; have m2 := mLessQ h _ w1 (cell_bel hc hb1)) | (go_at_call 186; refine (HLi.out _ hb1).mono ?_; clear HLi; rintro e w2 ⟨rfl, hb2⟩; have m3 := mSwapQ h _ w2 (cell_bel hc (bel_tr hb1 hb2))) | (go_at_call 189; refine (HS.out _ (bel_tr hb1 hb2)).mono ?_; rintro e w3 ⟨rfl, hr3, hb3⟩; have HR3 := Lib.hid hr3; clear hr3; have HB3 := Lib.hid hb3; clear hb3))
            go_roundw
            case rel =>
              refine ⟨2 * i + 1 + 1, sw f' i (2 * i + 1 + 1), by omega, by push_cast; rfl, (hQ.out.below (bel_tr hb1 hb2)).but HR3.out HB3.out, hU.out.step ordQ (by omega) (by omega) (by omega) hsm HY.out.symm, hP.out.sw (by omega) (by omega), fun k hk => ?_, (hB.out.trans (But.of_below (bel_tr hb1 hb2))).trans HB3.out⟩
              rw [sw_o (by omega) (by omega)]; exact hK.out k hk
            case measure => simp [intOf]; omega
/-- heap.Pop -/
def PopPost (w : World) (h g cap n : Nat) (f : Nat → Ent) (r : Ending) (w' : World) : Prop :=
  ∃ f' : Nat → Ent, r = .returned (.iface 69 (.agg #[.int .u64 (f 0).c.id, .slice (f 0).a (f 0).c.par.length (f 0).k, .int .u64 (f 0).c.gen, .int .u64 (f 0).c.root, .string (f 0).c.text])) ∧ HQ 131 w' h g cap n f' ∧ IsHeap ltE n f' ∧ ((f 0) :: (List.range n).map f').Perm ((List.range (n + 1)).map f) ∧ But2 h g w w'
set_option maxHeartbeats 8000000 in
theorem hpop_calls (w : World) (h g cap n : Nat) (f : Nat → Ent) (hq : HQ 131 w h g cap (n + 1) f) (hn : n ≤ 90000) (hh : IsHeap ltE (n + 1) f) :
    Calls Try.prog 98 #[.iface 130 (.pointer (some ⟨h, 0, none⟩))] w (PopPost w h g cap n f) := by
  have hc := hq.1.one.1
  have hlt : h < w.heap.size := cell_lt hc
  have hgl := hq.2.1.lt
  have m1 := mLenQ h _ w hc
  have HQ0 := Lib.hid hq; clear hq
  have HD0 := Lib.hid (DnInv.start hh)
  clear hh
  have e1 : ((n : Int) + 1 - 1) = n := by omega
  · have HS : Hid (∀ w1, Below w.heap.size w w1 → Calls Try.prog 189 #[.slice (some ⟨g, 0, none⟩) (n + 1) cap, .int .i64 0, .int .i64 n] w1 fun e w' => e = .returned (.tuple #[]) ∧ HRow w' g cap (n + 1) (sw f 0 n) ∧ But g w1 w') := fun w1 hb => by
      by_cases hn0 : n = 0
      · subst hn0
        have hse : sw f 0 0 = f := by funext k; unfold sw; by_cases e : k = 0 <;> simp [e]
        rw [hse]
        exact swapQ0_calls w1 g cap 1 f (HQ0.out.below hb).2.1 (by omega) (by omega)
      · exact swapQ_calls w1 g cap (n + 1) f (HQ0.out.below hb).2.1 0 n (by omega) (by omega) (by omega) (by omega)
    go_enter Try.func98, Try.ntmps98
    go_wp2_with (first | (go_at_call 99; refine (qlen_calls _ _ _ _).mono ?_; rintro r w1 ⟨rfl, hb1⟩; have m2 := mSwapQ h _ w1 (cell_bel hc hb1)) | (go_at_call 189; refine (HS.out _ hb1).mono ?_; rintro r w2 ⟨rfl, hr2, hb2⟩; have HQ2 := Lib.hid ((HQ0.out.below hb1).but hr2 hb2); have HB2 := Lib.hid hb2; clear hr2 hb2; have HD := Lib.hid (down_calls w2 h g cap (n + 1) n _ HQ2.out (by omega) (by omega) HD0.out)) | (go_at_call 121; refine HD.out.mono ?_; rintro r w3 ⟨b3, f3, rfl, hq3, hh3, hp3, hk3, hb3⟩; have m4 := mPopQ h w3; have HP := Lib.hid (popQ_calls w3 h g cap n f3 hq3 (by omega)); have HQ3 := Lib.hid hq3; clear hq3; have HB3 := Lib.hid hb3; clear hb3; have HK3 := Lib.hid hk3; clear hk3; have HP3 := Lib.hid hp3; clear hp3; have HH3 := Lib.hid hh3; clear hh3) | (go_at_call 187; refine HP.out.mono ?_; rintro r w4 ⟨rfl, hq4, hb4⟩))
    go_ret
    have hfn : f3 n = f 0 := by rw [HK3.out n (Nat.le_refl _), sw_r]
    rw [hfn]
    refine ⟨f3, rfl, hq4, HH3.out, ?_, (But2.of_below hb1).trans ((But2.right HB2.out).trans ((But2.right HB3.out).trans (But2.left hb4)))⟩
    · have h1 : PermN (n + 1) f (sw f 0 n) := (PermN.refl _ _).sw (by omega) (by omega)
      have h2 := (HP3.out.trans h1 : ((List.range (n + 1)).map f3).Perm ((List.range (n + 1)).map f))
      rw [List.range_succ, List.map_append, List.map_cons, List.map_nil, hfn] at h2
      rw [List.range_succ]
      exact (List.perm_append_comm (l₁ := [f 0])).trans h2
end Go.Proofs.Ytehneliphhgegaa
