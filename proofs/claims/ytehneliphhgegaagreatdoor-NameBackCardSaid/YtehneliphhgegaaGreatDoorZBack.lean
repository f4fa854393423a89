/- The law NameBack, walked. -/
import Derived.Test.YtehneliphhgegaaGreatDoorZBackV
import Derived.Test.YtehneliphhgegaaGreatDoorZKDAwake
import Derived.Test.YtehneliphhgegaaGreatDoorZKDLawN
import Derived.Test.YtehneliphhgegaaGreatDoorZQuiet
import Derived.Test.YtehneliphhgegaaGreatDoorZKDCalled
set_option linter.unusedVariables false
set_option linter.unusedSimpArgs false
set_option maxRecDepth 100000
namespace Go.Proofs.YtehneliphhgegaaGreatDoor
open Go.RowKit Go.Apo Go.Shelf
attribute [local go_sem] Oper.semAt_some

theorem boxes3 {w : World} {b4 b5 b6 : Nat} {v4 v5 v6 : Value} {t4 t5 t6 : TypeId} (k4 : Blk w b4 #[v4] t4) (k5 : Blk w b5 #[v5] t5) (k6 : Blk w b6 #[v6] t6) : w.cell? ⟨b4, 0, none⟩ = some v4 ∧ w.cell? ⟨b5, 0, none⟩ = some v5 ∧ w.cell? ⟨b6, 0, none⟩ = some v6 ∧ w.frozen? ⟨b6, 0, none⟩ = false := ⟨k4.cell rfl, k5.cell rfl, k6.cell rfl, k6.frozen 0⟩
theorem blk_five (w : World) (a b c d e : Array Value) (ta tb tc td te : TypeId) :
    Blk (((((w.alloc (.cells a ta)).alloc (.cells b tb)).alloc (.cells c tc)).alloc (.cells d td)).alloc (.cells e te)) w.heap.size a ta ∧ Blk (((((w.alloc (.cells a ta)).alloc (.cells b tb)).alloc (.cells c tc)).alloc (.cells d td)).alloc (.cells e te)) (w.heap.size + 1) b tb ∧ Blk (((((w.alloc (.cells a ta)).alloc (.cells b tb)).alloc (.cells c tc)).alloc (.cells d td)).alloc (.cells e te)) (w.heap.size + 1 + 1) c tc ∧ Blk (((((w.alloc (.cells a ta)).alloc (.cells b tb)).alloc (.cells c tc)).alloc (.cells d td)).alloc (.cells e te)) (w.heap.size + 1 + 1 + 1) d td ∧ Blk (((((w.alloc (.cells a ta)).alloc (.cells b tb)).alloc (.cells c tc)).alloc (.cells d td)).alloc (.cells e te)) (w.heap.size + 1 + 1 + 1 + 1) e te := by
  refine ⟨((((blk_new w a ta).al _).al _).al _).al _, ?_, ?_, ?_, ?_⟩
  · have := blk_new (w.alloc (.cells a ta)) b tb
    rw [World.size_alloc] at this
    exact ((this.al _).al _).al _
  · have := blk_new ((w.alloc (.cells a ta)).alloc (.cells b tb)) c tc
    rw [World.size_alloc, World.size_alloc] at this
    exact (this.al _).al _
  · have := blk_new (((w.alloc (.cells a ta)).alloc (.cells b tb)).alloc (.cells c tc)) d td
    rw [World.size_alloc, World.size_alloc, World.size_alloc] at this
    exact this.al _
  · have := blk_new ((((w.alloc (.cells a ta)).alloc (.cells b tb)).alloc (.cells c tc)).alloc (.cells d td)) e te
    rw [World.size_alloc, World.size_alloc, World.size_alloc, World.size_alloc] at this
    exact this
set_option maxHeartbeats 16000000 in
theorem nameBack_calls (w : World) (A : Option Addr) (n k : Nat) (l : List CommitD) (h : CIn w A n l) (A2 : Option Addr) (n2 k2 : Nat) (rs : List RefD) (h2 : RefRowC w A2 n2 k2 rs) (X : Int) (hv : VarsOk w) :
    Calls Tryz.prog 3 #[.slice A n k, .slice A2 n2 k2, .int .i64 X] w fun e w' => e = .returned (.bool true) ∧ Below w.heap.size w w' := by
  have HA := Lib.hid (fun W (hW : Below w.heap.size w W) => awake33_calls W (hv.below hW))
  have HF := Lib.hid (fun W (hW : Below w.heap.size w W) => few15_calls W A n k l (h.below hW))
  have HF2 := Lib.hid (fun W (hW : Below w.heap.size w W) => few16_calls W A2 n2 k2 rs (h2.row.below hW))
  have hB0 : Below w.heap.size w (((w.alloc (.cells #[.slice A2 n2 k2] 23)).alloc (.cells #[.int .i64 X] 3)).alloc (.cells #[.bool false] 4)) := bel_al0 (bel_al0 (bel_al0 (Below.refl _ _) _) _) _
  have k4 : Blk (((w.alloc (.cells #[.slice A2 n2 k2] 23)).alloc (.cells #[.int .i64 X] 3)).alloc (.cells #[.bool false] 4)) w.heap.size #[.slice A2 n2 k2] 23 := ((blk_new w _ _).al _).al _
  have k5 : Blk (((w.alloc (.cells #[.slice A2 n2 k2] 23)).alloc (.cells #[.int .i64 X] 3)).alloc (.cells #[.bool false] 4)) (w.heap.size + 1) #[.int .i64 X] 3 := by
    have := blk_new (w.alloc (.cells #[.slice A2 n2 k2] 23)) #[.int .i64 X] 3
    rw [World.size_alloc] at this
    exact this.al _
  have k6 : Blk (((w.alloc (.cells #[.slice A2 n2 k2] 23)).alloc (.cells #[.int .i64 X] 3)).alloc (.cells #[.bool false] 4)) (w.heap.size + 2) #[.bool false] 4 := by
    have := blk_new ((w.alloc (.cells #[.slice A2 n2 k2] 23)).alloc (.cells #[.int .i64 X] 3)) #[.bool false] 4
    rw [World.size_alloc, World.size_alloc] at this
    exact this
  by_cases hfew : few l = true
  case neg =>
    have e2 : few l = false := by simpa using hfew
    rw [e2] at HF
    clear h h2 hfew e2
    go_enter Tryz.func3, Tryz.ntmps3
    go_wp2_with (first | (go_at_call 5; refine (HA.out _ hB0).mono ?_; rintro e w1 ⟨rfl, hb1⟩; have d1 := bel_tr hB0 hb1; replace k4 := k4.below hb1; replace k5 := k5.below hb1; replace k6 := k6.below hb1; obtain ⟨x4, x5, x6, f6⟩ := boxes3 k4 k5 k6; have hz6 := k6.lt; have hz4 := k4.lt; have hz5 := k5.lt) | (go_at_call 6; refine (HF.out _ d1).mono ?_; rintro e w2 ⟨rfl, hb2⟩; have d2 := bel_tr d1 hb2; replace k4 := k4.below hb2; replace k5 := k5.below hb2; replace k6 := k6.below hb2; obtain ⟨x4, x5, x6, f6⟩ := boxes3 k4 k5 k6; have hz6 := k6.lt; have hz4 := k4.lt; have hz5 := k5.lt))
    have r6 := (k6.set 0 (.bool true)).cell (j := 0) (v := .bool true) rfl
    refine bodyPost_ret (v := .bool true) ?_ rfl ?_
    · simp [results, Tryz.results3, go_sem, r6]
    · exact ⟨rfl, bel_set d2 (by show w.heap.size ≤ w.heap.size + 2; omega) _⟩
  rw [hfew] at HF
  by_cases hfew2 : fewB rs = true
  case neg =>
    have e2 : fewB rs = false := by simpa using hfew2
    rw [e2] at HF2
    clear h h2 hfew hfew2 e2
    go_enter Tryz.func3, Tryz.ntmps3
    go_wp2_with (first | (go_at_call 5; refine (HA.out _ hB0).mono ?_; rintro e w1 ⟨rfl, hb1⟩; have d1 := bel_tr hB0 hb1; replace k4 := k4.below hb1; replace k5 := k5.below hb1; replace k6 := k6.below hb1; obtain ⟨x4, x5, x6, f6⟩ := boxes3 k4 k5 k6; have hz6 := k6.lt; have hz4 := k4.lt; have hz5 := k5.lt) | (go_at_call 6; refine (HF.out _ d1).mono ?_; rintro e w2 ⟨rfl, hb2⟩; have d2 := bel_tr d1 hb2; replace k4 := k4.below hb2; replace k5 := k5.below hb2; replace k6 := k6.below hb2; obtain ⟨x4, x5, x6, f6⟩ := boxes3 k4 k5 k6; have hz6 := k6.lt; have hz4 := k4.lt; have hz5 := k5.lt) | (go_at_call 7; refine (HF2.out _ d2).mono ?_; rintro e w3 ⟨rfl, hb3⟩; have d3 := bel_tr d2 hb3; replace k4 := k4.below hb3; replace k5 := k5.below hb3; replace k6 := k6.below hb3; obtain ⟨x4, x5, x6, f6⟩ := boxes3 k4 k5 k6; have hz6 := k6.lt; have hz4 := k4.lt; have hz5 := k5.lt))
    have r6 := (k6.set 0 (.bool true)).cell (j := 0) (v := .bool true) rfl
    refine bodyPost_ret (v := .bool true) ?_ rfl ?_
    · simp [results, Tryz.results3, go_sem, r6]
    · exact ⟨rfl, bel_set d3 (by show w.heap.size ≤ w.heap.size + 2; omega) _⟩
  rw [hfew2] at HF2
  by_cases hX0 : X < 0
  case pos =>
    have g1 : decide (X < 0) = true := by simpa using hX0
    clear h h2 hfew hfew2
    go_enter Tryz.func3, Tryz.ntmps3
    go_wp2_with (first | (go_at_call 5; refine (HA.out _ hB0).mono ?_; rintro e w1 ⟨rfl, hb1⟩; have d1 := bel_tr hB0 hb1; replace k4 := k4.below hb1; replace k5 := k5.below hb1; replace k6 := k6.below hb1; obtain ⟨x4, x5, x6, f6⟩ := boxes3 k4 k5 k6; have hz6 := k6.lt; have hz4 := k4.lt; have hz5 := k5.lt) | (go_at_call 6; refine (HF.out _ d1).mono ?_; rintro e w2 ⟨rfl, hb2⟩; have d2 := bel_tr d1 hb2; replace k4 := k4.below hb2; replace k5 := k5.below hb2; replace k6 := k6.below hb2; obtain ⟨x4, x5, x6, f6⟩ := boxes3 k4 k5 k6; have hz6 := k6.lt; have hz4 := k4.lt; have hz5 := k5.lt) | (go_at_call 7; refine (HF2.out _ d2).mono ?_; rintro e w3 ⟨rfl, hb3⟩; have d3 := bel_tr d2 hb3; replace k4 := k4.below hb3; replace k5 := k5.below hb3; replace k6 := k6.below hb3; obtain ⟨x4, x5, x6, f6⟩ := boxes3 k4 k5 k6; have hz6 := k6.lt; have hz4 := k4.lt; have hz5 := k5.lt))
    have r6 := (k6.set 0 (.bool true)).cell (j := 0) (v := .bool true) rfl
    refine bodyPost_ret (v := .bool true) ?_ rfl ?_
    · simp [results, Tryz.results3, go_sem, r6]
    · exact ⟨rfl, bel_set d3 (by show w.heap.size ≤ w.heap.size + 2; omega) _⟩
  have g1 : decide (X < 0) = false := by simpa using hX0
  have hg := graphN h hfew
  have hnm := h.nums
  have hln := made_len l
  have hn2 : n2 ≤ 45 := by have := fewB_len hfew2; have := h2.row.len; omega
  have hsz := fewB_size hfew2
  have hlen25 : (madeL l).length ≤ 25 := by rw [← hg.sync.len]; exact hg.rlen
  have HM := Lib.hid (fun W (hW : Below w.heap.size w W) => made_calls W A n k l (h.below hW) hfew)
  unfold MadePost at HM
  have hids := sync_ids hg.sync
  have HC := Lib.hid (fun W (hW : Below w.heap.size w W) p m (hG : GraphAt W p m (madeL l)) id c (hid : u64ok id) (h0 : id ≠ 0) (hm : mget (madeL l) id = some c) => by
    have := cfind_calls W (some ⟨p, 0, none⟩) (madeL l) (Or.inl ⟨p, m, rfl, hG⟩) hg.falls hg.line A2 n2 k2 rs (h2.row.below hW) (by omega) (ofV (madeL l) rs id) (by have := of_size (l := rs) hg.line hid; omega) (hv.below hW)
    rw [find_of hg.line hid h0 hm] at this
    exact this)
  unfold namedV idT at HC
  have HL := Lib.hid (fun W (hW : Below w.heap.size w W) x (hG : RGraphAt W x (madeR l)) id (hid : u64ok id) => rcalled_calls W x (madeL l) (madeR l) hG hg.sync hg.falls hg.nz (by have := hg.rlen; omega) hg.line A2 n2 k2 rs (h2.row.below hW) (by omega) (fun r hr => by have := hsz r hr; omega) id hid)
  have HT := Lib.hid (fun W p m B1 B2 (hW : Below w.heap.size w W) (hG : GraphAt W p m (madeL l)) h1 h3 => (⟨h1, h3, Or.inl ⟨p, m, rfl, hG⟩, h2.row.below hW, hv.below hW⟩ : TabN W B1 B2 (some ⟨p, 0, none⟩) (madeL l) A2 n2 k2 rs))
  have hcap := h2.cap
  have HAL := Lib.hid (fun W p B1 B2 (hT : TabN W B1 B2 (some ⟨p, 0, none⟩) (madeL l) A2 n2 k2 rs) => all1_K 3 (by omega) W B1 B2 (some ⟨p, 0, none⟩) (madeL l) A2 n2 k2 rs hT (by omega) hnm hg.falls hg.line hcap (by omega))
  have hnz := hg.nz
  have hsy := hg.sync
  have hrl := hg.rlen
  clear h h2 hfew hfew2 hg hsz hln
  refine (callsIn_wide (n := 4)).1 ?_
  have f1 : Fence.wide.fn 5 := trivial
  have f2 : Fence.wide.fn 6 := trivial
  have f3 : Fence.wide.fn 7 := trivial
  have f4 : Fence.wide.fn 8 := trivial
  have f5 : Fence.wide.fn 9 := trivial
  refine callsIn_of_wp_marks Tryz.func3 rfl trivial ?_ rfl
  simp only [Tryz.ntmps3, List.size_toArray, List.length_cons, List.length_nil, Nat.reduceAdd, Nat.reduceSub, Array.replicate_succ, Array.replicate_zero, List.push_toArray, List.append_toArray, List.nil_append, List.cons_append]
  gi_wp2_with (first | (gi_at_call 5; refine (callsIn_wide.2 (HA.out _ hB0)).mono ?_; rintro e w1 ⟨rfl, hb1⟩; have d1 := bel_tr hB0 hb1; replace k4 := k4.below hb1; replace k5 := k5.below hb1; replace k6 := k6.below hb1; obtain ⟨x4, x5, x6, f6⟩ := boxes3 k4 k5 k6; have hz6 := k6.lt; have hz4 := k4.lt; have hz5 := k5.lt) | (gi_at_call 6; refine (callsIn_wide.2 (HF.out _ d1)).mono ?_; rintro e w2 ⟨rfl, hb2⟩; have d2 := bel_tr d1 hb2; replace k4 := k4.below hb2; replace k5 := k5.below hb2; replace k6 := k6.below hb2; obtain ⟨x4, x5, x6, f6⟩ := boxes3 k4 k5 k6; have hz6 := k6.lt; have hz4 := k4.lt; have hz5 := k5.lt) | (gi_at_call 7; refine (callsIn_wide.2 (HF2.out _ d2)).mono ?_; rintro e w3 ⟨rfl, hb3⟩; have d3 := bel_tr d2 hb3; replace k4 := k4.below hb3; replace k5 := k5.below hb3; replace k6 := k6.below hb3; obtain ⟨x4, x5, x6, f6⟩ := boxes3 k4 k5 k6; have hz6 := k6.lt; have hz4 := k4.lt; have hz5 := k5.lt) | (gi_at_call 8; refine (callsIn_wide.2 (HM.out _ d3)).mono ?_; rintro e w4 ⟨p, m, x, rfl, hg4, hr4, hb4, _, _, _⟩; have d4 := bel_tr d3 hb4; have HG4 := Lib.hid hg4; have HR4 := Lib.hid hr4; clear hg4 hr4; replace k4 := k4.below hb4; replace k5 := k5.below hb4; replace k6 := k6.below hb4; obtain ⟨x4, x5, x6, f6⟩ := boxes3 k4 k5 k6; have hz6 := k6.lt; have hz4 := k4.lt; have hz5 := k5.lt; have y4 := cell_al (cell_al (cell_al x4 (.cells #[.pointer (some ⟨p, 0, none⟩)] 27)) (.cells #[.pointer (some ⟨x, 0, none⟩)] 28)) (.cells #[.int .i64 0] 3)) | (gi_at_call 9; refine (callsIn_wide.2 (allF_calls _ _ _ _ _)).mono ?_; rintro e w' ⟨rfl, rfl⟩))
  have hbW : Below w4.heap.size w4 (((((w4.alloc (.cells #[.pointer (some ⟨p, 0, none⟩)] 27)).alloc (.cells #[.pointer (some ⟨x, 0, none⟩)] 28)).alloc (.cells #[.int .i64 0] 3)).alloc (.cells #[.pointer (some ⟨p, 0, none⟩)] 27)).alloc (.cells #[.slice A2 n2 k2] 23)) := bel_al0 (bel_al0 (bel_al0 (bel_al0 (bel_al0 (Below.refl _ _) _) _) _) _) _
  have hzW : (((((w4.alloc (.cells #[.pointer (some ⟨p, 0, none⟩)] 27)).alloc (.cells #[.pointer (some ⟨x, 0, none⟩)] 28)).alloc (.cells #[.int .i64 0] 3)).alloc (.cells #[.pointer (some ⟨p, 0, none⟩)] 27)).alloc (.cells #[.slice A2 n2 k2] 23)).heap.size = w4.heap.size + 1 + 1 + 1 + 1 + 1 := by simp
  obtain ⟨b7, b8, b10, bB1, bB2⟩ := blk_five w4 #[.pointer (some ⟨p, 0, none⟩)] #[.pointer (some ⟨x, 0, none⟩)] #[.int .i64 0] #[.pointer (some ⟨p, 0, none⟩)] #[.slice A2 n2 k2] 27 28 3 27 23
  have hdW := bel_tr d4 hbW
  generalize (((((w4.alloc (.cells #[.pointer (some ⟨p, 0, none⟩)] 27)).alloc (.cells #[.pointer (some ⟨x, 0, none⟩)] 28)).alloc (.cells #[.int .i64 0] 3)).alloc (.cells #[.pointer (some ⟨p, 0, none⟩)] 27)).alloc (.cells #[.slice A2 n2 k2] 23)) = W5 at *
  have HT2 : Hid (∀ W, Below w4.heap.size w4 W → W.cell? ⟨w4.heap.size + 1 + 1 + 1, 0, none⟩ = some (.pointer (some ⟨p, 0, none⟩)) → W.cell? ⟨w4.heap.size + 1 + 1 + 1 + 1, 0, none⟩ = some (.slice A2 n2 k2) → TabN W (w4.heap.size + 1 + 1 + 1) (w4.heap.size + 1 + 1 + 1 + 1) (some ⟨p, 0, none⟩) (madeL l) A2 n2 k2 rs) := fun W hW h1 h3 => HT.out W p m _ _ (bel_tr d4 hW) (HG4.out.below hW) h1 h3
  have hw45 : w.heap.size ≤ w4.heap.size := d4.size
  have hdeep : w.heap.size + 1 + 1 < w4.heap.size := hz6
  clear HT HA HF HF2 HM hb1 hb2 hb3 hb4 x4 x5 x6 f6 y4
  refine wpIn_rangeFunc_K rfl (by omega) (gf := 18) (lb := #[.pointer (some ⟨w4.heap.size + 1 + 1 + 1, 0, none⟩), .pointer (some ⟨w4.heap.size + 1 + 1 + 1 + 1, 0, none⟩)]) rfl trivial (enters_of Tryz.func18 (by kernel_rfl) rfl)
    (HAL.out W5 p _ _ (HT2.out W5 hbW (bB1.cell rfl) (bB2.cell rfl))) (Below.refl _ _) (fun _ => rfl)
    (fun G pre W => Below w4.heap.size w4 W ∧ (Boxed W w4.heap.size 27 (.pointer (some ⟨p, 0, none⟩)) ∧ Boxed W (w4.heap.size + 1) 28 (.pointer (some ⟨x, 0, none⟩)) ∧ Boxed W (w4.heap.size + 1 + 1 + 1) 27 (.pointer (some ⟨p, 0, none⟩)) ∧ Boxed W (w4.heap.size + 1 + 1 + 1 + 1) 23 (.slice A2 n2 k2)) ∧ Boxed W (w4.heap.size + 1 + 1) 3 (.int .i64 ((pre.length : Nat) : Int)))
    (fun G c pre W => c = .ret ∧ Below w.heap.size w W ∧ Boxed W (w.heap.size + 1 + 1) 4 (.bool true))
    (fun G => OwnFrom.and (ownFrom_below (Nat.le_refl _) (by omega)) (OwnFrom.and (OwnFrom.and (boxed_ownR _ _ _ _) (OwnFrom.and (boxed_ownR _ _ _ _) (OwnFrom.and (boxed_ownR _ _ _ _) (boxed_ownR _ _ _ _)))) (Own.from (boxed_own _ _ (fun pre : List (Int × ByteArray) => Value.int .i64 ((pre.length : Nat) : Int))) _)))
    (fun G c => OwnFrom.and (ownFrom_pure _ (fun _ => c = .ret)) (OwnFrom.and (ownFrom_below (Nat.le_refl _) (by omega)) (boxed_ownR _ _ _ _)))
    (fun G hG => ⟨hbW, ⟨b7, b8, bB1, bB2⟩, b10⟩)
    (fun G pre W hi => HT2.out W hi.1 hi.2.1.2.2.1.cell hi.2.1.2.2.2.cell)
    (fun y => { tmps := #[.slice A n k, .slice A2 n2 k2, .int .i64 X, undef, .pointer (some ⟨w.heap.size, 0, none⟩), .pointer (some ⟨w.heap.size + 1, 0, none⟩), .pointer (some ⟨w.heap.size + 1 + 1, 0, none⟩), .pointer (some ⟨w4.heap.size, 0, none⟩), .pointer (some ⟨w4.heap.size + 1, 0, none⟩), .bool true, .pointer (some ⟨w4.heap.size + 1 + 1, 0, none⟩), .int .u64 y.1, .string y.2, undef, undef, .bool true, .bool false, .slice A n k, .bool true, .bool false, .bool false, .slice A2 n2 k2, .bool true, .bool false, .bool false, .bool false, .int .i64 X, .bool false, .bool false, .tuple #[.pointer (some ⟨p, 0, none⟩), .pointer (some ⟨x, 0, none⟩), .bool true], .slice A n k, .tuple #[.pointer (some ⟨p, 0, none⟩), .pointer (some ⟨x, 0, none⟩), .bool true], .pointer (some ⟨p, 0, none⟩), .pointer (some ⟨x, 0, none⟩), .bool true, .bool true, .bool false, .pointer (some ⟨p, 0, none⟩), .slice A2 n2 k2, .func (.func 18) #[] #[.pointer (some ⟨w4.heap.size + 1 + 1 + 1, 0, none⟩), .pointer (some ⟨w4.heap.size + 1 + 1 + 1 + 1, 0, none⟩)], .int .u64 y.1, .string y.2, undef, undef, undef, undef, undef, undef, undef, undef, undef, undef, undef, undef, undef, undef, undef, undef, undef, undef, undef, undef, undef, undef, undef, undef, undef, undef, undef, undef, undef, undef, undef, undef, undef, undef, undef, undef, undef, undef, undef, undef, undef, undef, undef, undef, undef, undef, undef, undef, undef, undef, undef, undef, undef, undef, undef], defers := [] }) ?assign ?body ?done ?stop
  case assign =>
    intro l' y W K hK
    simp only [encN]
    gi_wp2
    exact hK
  case body =>
    rintro G l' pre y W hG hGW ⟨hb, ⟨q7, q8, q1, q2⟩, q10⟩ hpre
    obtain ⟨id, s⟩ := y
    obtain ⟨kN, hkN⟩ : ∃ kN, kN = pre.length := ⟨_, rfl⟩
    have hget : (allN (madeL l) rs)[kN]? = some (id, s) := by
      obtain ⟨t, ht⟩ := hpre
      rw [← ht, hkN, List.append_assoc, List.getElem?_append_right (Nat.le_refl _), Nat.sub_self]
      rfl
    unfold allN at hget
    rw [List.getElem?_map, Option.map_eq_some_iff] at hget
    obtain ⟨id', hid', he⟩ := hget
    simp only [Prod.mk.injEq] at he
    obtain ⟨rfl, rfl⟩ := he
    have hmem := mem_sortI.1 (List.mem_of_getElem? hid')
    obtain ⟨c0, hm⟩ : ∃ c0, mget (madeL l) id' = some c0 := Option.isSome_iff_exists.1 (mem_keys.2 hmem)
    have hid := u64_wf (hnm id' hmem)
    have h0 : id' ≠ 0 := fun e => by rw [e, hnz] at hm; cases hm
    rw [hids, List.getElem?_map, Option.map_eq_some_iff] at hid'
    obtain ⟨cR, hcR, hcid⟩ := hid'
    have hkR := (List.getElem?_eq_some_iff.1 hcR).1
    have dW := bel_tr d4 hb
    have a4 := k4.below hb
    have a5 := k5.below hb
    have a6 := k6.below hb
    have hRW := HR4.out.below hb
    have hGR := HG4.out.below hb
    have HCF := Lib.hid (HC.out W dW p m hGR id' c0 hid h0 hm)
    have HLL := Lib.hid (fun Z (hZ : Below W.heap.size W Z) => HL.out Z (bel_tr dW hZ) x (hRW.below hZ) id' hid)
    obtain ⟨Ar, kr, hblk, hrow, _, _⟩ := hRW
    obtain ⟨br, offr, _, _, rfl, rc0, _⟩ := hrow.at_ hcR
    rw [hcid] at rc0
    have cx := hblk.one.1
    obtain ⟨nR, hnR⟩ : ∃ nR, nR = (madeR l).length := ⟨_, rfl⟩
    rw [← hnR] at hkR cx hrl
    obtain ⟨s', hs'⟩ : ∃ s', s' = ofV (madeL l) rs id' := ⟨_, rfl⟩
    rw [← hs'] at HCF HLL ⊢
    rw [← hkN] at q10
    have HKN := Lib.hid hkN
    have hzW5 := hb.size
    have hxb : (⟨x, 0, none⟩ : Addr).block < W.heap.size := cell_lt cx
    have hrb := cell_lt rc0
    simp only at hxb hrb
    clear hmem hm hid h0 hcR hcid hblk hrow hGR HC HL hnR hs' hkN hpre
    have z4 := a4.cell (j := 0) (v := .slice A2 n2 k2) rfl
    have z5 := a5.cell (j := 0) (v := .int .i64 X) rfl
    have z6 := a6.cell (j := 0) (v := .bool false) rfl
    have zf6 := a6.frozen 0
    have z7 := q7.cell
    have z8 := q8.cell
    have z10 := q10.cell
    have zf10 := q10.frozen
    by_cases hX : X = (kN : Int)
    · subst hX
      gi_wp2
      refine ⟨⟨by simp, fun j h1 h3 => ?_⟩, rfl, bel_set dW (by show w.heap.size ≤ w.heap.size + 1 + 1; omega) _, ?_⟩
      · exact Below.heap_setCell W _ _ j (by show j ≠ w.heap.size + 1 + 1; omega)
      · exact a6.set 0 (.bool true)
    · have gX : (((kN : Nat) : Int) == X) = false := by simp; omega
      have gR : decide (((nR : Nat) : Int) ≤ ((kN : Nat) : Int)) = false := by simp; omega
      clear hX
      have q10' : Blk W (w4.heap.size + 1 + 1) #[.int .i64 (kN : Int)] 3 := q10
      have f6 : Fence.wide.fn 10 := trivial
      have e1 : IntKind.i64.wrap (((kN : Nat) : Int) + 1) = (kN : Int) + 1 := by rw [IntKind.wrap_i64]; omega
      gi_wp2_with (gi_at_call 10; with_reducible refine ((callsIn_wide.2 HCF.out).inRound l').mono ?_; rintro e w6 ⟨rfl, hb6⟩; replace z4 := cell_bel z4 hb6; replace z8 := cell_bel z8 hb6; replace z10 := cell_bel z10 hb6; replace cx := cell_bel cx hb6; replace rc0 := cell_bel rc0 hb6; have q10b := q10'.below hb6)
      have r4 := cell_regrown z4
      have r8 := cell_regrown z8
      have r10 := cell_regrown z10
      have rx := cell_regrown cx
      have rr := cell_regrown rc0
      have cE : ∀ d os, Calls Tryz.prog 11 #[.pointer (some ⟨x, 0, none⟩), .slice A2 n2 k2, .int .u64 id'] (Go.Sort.grow (redrawn w6 d) os) fun e w'' => e = .returned (.string s') ∧ ∃ p : Regrown, w'' = Go.Sort.grow (redrawn w6 p.d) p.os := fun d os => Calls.regrown_of (HLL.out _ (bel_tr hb6 (below_regrown w6 d os)))
      refine wpIn_region_quiet_round (by kernel_rfl) (by kernel_rfl) (by kernel_rfl) ?_
      repeat (quiet_step (exact cE _ _))
      refine wpQuiet_nil ?_
      intro _ hw'
      obtain ⟨⟨dq, osq⟩, hw''⟩ := hw'
      subst hw''
      have hb7 := below_regrown w6 dq osq
      clear cE r4 r8 r10 rx rr
      generalize Go.Sort.grow (redrawn w6 dq) osq = w7 at *
      have p10 := q10b.below hb7
      have y10 := p10.cell (j := 0) (v := .int .i64 (kN : Int)) rfl
      have yf10 := p10.frozen 0
      have hbWW : Below W.heap.size W w7 := bel_tr hb6 hb7
      have hl : (((pre ++ [(id', s')]).length : Nat) : Int) = (kN : Int) + 1 := by rw [List.length_append, HKN.out]; simp
      have HL2 := Lib.hid hl; clear hl
      have i7 := (show Blk W w4.heap.size #[.pointer (some ⟨p, 0, none⟩)] 27 from q7).below hbWW
      have i8 := (show Blk W (w4.heap.size + 1) #[.pointer (some ⟨x, 0, none⟩)] 28 from q8).below hbWW
      have i1 := (show Blk W (w4.heap.size + 1 + 1 + 1) #[.pointer (some ⟨p, 0, none⟩)] 27 from q1).below hbWW
      have i2 := (show Blk W (w4.heap.size + 1 + 1 + 1 + 1) #[.slice A2 n2 k2] 23 from q2).below hbWW
      gi_wp2
      refine ⟨⟨by have := hbWW.size; simpa using this, fun j h1 h3 => ?_⟩, bel_set (bel_tr hb hbWW) (by show w4.heap.size ≤ w4.heap.size + 1 + 1; omega) _, ⟨i7.other (by omega) _ _, i8.other (by omega) _ _, i1.other (by omega) _ _, i2.other (by omega) _ _⟩, ?_⟩
      · exact (Below.heap_setCell w7 _ _ j (by show j ≠ w4.heap.size + 1 + 1; omega)).trans (hbWW.block j (by omega))
      · rw [HL2.out]
        exact p10.set 0 _
  case done =>
    rintro D G W hD ⟨hb, ⟨q7, q8, q1, q2⟩, q10⟩ hK
    have hlen : (allN (madeL l) rs).length = (madeR l).length := by unfold allN; rw [List.length_map, hids, List.length_map]
    rw [hlen] at q10
    have dW := bel_tr d4 hb
    have a6 : Blk W (w.heap.size + 1 + 1) #[.bool false] 4 := k6.below hb
    have hRW := HR4.out.below hb
    obtain ⟨Ar, kr, hblk, _, _, _⟩ := hRW
    have cx := hblk.one.1
    obtain ⟨nR, hnR⟩ : ∃ nR, nR = (madeR l).length := ⟨_, rfl⟩
    rw [← hnR] at q10 cx
    clear hnR hblk hlen
    have z8 := q8.cell
    have z10 := q10.cell
    have z6 := a6.cell (j := 0) (v := .bool false) rfl
    have zf6 := a6.frozen 0
    have hlt : D < W.heap.size := (Array.getElem?_eq_some_iff.1 hK).1
    have a6d : Blk (W.drew.setCell ⟨w.heap.size + 1 + 1, 0, none⟩ (.bool true)) (w.heap.size + 1 + 1) #[.bool true] 4 := (show Blk W.drew _ _ _ from a6).set 0 _
    have hKd : (W.drew.setCell ⟨w.heap.size + 1 + 1, 0, none⟩ (.bool true)).heap[D]? = some (.deferred (some [])) := (Below.heap_setCell W.drew ⟨w.heap.size + 1 + 1, 0, none⟩ (.bool true) D (by show D ≠ w.heap.size + 1 + 1; omega)).trans hK
    have hbd : Below w.heap.size w (W.drew.setCell ⟨w.heap.size + 1 + 1, 0, none⟩ (.bool true)) := bel_set (bel_dr dW) (by show w.heap.size ≤ w.heap.size + 1 + 1; omega) _
    have HBD := Lib.hid hbd
    have HKD := Lib.hid hKd
    have HAD := Lib.hid a6d
    clear hbd hKd a6d
    gi_wp2_with fail
    gi_region
    all_goals (
      gi_wp2
      refine ⟨by simp, .inl ⟨_, _, rfl, run_takeDeferred HKD.out, ?_⟩⟩
      have q6' := (show Blk ((W.drew.setCell ⟨w.heap.size + 1 + 1, 0, none⟩ (.bool true)).putObj D (.deferred none)) (w.heap.size + 1 + 1) #[.bool true] 4 from (World.putObj_heap_other (by omega)).trans HAD.out)
      have r6 := q6'.cell (j := 0) (v := .bool true) rfl
      have r6b : ((W.setCell ⟨w.heap.size + 1 + 1, 0, none⟩ (.bool true)).drew.putObj D (.deferred none)).cell? ⟨w.heap.size + 1 + 1, 0, none⟩ = some (.bool true) := r6
      refine ⟨.bool true, ?_, rfl, HBD.out.trans (belowK_b (w := w) (Nat.le_refl _) _ D _ _ (by omega) HKD.out rfl rfl)⟩
      simp [results, Tryz.results3, go_sem, r6, r6b])
  case stop =>
    rintro D G c' pre W hD hpre ⟨rfl, hjx, q6⟩ hK
    gi_wp2
    have hlt : D < W.heap.size := (Array.getElem?_eq_some_iff.1 hK).1
    refine ⟨by simp, .inl ⟨_, _, rfl, run_takeDeferred hK, ?_⟩⟩
    have q6' := (show Blk (W.putObj D (.deferred none)) (w.heap.size + 1 + 1) #[.bool true] 4 from (World.putObj_heap_other (by omega)).trans q6)
    have r6 := q6'.cell (j := 0) (v := .bool true) rfl
    refine ⟨.bool true, ?_, rfl, hjx.trans (belowK_b (w := w) (Nat.le_refl _) W D _ _ (by omega) hK rfl rfl)⟩
    simp [results, Tryz.results3, go_sem, r6]
theorem nameBack_all (w : World) (A : Option Addr) (n k : Nat) (l : List CommitD) (h : CIn w A n l) (A2 : Option Addr) (n2 k2 : Nat) (rs : List RefD) (h2 : RefRowC w A2 n2 k2 rs) (X : Int) (_ : (Lit.int .i64 X).wf = true) (hv : VarsOk w) :
    Calls Tryz.prog 3 #[.slice A n k, .slice A2 n2 k2, .int .i64 X] w fun e w' => e = .returned (.bool true) ∧ Below w.heap.size w w' := nameBack_calls w A n k l h A2 n2 k2 rs h2 X hv
#print axioms nameBack_all
end Go.Proofs.YtehneliphhgegaaGreatDoor
