/- The law NameNone, walked. -/
import Derived.Test.YtehneliphhgegaaGreatDoorZBackV
import Derived.Test.YtehneliphhgegaaGreatDoorZKDAwake
import Derived.Test.YtehneliphhgegaaGreatDoorZKDLawN
set_option linter.unusedVariables false
set_option linter.unusedSimpArgs false
set_option maxRecDepth 100000
namespace Go.Proofs.YtehneliphhgegaaGreatDoor
open Go.RowKit Go.Apo Go.Shelf
attribute [local go_sem] Oper.semAt_some

theorem short_nil : ∀ i : Int, (lineL [] i).length ≤ 25 := fun i => by rw [lineL_none rfl]; exact Nat.zero_le _
theorem allN_nil (l : List RefD) : allN [] l = [] := by
  unfold allN
  have : sortI (mkeys ([] : List (Int × CommitD))) = [] := by simp [sortI, mkeys]
  rw [this]
  rfl
set_option maxHeartbeats 8000000 in
theorem nameNone_calls (w : World) (A : Option Addr) (n c : Nat) (rs : List RefD) (h : RefRowC w A n c rs) (id : Int) (hid : u64ok id) (s : ByteArray) (hv : VarsOk w) :
    Calls Tryz.prog 4 #[.slice A n c, .int .u64 id, .string s] w fun e w' => e = .returned (.bool true) ∧ Below w.heap.size w w' := by
  have HA := Lib.hid (awake33_calls w hv)
  have HF := Lib.hid (fun W (hW : Below w.heap.size w W) => few16_calls W A n c rs (h.row.below hW))
  by_cases hfew : fewB rs = true
  case neg =>
    have e2 : fewB rs = false := by simpa using hfew
    rw [e2] at HF
    clear h hfew e2
    go_enter Tryz.func4, Tryz.ntmps4
    go_wp2_with (first | (go_at_call 5; refine HA.out.mono ?_; rintro e w1 ⟨rfl, hb1⟩) | (go_at_call 7; refine (HF.out _ hb1).mono ?_; rintro e w2 ⟨rfl, hb2⟩; have d2 := bel_tr hb1 hb2))
    go_ret
    exact ⟨rfl, d2⟩
  rw [hfew] at HF
  by_cases hs : s.size ≤ 60
  case neg =>
    have g1 : decide ((60 : Int) < (s.size : Int)) = true := by simp; omega
    clear h hfew hs
    go_enter Tryz.func4, Tryz.ntmps4
    go_wp2_with (first | (go_at_call 5; refine HA.out.mono ?_; rintro e w1 ⟨rfl, hb1⟩) | (go_at_call 7; refine (HF.out _ hb1).mono ?_; rintro e w2 ⟨rfl, hb2⟩; have d2 := bel_tr hb1 hb2))
    go_ret
    exact ⟨rfl, d2⟩
  have g1 : decide ((60 : Int) < (s.size : Int)) = false := by simp; omega
  have hn45 : n ≤ 45 := by have := fewB_len hfew; have := h.row.len; omega
  obtain ⟨iN, rfl⟩ : ∃ iN : Nat, id = iN := ⟨id.toNat, by unfold u64ok at hid; omega⟩
  have hi64 : iN < 18446744073709551616 := by unfold u64ok at hid; omega
  have HC := Lib.hid (fun W (hW : Below w.heap.size w W) => cfind_calls W none [] (GP.nil W) Falls.nil short_nil A n c rs (h.row.below hW) (by omega) s (by omega) (hv.below hW))
  rw [find_nil] at HC
  unfold namedV idT at HC
  have HO := Lib.hid (fun W (hW : Below w.heap.size w W) => cof_calls W none [] (GP.nil W) Falls.nil short_nil A n c rs (h.row.below hW) h.cap (by omega) (iN : Int) hid (hv.below hW))
  rw [of_nil] at HO
  have HD := Lib.hid (fun W => decimal_calls iN hi64 W)
  have hdz := dec_size hi64
  have HT := Lib.hid (fun W B1 B2 (hW : Below w.heap.size w W) h1 h2 => (⟨h1, h2, GP.nil W, h.row.below hW, hv.below hW⟩ : TabN W B1 B2 none [] A n c rs))
  have hcap := h.cap
  have HAL := Lib.hid (fun W B1 B2 (hT : TabN W B1 B2 none [] A n c rs) => all1_K 3 (by omega) W B1 B2 none [] A n c rs hT (by simp) (fun k hk => by cases hk) Falls.nil short_nil hcap (by omega))
  rw [allN_nil] at HAL
  clear h hfew hs hid
  refine (callsIn_wide (n := 4)).1 ?_
  have f1 : Fence.wide.fn 5 := trivial
  have f2 : Fence.wide.fn 7 := trivial
  have f3 : Fence.wide.fn 10 := trivial
  have f4 : Fence.wide.fn 9 := trivial
  have f5 : Fence.wide.fn 12 := trivial
  have f6 : Fence.wide.fn 13 := trivial
  refine callsIn_of_wp_marks Tryz.func4 rfl trivial ?_ rfl
  simp only [Tryz.ntmps4, List.size_toArray, List.length_cons, List.length_nil, Nat.reduceAdd, Nat.reduceSub, Array.replicate_succ, Array.replicate_zero, List.push_toArray, List.append_toArray, List.nil_append, List.cons_append]
  gi_wp2_with (first
    | (gi_at_call 5; refine (callsIn_wide.2 HA.out).mono ?_; rintro e w1 ⟨rfl, hb1⟩)
    | (gi_at_call 7; refine (callsIn_wide.2 (HF.out _ hb1)).mono ?_; rintro e w2 ⟨rfl, hb2⟩; have d2 := bel_tr hb1 hb2)
    | (gi_at_call 10; refine (callsIn_wide.2 (HC.out _ d2)).mono ?_; rintro e w3 ⟨rfl, hb3⟩; have d3 := bel_tr d2 hb3)
    | (gi_at_call 9; refine (callsIn_wide.2 (allF_calls _ _ _ _ _)).mono ?_; rintro e w' ⟨rfl, rfl⟩))
  have hBW : Below w.heap.size w (((w3.alloc (.cells #[.int .i64 0] 3)).alloc (.cells #[.pointer none] 27)).alloc (.cells #[.slice A n c] 23)) := bel_al0 (bel_al0 (bel_al0 d3 _) _) _
  have c9 : (((w3.alloc (.cells #[.int .i64 0] 3)).alloc (.cells #[.pointer none] 27)).alloc (.cells #[.slice A n c] 23)).cell? ⟨w3.heap.size, 0, none⟩ = some (.int .i64 0) := cell_al (cell_al (cell_at_new w3 _ _ 0 rfl) _) _
  have cB1 : (((w3.alloc (.cells #[.int .i64 0] 3)).alloc (.cells #[.pointer none] 27)).alloc (.cells #[.slice A n c] 23)).cell? ⟨w3.heap.size + 1, 0, none⟩ = some (.pointer none) := by
    have := cell_at_new (w3.alloc (.cells #[.int .i64 0] 3)) #[.pointer none] 27 0 (v := .pointer none) rfl
    rw [World.size_alloc] at this
    exact cell_al this _
  have cB2 : (((w3.alloc (.cells #[.int .i64 0] 3)).alloc (.cells #[.pointer none] 27)).alloc (.cells #[.slice A n c] 23)).cell? ⟨w3.heap.size + 1 + 1, 0, none⟩ = some (.slice A n c) := by
    have := cell_at_new ((w3.alloc (.cells #[.int .i64 0] 3)).alloc (.cells #[.pointer none] 27)) #[.slice A n c] 23 0 (v := .slice A n c) rfl
    rw [World.size_alloc, World.size_alloc] at this
    exact this
  generalize (((w3.alloc (.cells #[.int .i64 0] 3)).alloc (.cells #[.pointer none] 27)).alloc (.cells #[.slice A n c] 23)) = W4 at *
  refine wpIn_rangeFunc_K rfl (by omega) (gf := 18) (lb := #[.pointer (some ⟨w3.heap.size + 1, 0, none⟩), .pointer (some ⟨w3.heap.size + 1 + 1, 0, none⟩)]) rfl trivial (enters_of Tryz.func18 (by kernel_rfl) rfl)
    (HAL.out W4 _ _ (HT.out W4 _ _ hBW cB1 cB2)) (Below.refl _ _) (fun _ => rfl)
    (fun G pre W => Below W4.heap.size W4 W)
    (fun _ _ _ _ => False)
    (fun G => ownFrom_below (Nat.le_refl _) (Nat.le_refl _))
    (fun _ _ _ _ _ _ hs _ _ => hs)
    (fun G hG => Below.refl _ _)
    (fun G pre W hi => (HT.out W4 _ _ hBW cB1 cB2).below hi)
    (fun x => { tmps := #[.slice A n c, .int .u64 (iN : Int), .string s, undef, undef, undef, .bool false, .int .u64 0, .bool false, .pointer (some ⟨w3.heap.size, 0, none⟩), .bool true, .bool false, .slice A n c, .bool true, .bool false, .bool false, .string s, .int .i64 (s.size : Int), .bool false, .bool false, .tuple #[.int .u64 0, .bool false], .slice A n c, .string s, .tuple #[.int .u64 0, .bool false], .int .u64 0, .bool false, .slice A n c, .func (.func 18) #[] #[.pointer (some ⟨w3.heap.size + 1, 0, none⟩), .pointer (some ⟨w3.heap.size + 1 + 1, 0, none⟩)], .int .u64 x.1, .string x.2, undef, undef, undef, undef, undef, undef, undef, undef, undef, undef, undef, undef, undef, undef, undef, undef, undef], defers := [] }) ?assign ?body ?done ?stop
  case assign =>
    intro l x W K hK
    simp only [encN]
    gi_wp2
    exact hK
  case body =>
    rintro G l pre x W hG hGW hi hpre
    exact absurd (List.IsPrefix.length_le hpre) (by simp)
  case done =>
    rintro D G W hD hi hK
    have q9 := cell_bel c9 hi
    have hBW2 := hBW.trans (hi.mono hBW.size)
    gi_wp2_with (first
      | (gi_at_call 12; refine (callsIn_wide.2 (HO.out _ hBW2)).mono ?_; rintro e w6 ⟨rfl, hb6⟩)
      | (gi_at_call 13; refine (callsIn_wide.2 (HD.out _)).mono ?_; rintro e w7 ⟨rfl, hb7⟩))
    have hb67 := bel_tr hb6 hb7
    have hlt : D < W.heap.size := (Array.getElem?_eq_some_iff.1 hK).1
    have hK7 := (hb67.block D hlt).trans hK
    refine ⟨by simp, .inl ⟨_, _, rfl, run_takeDeferred hK7, ?_⟩⟩
    exact ⟨_, results_tmp rfl _ _ _, rfl, (bel_tr hBW2 hb67).trans (belowK_b (w := w) (Nat.le_refl _) w7 D _ _ (Nat.le_trans hBW.size hD) hK7 rfl rfl)⟩
  case stop =>
    rintro D G c' pre W _ _ h _
    exact h.elim
theorem nameNone_all (w : World) (A : Option Addr) (n c : Nat) (rs : List RefD) (h : RefRowC w A n c rs) (id : Int) (hid : (Lit.int .u64 id).wf = true) (s : ByteArray) (_ : s.size ≤ 140737488351232) (hv : VarsOk w) :
    Calls Tryz.prog 4 #[.slice A n c, .int .u64 id, .string s] w fun e w' => e = .returned (.bool true) ∧ Below w.heap.size w w' := nameNone_calls w A n c rs h id (u64_wf hid) s hv
#print axioms nameNone_all
end Go.Proofs.YtehneliphhgegaaGreatDoor
