/- The chapter's example of names; the laws NameSplits and NameFinds, walked. -/
import Derived.Test.YtehneliphhgegaaDoorDFind
import Derived.Test.YtehneliphhgegaaDoorDCalled
set_option linter.unusedVariables false
set_option linter.unusedSimpArgs false
set_option maxRecDepth 100000
namespace Go.Proofs.YtehneliphhgegaaDoor
open Go.RowKit Go.Apo

set_option maxHeartbeats 4000000 in
theorem awake33_calls (w : World) (hv : VarsOk w) :
    Calls Tryd.prog 25 #[] w fun e w' => e = .returned (.bool true) ∧ Below w.heap.size w w' := by
  have hin := ex33_in w
  have HG := Lib.hid (graphN hin ex33_few)
  have HM := Lib.hid (made_calls _ _ 3 3 ex33 hin ex33_few)
  unfold MadePost at HM
  clear hin
  have hbW : Below w.heap.size w (((w.alloc (.cells #[.int .u64 1] 23)).alloc (.cells #[.int .u64 2] 23)).alloc (.cells #[.int .u64 1, .slice none 0 0, .int .u64 1, .int .u64 0, .string ⟨#[]⟩, .int .u64 2, .slice (some ⟨w.heap.size, 0, none⟩) 1 1, .int .u64 2, .int .u64 0, .string ⟨#[]⟩, .int .u64 3, .slice (some ⟨w.heap.size + 1, 0, none⟩) 1 1, .int .u64 3, .int .u64 0, .string ⟨#[]⟩] 108)) := by (repeat (first | (with_reducible exact Below.refl _ _) | (with_reducible assumption) | (with_reducible refine bel_al0 ?_ _) | (with_reducible refine bel_set ?_ (by first | (simp; done) | (simp; omega)) _) | (with_reducible refine bel_dr ?_) | (with_reducible refine bel_drn ?_ _) | (with_reducible refine bel_tr ?_ (by assumption))))
  have HOF := Lib.hid (fun w1 p m (hb : Below w.heap.size w w1) (hg : GraphAt w1 p m (madeL ex33)) => cof_calls (w1.alloc (.cells #[.string mainB, .bool false, .int .u64 3] 61)) (some ⟨p, 0, none⟩) (madeL ex33) (Or.inl ⟨p, m, rfl, hg.below (bel_al0 (Below.refl _ _) _)⟩) HG.out.falls HG.out.line (some ⟨w1.heap.size, 0, none⟩) 1 1 exR33 (exR33_in w1) (by omega) (by omega) 1 (by unfold u64ok; omega) (hv.below (bel_al0 hb _)))
  rw [ex33_of] at HOF
  unfold mainB at HOF
  go_enter Tryd.func25, Tryd.ntmps25
  go_wp2_with (first | (go_at_call 30; refine HM.out.mono ?_; rintro e w1 ⟨p, m, x, rfl, hg1, hr1, hb1, hl1, hl2, hl3⟩; have HG1 := Lib.hid hg1; have hB1 := bel_tr hbW hb1; clear hg1 hr1 hl1 hl2 hl3) | (go_at_call 33; refine (HOF.out w1 p m hB1 HG1.out).mono ?_; rintro e w2 ⟨rfl, hb2⟩))
  go_ret
  exact ⟨rfl, bel_tr (bel_al0 hB1 _) hb2⟩

set_option maxHeartbeats 4000000 in
theorem nameSplits_calls (s : ByteArray) (w : World) (hv : VarsOk w) :
    Calls Tryd.prog 9 #[.string s] w fun e w' => e = .returned (.bool true) ∧ Below w.heap.size w w' := by
  have HA := Lib.hid (awake33_calls w hv)
  by_cases hs : s.size ≤ 60
  · have HC := Lib.hid (fun W (hW : Below w.heap.size w W) => csplit_calls s (by omega) W (hv.below hW))
    have HR := Lib.hid (fun W => rsplit_calls s (by omega) W)
    have g1 : decide ((60 : Int) < (s.size : Int)) = false := by simp; omega
    obtain ⟨V, hV⟩ : ∃ V, V = splitV s := ⟨_, rfl⟩
    rw [← hV] at HC HR
    clear hV
    obtain ⟨f, k, ok⟩ := V
    unfold splitT at HC HR
    go_enter Tryd.func9, Tryd.ntmps9
    go_wp2_with (first | (go_at_call 25; refine HA.out.mono ?_; rintro e w1 ⟨rfl, hb1⟩) | (go_at_call 26; refine (HC.out _ hb1).mono ?_; rintro e w2 ⟨rfl, hb2⟩; have hB2 := bel_tr hb1 hb2) | (go_at_call 27; refine (HR.out _).mono ?_; rintro e w3 ⟨rfl, hb3⟩))
    go_ret
    exact ⟨rfl, bel_tr hB2 hb3⟩
  · have g1 : decide ((60 : Int) < (s.size : Int)) = true := by simp; omega
    go_enter Tryd.func9, Tryd.ntmps9
    go_wp2_with (go_at_call 25; refine HA.out.mono ?_; rintro e w1 ⟨rfl, hb1⟩)
    go_ret
    exact ⟨rfl, hb1⟩
theorem nameSplits_all (w : World) (s : ByteArray) (_ : s.size ≤ 140737488351232) (hv : VarsOk w) :
    Calls Tryd.prog 9 #[.string s] w fun e w' => e = .returned (.bool true) ∧ Below w.heap.size w w' := nameSplits_calls s w hv
#print axioms nameSplits_all
end Go.Proofs.YtehneliphhgegaaDoor
