/- The chapter's example of names, walked. -/
import Derived.Test.YtehneliphhgegaaGreatDoorZKDOfN
import Derived.Test.YtehneliphhgegaaGreatDoorBase
import Derived.Test.YtehneliphhgegaaGreatDoorDFmt
import Derived.Test.YtehneliphhgegaaGreatDoorDRead
import Derived.Test.YtehneliphhgegaaGreatDoorRows2
import Derived.Test.YtehneliphhgegaaGreatDoorZGGraphAll
import Derived.Test.YtehneliphhgegaaGreatDoorZGMadeAll
import Derived.Test.YtehneliphhgegaaGreatDoorZGRefGraphAll
import Derived.Test.YtehneliphhgegaaGreatDoorZGRest
import Derived.Test.YtehneliphhgegaaGreatDoorZKDNameG
set_option linter.unusedVariables false
set_option linter.unusedSimpArgs false
set_option maxRecDepth 100000
namespace Go.Proofs.YtehneliphhgegaaGreatDoor
open Go.RowKit Go.Apo

set_option maxHeartbeats 4000000 in
theorem awake33_calls (w : World) (hv : VarsOk w) :
    Calls Tryz.prog 5 #[] w fun e w' => e = .returned (.bool true) ∧ Below w.heap.size w w' := by
  have hin := ex33_in w
  have HG := Lib.hid (graphN hin ex33_few)
  have HM := Lib.hid (made_calls _ _ 3 3 ex33 hin ex33_few)
  unfold MadePost at HM
  clear hin
  have hbW : Below w.heap.size w (((w.alloc (.cells #[.int .u64 1] 34)).alloc (.cells #[.int .u64 2] 34)).alloc (.cells #[.int .u64 1, .slice none 0 0, .int .u64 1, .int .u64 0, .string ⟨#[]⟩, .int .u64 2, .slice (some ⟨w.heap.size, 0, none⟩) 1 1, .int .u64 2, .int .u64 0, .string ⟨#[]⟩, .int .u64 3, .slice (some ⟨w.heap.size + 1, 0, none⟩) 1 1, .int .u64 3, .int .u64 0, .string ⟨#[]⟩] 41)) := by (repeat (first | (with_reducible exact Below.refl _ _) | (with_reducible assumption) | (with_reducible refine bel_al0 ?_ _) | (with_reducible refine bel_set ?_ (by first | (simp; done) | (simp; omega)) _) | (with_reducible refine bel_dr ?_) | (with_reducible refine bel_drn ?_ _) | (with_reducible refine bel_tr ?_ (by assumption))))
  have HOF := Lib.hid (fun w1 p m (hb : Below w.heap.size w w1) (hg : GraphAt w1 p m (madeL ex33)) => cof_calls (w1.alloc (.cells #[.string mainB, .bool false, .int .u64 3] 48)) (some ⟨p, 0, none⟩) (madeL ex33) (Or.inl ⟨p, m, rfl, hg.below (bel_al0 (Below.refl _ _) _)⟩) HG.out.falls HG.out.line (some ⟨w1.heap.size, 0, none⟩) 1 1 exR33 (exR33_in w1) (by omega) (by omega) 1 (by unfold u64ok; omega) (hv.below (bel_al0 hb _)))
  rw [ex33_of] at HOF
  unfold mainB at HOF
  go_enter Tryz.func5, Tryz.ntmps5
  go_wp2_with (first | (go_at_call 8; refine HM.out.mono ?_; rintro e w1 ⟨p, m, x, rfl, hg1, hr1, hb1, hl1, hl2, hl3⟩; have HG1 := Lib.hid hg1; have hB1 := bel_tr hbW hb1; clear hg1 hr1 hl1 hl2 hl3) | (go_at_call 12; refine (HOF.out w1 p m hB1 HG1.out).mono ?_; rintro e w2 ⟨rfl, hb2⟩))
  go_ret
  exact ⟨rfl, bel_tr (bel_al0 hB1 _) hb2⟩

end Go.Proofs.YtehneliphhgegaaGreatDoor
