/- The document's Check, whatever the kind. -/
import Derived.Test.YtehneliphhgegaaDoorDRCheck
import Derived.Test.YtehneliphhgegaaDoorDRCheckB
import Derived.Test.YtehneliphhgegaaDoorDRCheckC
import Derived.Test.YtehneliphhgegaaDoorDRCheckD
import Derived.Test.YtehneliphhgegaaDoorDRCheckE
set_option linter.unusedVariables false
namespace Go.Proofs.YtehneliphhgegaaDoor
open Go.RowKit Go.Apo
theorem rcheck_calls (k : Int) (nm ot ky vl : ByteArray) (n : Int) (h1 : nm.size ≤ 1000000) (h2 : ot.size ≤ 1000000) (h3 : ky.size ≤ 1000000) (h4 : vl.size ≤ 1000000) (hn : n ≤ 9223372036854775807) (w : World) :
    Calls Tryd.prog 18 #[.agg #[.int .i64 k, .string nm, .string ot, .string ky, .string vl, .int .i64 n]] w fun e w' => e = .returned (.int .i64 (checkV k nm ot ky vl n)) ∧ Below w.heap.size w w' := by
  rcases kinds k with ⟨k1, k2⟩ | h
  · rcases kind_cases k1 k2 with rfl | rfl | rfl | rfl | rfl | rfl | rfl | rfl | rfl | rfl | rfl | rfl | rfl | rfl | rfl | rfl | rfl | rfl | rfl | rfl
    · exact rcheck_1 nm ot ky vl n h1 h2 h3 h4 hn w
    · exact rcheck_2 nm ot ky vl n h1 h2 h3 h4 hn w
    · exact rcheck_3 nm ot ky vl n h1 h2 h3 h4 hn w
    · exact rcheck_4 nm ot ky vl n h1 h2 h3 h4 hn w
    · exact rcheck_5 nm ot ky vl n h1 h2 h3 h4 hn w
    · exact rcheck_6 nm ot ky vl n h1 h2 h3 h4 hn w
    · exact rcheck_7 nm ot ky vl n h1 h2 h3 h4 hn w
    · exact rcheck_8 nm ot ky vl n h1 h2 h3 h4 hn w
    · exact rcheck_9 nm ot ky vl n h1 h2 h3 h4 hn w
    · exact rcheck_10 nm ot ky vl n h1 h2 h3 h4 hn w
    · exact rcheck_11 nm ot ky vl n h1 h2 h3 h4 hn w
    · exact rcheck_12 nm ot ky vl n h1 h2 h3 h4 hn w
    · exact rcheck_13 nm ot ky vl n h1 h2 h3 h4 hn w
    · exact rcheck_14 nm ot ky vl n h1 h2 h3 h4 hn w
    · exact rcheck_15 nm ot ky vl n h1 h2 h3 h4 hn w
    · exact rcheck_16 nm ot ky vl n h1 h2 h3 h4 hn w
    · exact rcheck_17 nm ot ky vl n h1 h2 h3 h4 hn w
    · exact rcheck_18 nm ot ky vl n h1 h2 h3 h4 hn w
    · exact rcheck_19 nm ot ky vl n h1 h2 h3 h4 hn w
    · exact rcheck_20 nm ot ky vl n h1 h2 h3 h4 hn w
  · exact rcheck_no k h nm ot ky vl n h1 h2 h3 h4 hn w
end Go.Proofs.YtehneliphhgegaaDoor
