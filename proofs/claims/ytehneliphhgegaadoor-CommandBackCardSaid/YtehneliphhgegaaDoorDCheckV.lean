/- What a command's Check answers, in plain words (chapter 19). -/
import Derived.Test.YtehneliphhgegaaDoorDSmall
set_option linter.unusedVariables false
set_option linter.unusedSimpArgs false
set_option maxRecDepth 100000
namespace Go.Proofs.YtehneliphhgegaaDoor
open Go.RowKit Go.Apo

def zeroV (k : Int) (nm ot ky vl : ByteArray) (n : Int) : Bool := (bN k || emptyB nm) && ((bO k || emptyB ot) && ((bK k || emptyB ky) && ((bV k || emptyB vl) && (bI k || (n == 0)))))
def bodyV (k : Int) (nm ot ky vl : ByteArray) (n : Int) : Int :=
  if k = 1 then firstV [keyE ky, valE vl]
  else if k = 2 ∨ k = 3 then keyE ky
  else if k = 4 then firstV [whenE (decide ((ky.size : Int) < 0) || decide (40 < (ky.size : Int))) 100, whenE (decide ((vl.size : Int) < 0) || decide (40 < (vl.size : Int))) 100, whenE (decide (n < 0) || decide (9223372036854775807 < n)) 1]
  else if k = 5 then whenE (!textB vl) 121
  else if k = 6 ∨ k = 7 then firstV [whenE (!nameB nm) 110, refE ot true]
  else if k = 8 ∨ k = 9 then whenE (!nameB nm) 110
  else if k = 10 ∨ k = 14 ∨ k = 15 then refE ot false
  else if k = 11 then firstV [refE ot false, whenE (decide (n < 0) || decide (2 < n)) 137]
  else if k = 12 then firstV [keyE ky, whenE (decide (n < 0) || decide (3 < n)) 137, valE vl, whenE (!((n == 0) || emptyB vl)) 160]
  else if k = 16 ∨ k = 18 then firstV [refE nm true, refE ot true]
  else if k = 17 then firstV [refE ot true, whenE (decide (n < 0) || decide (9223372036854775807 < n)) 1]
  else 0
def checkV (k : Int) (nm ot ky vl : ByteArray) (n : Int) : Int := if isK k = true ∧ zeroV k nm ot ky vl n = true then bodyV k nm ot ky vl n else 160
theorem checkV_no {k : Int} {nm ot ky vl : ByteArray} {n : Int} (h : isK k = false ∨ zeroV k nm ot ky vl n = false) : checkV k nm ot ky vl n = 160 := by
  unfold checkV
  rw [if_neg]
  rintro ⟨h1, h2⟩
  rcases h with h | h
  · rw [h] at h1; cases h1
  · rw [h] at h2; cases h2
theorem checkV_yes {k : Int} {nm ot ky vl : ByteArray} {n : Int} (h1 : isK k = true) (h2 : zeroV k nm ot ky vl n = true) : checkV k nm ot ky vl n = bodyV k nm ot ky vl n := by
  unfold checkV
  rw [if_pos ⟨h1, h2⟩]
theorem isK_yes {k : Int} (h : isK k = true) : 1 ≤ k ∧ k ≤ 20 := by unfold isK at h; simpa using h

/-- a command's cells -/
def cmdC (k : Int) (nm ot ky vl : ByteArray) (n : Int) : Array Value := #[.int .i64 k, .string nm, .string ot, .string ky, .string vl, .int .i64 n]
theorem blk_six {w : World} {b : Nat} {k : Int} {nm ot ky vl : ByteArray} {n : Int} {t : TypeId} (h : Blk w b #[.int .i64 k, .string nm, .string ot, .string ky, .string vl, .int .i64 n] t) :
    w.cell? ⟨b, 0, none⟩ = some (.int .i64 k) ∧ w.cell? ⟨b, 1, none⟩ = some (.string nm) ∧ w.cell? ⟨b, 2, none⟩ = some (.string ot) ∧ w.cell? ⟨b, 3, none⟩ = some (.string ky) ∧ w.cell? ⟨b, 4, none⟩ = some (.string vl) ∧ w.cell? ⟨b, 5, none⟩ = some (.int .i64 n) ∧ (∀ j, w.frozen? ⟨b, j, none⟩ = false) :=
  ⟨h.cell rfl, h.cell rfl, h.cell rfl, h.cell rfl, h.cell rfl, h.cell rfl, h.frozen⟩
theorem firstV_one (x : Int) : firstV [x] = x := by unfold firstV; split <;> simp_all [firstV]
theorem when_t (x : Int) : whenE true x = x := rfl
theorem when_f (x : Int) : whenE false x = 0 := rfl
theorem nat_nonneg (s : ByteArray) : decide ((s.size : Int) < 0) = false := by simp
theorem most_no {n : Int} (hn : n ≤ 9223372036854775807) : decide (9223372036854775807 < n) = false := by simp; omega
theorem eq4_t (ky vl : ByteArray) (n : Int) (nm ot : ByteArray) (hn : n ≤ 9223372036854775807) (h : decide ((40 : Int) < (ky.size : Int)) = true) : bodyV 4 nm ot ky vl n = firstV [whenE true 100, whenE (decide (n < 0)) 1] := by
  unfold bodyV
  rw [if_neg (by decide), if_neg (by decide), if_pos rfl, h, most_no hn, nat_nonneg, nat_nonneg]
  simp [firstV, whenE]
theorem eq4_f (ky vl : ByteArray) (n : Int) (nm ot : ByteArray) (hn : n ≤ 9223372036854775807) (h : decide ((40 : Int) < (ky.size : Int)) = false) : bodyV 4 nm ot ky vl n = firstV [whenE (decide ((40 : Int) < (vl.size : Int))) 100, whenE (decide (n < 0)) 1] := by
  unfold bodyV
  rw [if_neg (by decide), if_neg (by decide), if_pos rfl, h, most_no hn, nat_nonneg, nat_nonneg]
  simp [firstV, whenE]
theorem eq11_t (nm ot ky vl : ByteArray) (n : Int) (h : decide (n < 0) = true) : bodyV 11 nm ot ky vl n = firstV [refE ot false, whenE true 137] := by
  unfold bodyV; rw [h]; rfl
theorem eq11_f (nm ot ky vl : ByteArray) (n : Int) (h : decide (n < 0) = false) : bodyV 11 nm ot ky vl n = firstV [refE ot false, whenE (decide (2 < n)) 137] := by
  unfold bodyV; rw [h]; rfl
theorem eq12_tt (nm ot ky vl : ByteArray) (n : Int) (h : decide (n < 0) = true) (h2 : (n == 0) = true) : bodyV 12 nm ot ky vl n = firstV [keyE ky, whenE true 137, valE vl, whenE false 160] := by
  unfold bodyV; rw [h, h2]; rfl
theorem eq12_tf (nm ot ky vl : ByteArray) (n : Int) (h : decide (n < 0) = true) (h2 : (n == 0) = false) : bodyV 12 nm ot ky vl n = firstV [keyE ky, whenE true 137, valE vl, whenE (!vl.toList.isEmpty) 160] := by
  unfold bodyV; rw [h, h2]; rfl
theorem eq12_ft (nm ot ky vl : ByteArray) (n : Int) (h : decide (n < 0) = false) (h2 : (n == 0) = true) : bodyV 12 nm ot ky vl n = firstV [keyE ky, whenE (decide (3 < n)) 137, valE vl, whenE false 160] := by
  unfold bodyV; rw [h, h2]; rfl
theorem eq12_ff (nm ot ky vl : ByteArray) (n : Int) (h : decide (n < 0) = false) (h2 : (n == 0) = false) : bodyV 12 nm ot ky vl n = firstV [keyE ky, whenE (decide (3 < n)) 137, valE vl, whenE (!vl.toList.isEmpty) 160] := by
  unfold bodyV; rw [h, h2]; rfl
theorem eq17 (nm ot ky vl : ByteArray) (n : Int) (hn : n ≤ 9223372036854775807) : bodyV 17 nm ot ky vl n = firstV [refE ot true, whenE (decide (n < 0)) 1] := by
  unfold bodyV; rw [most_no hn, Bool.or_false]; rfl
theorem rfirst0_calls (w : World) : Calls Tryd.prog 56 #[.slice none 0 0] w fun e w' => e = .returned (.int .i64 (firstV [])) ∧ w = w' := by
  have e0 : firstV [] = 0 := rfl
  rw [e0]
  clear e0
  go_enter Tryd.func56, Tryd.ntmps56
  go_wp2
  go_loop [7, 4] (fun i _ => i = .int .i64 0) (fun _ _ => 0)
  case atStart => rfl
  case round =>
    obtain rfl := hrel
    go_wp2
    go_ret
    exact ⟨rfl, rfl⟩
end Go.Proofs.YtehneliphhgegaaDoor
