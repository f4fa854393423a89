/- strings.Cut at a tilde: walked once; where the first tilde is, in plain words. -/
import Derived.Test.YtehneliphhgegaaGreatDoorZKDCRef
import Derived.Test.YtehneliphhgegaaGreatDoorBase
import Derived.Test.YtehneliphhgegaaGreatDoorDRead
import Derived.Test.YtehneliphhgegaaGreatDoorShelf
import Derived.Test.YtehneliphhgegaaGreatDoorZGRefGraphAll
import Derived.Test.YtehneliphhgegaaGreatDoorZGRest
import Derived.Deep.QuietTactic
import Derived.BigQuiet
import Derived.Lib.IndexLaws
import Derived.Lib.AtoiAll
set_option linter.unusedVariables false
set_option linter.unusedSimpArgs false
set_option maxRecDepth 100000
namespace Go.Proofs.YtehneliphhgegaaGreatDoor
open Go.RowKit Go.Apo

/-- where the first tilde is; -1: nowhere -/
def tildeI (s : ByteArray) : Int := Lib.indexByte s.data.toList 126
/-- what is ahead of the first tilde and what is behind it -/
def cutV (s : ByteArray) : ByteArray × ByteArray × Bool :=
  if tildeI s < 0 then (s, ⟨#[]⟩, false) else (s.extract 0 (tildeI s).toNat, s.extract ((tildeI s).toNat + 1) s.size, true)
def cutT (v : ByteArray × ByteArray × Bool) : Value := .tuple #[.string v.1, .string v.2.1, .bool v.2.2]
theorem byteAt_of {s : ByteArray} {k : Nat} {c : UInt8} (h : s.data.toList[k]? = some c) : byteAt s k = c.toNat := by
  unfold byteAt
  rw [List.getD_eq_getElem?_getD, h]
  rfl
theorem of_byteAt {s : ByteArray} {k : Nat} (hk : k < s.size) (c : UInt8) (h : byteAt s k = c.toNat) : s.data.toList[k]? = some c := by
  have h' : k < s.data.toList.length := by simpa using hk
  unfold byteAt at h
  rw [List.getD_eq_getElem?_getD, List.getElem?_eq_getElem h'] at h
  rw [List.getElem?_eq_getElem h']
  simp only [Option.getD_some] at h
  exact congrArg some (UInt8.toNat_inj.1 h)
theorem tildeI_none {s : ByteArray} (h : ∀ k, k < s.size → byteAt s k ≠ 126) : tildeI s = -1 := by
  have hge := Lib.indexByte_ge s.data.toList 126
  by_cases hx : Lib.indexByte s.data.toList 126 = -1
  · exact hx
  · obtain ⟨o, ho⟩ : ∃ o : Nat, Lib.indexByte s.data.toList 126 = o := ⟨(Lib.indexByte s.data.toList 126).toNat, by omega⟩
    have h1 := (Lib.indexByte_some ho).1
    have hlt : o < s.size := by
      obtain ⟨hl, _⟩ := List.getElem?_eq_some_iff.1 h1
      simpa using hl
    exact absurd (byteAt_of h1) (h o hlt)
theorem tildeI_at {s : ByteArray} {k : Nat} (hk : k < s.size) (h : byteAt s k = 126) (hb : ∀ j, j < k → byteAt s j ≠ 126) : tildeI s = k := by
  have hge := Lib.indexByte_ge s.data.toList 126
  have h1 := of_byteAt hk 126 h
  by_cases hx : Lib.indexByte s.data.toList 126 = -1
  · exact absurd h1 (Lib.indexByte_none hx k)
  · obtain ⟨o, ho⟩ : ∃ o : Nat, Lib.indexByte s.data.toList 126 = o := ⟨(Lib.indexByte s.data.toList 126).toNat, by omega⟩
    have h2 := Lib.indexByte_some ho
    have e : o = k := by
      rcases Nat.lt_trichotomy o k with h' | h' | h'
      · exact absurd (byteAt_of h2.1) (hb o h')
      · exact h'
      · exact absurd h1 (h2.2 k h')
    unfold tildeI
    rw [ho, e]
theorem tildeI_lt (s : ByteArray) : tildeI s = -1 ∨ ∃ o : Nat, tildeI s = o ∧ o < s.size := by
  have hge := Lib.indexByte_ge s.data.toList 126
  by_cases hx : Lib.indexByte s.data.toList 126 = -1
  · exact Or.inl hx
  · obtain ⟨o, ho⟩ : ∃ o : Nat, Lib.indexByte s.data.toList 126 = o := ⟨(Lib.indexByte s.data.toList 126).toNat, by omega⟩
    have h1 := (Lib.indexByte_some ho).1
    obtain ⟨hl, _⟩ := List.getElem?_eq_some_iff.1 h1
    exact Or.inr ⟨o, ho, by simpa using hl⟩
theorem cutV_no {s : ByteArray} (h : tildeI s = -1) : cutV s = (s, ⟨#[]⟩, false) := by
  unfold cutV
  rw [if_pos (by omega)]
theorem cutV_at {s : ByteArray} {o : Nat} (h : tildeI s = o) : cutV s = (s.extract 0 o, s.extract (o + 1) s.size, true) := by
  unfold cutV
  rw [if_neg (by omega), h]
  rfl
theorem cutV_size (s : ByteArray) : (cutV s).1.size ≤ s.size ∧ (cutV s).2.1.size ≤ s.size := by
  unfold cutV
  split
  · exact ⟨Nat.le_refl _, Nat.zero_le _⟩
  · simp only [ByteArray.size_extract]
    omega
set_option maxHeartbeats 4000000 in
theorem cutIn_calls (s : ByteArray) (hs : s.size ≤ 1000000) (w : World) :
    Calls Tryz.prog 56 #[.string s, .string ⟨#[126]⟩] w fun e w' => e = .returned (cutT (cutV s)) ∧ Below w.heap.size w w' := by
  have HI := Lib.hid (fun W => Tryz.stringslite_Index_one s 126 W)
  change Hid (∀ W : World, Calls Tryz.prog 67 #[.string s, .string ⟨#[126]⟩] W fun e w' => e = .returned (.int .i64 (tildeI s)) ∧ w' = W) at HI
  rcases tildeI_lt s with h | ⟨o, h, ho⟩
  · rw [cutV_no h]
    rw [h] at HI
    clear h
    unfold cutT
    go_enter Tryz.func56, Tryz.ntmps56
    go_wp2_with (go_at_call 67; refine (HI.out _).mono ?_; rintro e w1 ⟨rfl, rfl⟩)
    go_ret3
    exact ⟨rfl, Below.refl _ _⟩
  · rw [cutV_at h]
    rw [h] at HI
    clear h
    have g1 : decide ((0 : Int) ≤ (o : Int)) = true := by simp
    have e1 : IntKind.i64.wrap ((o : Int) + 1) = (o : Int) + 1 := by rw [IntKind.wrap_i64]; omega
    have ho1 : ((o : Nat) : Int) ≤ s.size := by omega
    have ho2 : ((o + 1 : Nat) : Int) ≤ s.size := by omega
    unfold cutT
    go_enter Tryz.func56, Tryz.ntmps56
    go_wp2_with (go_at_call 67; refine (HI.out _).mono ?_; rintro e w1 ⟨rfl, rfl⟩)
    go_quiet (fail)
    go_wp2
    go_ret3
    exact ⟨rfl, by (repeat (first | (with_reducible exact Below.refl _ _) | (with_reducible assumption) | (with_reducible refine bel_al0 ?_ _) | (with_reducible refine bel_set ?_ (by first | (simp; done) | (simp; omega)) _) | (with_reducible refine bel_dr ?_) | (with_reducible refine bel_drn ?_ _) | (with_reducible refine bel_tr ?_ (by assumption))))⟩
theorem cut_calls (s : ByteArray) (hs : s.size ≤ 1000000) (w : World) :
    Calls Tryz.prog 42 #[.string s, .string ⟨#[126]⟩] w fun e w' => e = .returned (cutT (cutV s)) ∧ Below w.heap.size w w' := by
  have HI := Lib.hid (fun W => cutIn_calls s hs W)
  obtain ⟨V, hV⟩ : ∃ V, V = cutV s := ⟨_, rfl⟩
  rw [← hV] at HI ⊢
  clear hV
  unfold cutT at HI ⊢
  go_enter Tryz.func42, Tryz.ntmps42
  go_wp2_with (go_at_call 56; refine (HI.out _).mono ?_; rintro e w1 ⟨rfl, hb1⟩)
  go_ret3
  exact ⟨rfl, hb1⟩
end Go.Proofs.YtehneliphhgegaaGreatDoor
