/- The sorted numbers of a map with numbers for keys. -/
import Derived.Test.YtehneliphhgegaaGreatDoorRows2
import Derived.Test.YtehneliphhgegaaGreatDoorZSeq
import Derived.Test.YtehneliphhgegaaGreatDoorIterU
import Derived.Test.YtehneliphhgegaaGreatDoorBase
import Derived.Test.YtehneliphhgegaaGreatDoorDRead
import Derived.Test.YtehneliphhgegaaGreatDoorZGGraphAll
import Derived.Test.YtehneliphhgegaaGreatDoorZGMadeAll
import Derived.Test.YtehneliphhgegaaGreatDoorZGRefGraphAll
import Derived.Test.YtehneliphhgegaaGreatDoorZGRest
set_option linter.unusedVariables false
set_option linter.unusedSimpArgs false
set_option maxRecDepth 100000
namespace Go.Proofs.YtehneliphhgegaaGreatDoor
open Go.RowKit Go.Apo

def anyR : Value → Option (DataW Unit × List MemPlace) := fun _ => some (.nil, [])
def sortI (l : List Int) : List Int := l.mergeSort (fun x y => decide (x ≤ y))
theorem sortI_of_perm {l k : List Int} (h : l.Perm k) : sortI l = sortI k := mergeSort_of_perm_i h
theorem nums_encU (l : List Int) : l.map encU = nums l := rfl

section
variable {ν : Type} {R : World → ν → Value → Prop} {w : World} {m : Nat} {L : List (Int × ν)}
theorem ents_keys {ek : Int → Value} {Rv : ν → Value → Prop} : ∀ {es : List MapEntry} {L : List (Int × ν)}, Ents ek Rv es L → es.map (·.key) = (mkeys L).map ek
  | [], [], _ => rfl
  | e :: es, p :: L, h => by
    simp only [List.map_cons, mkeys, h.1]
    exact congrArg _ (ents_keys h.2.2)
theorem mapIs_owns {P : Program} {kt : TypeId} (hk : P.underlying kt = some (.int .u64)) (h : MapIs (Value.int .u64) R w m L) (hL : L.length ≤ maxLen) (hw : ∀ k ∈ mkeys L, (Lit.int .u64 k).wf = true) :
    ∃ D0 : DataW Unit, w.ownsMap P kt anyR m L.length D0 ∧ (Go.intKeys D0).Perm (mkeys L) ∧ Maps.size D0 = L.length := by
  obtain ⟨es, c, hb, hs, he⟩ := h.ex
  have hlen := he.length
  have hkeys := ents_keys he
  have hrd : ∀ x ∈ es.toList, ∃ k, x.key = .int .u64 k ∧ k ∈ mkeys L := fun x hx => by
    have : x.key ∈ (mkeys L).map (Value.int .u64) := by rw [← hkeys]; exact List.mem_map.2 ⟨x, hx, rfl⟩
    obtain ⟨k, h1, h2⟩ := List.mem_map.1 this
    exact ⟨k, h2.symm, h1⟩
  have hko : ∀ k, k ∈ mkeys L → keyOf P kt (.int .u64 k) = some (.int .u64 k) := fun k hkm => Maps.keyOf_int_mk hk (hw k hkm)
  refine ⟨_, ⟨es, c, hb, ⟨by simpa using (show es.toList.length ≤ maxLen by rw [hlen]; exact hL), hs, fun x hx => ?_⟩, by simpa using (show es.toList.length ≤ L.length by omega), rfl⟩, ?_, ?_⟩
  · obtain ⟨k, h1, h2⟩ := hrd x hx
    exact ⟨(.int .u64 k, .nil), by simp [Go.WideElems.rd, h1, hko k h2, anyR]⟩
  · refine (List.Perm.map _ (Go.WideShapes.sorted_perm _)).trans ?_
    rw [List.map_map]
    have : es.toList.map ((fun p => Go.intOf p.1) ∘ Go.WideElems.rg P kt anyR) = mkeys L := by
      have h2 : es.toList.map ((fun p => Go.intOf p.1) ∘ Go.WideElems.rg P kt anyR) = (es.toList.map (·.key)).map (fun v => match v with | .int _ k => k | _ => 0) := by
        rw [List.map_map]
        refine List.map_congr_left fun x hx => ?_
        obtain ⟨k, h1, h3⟩ := hrd x hx
        simp [Go.WideElems.rg, Go.WideElems.rd, h1, hko k h3, anyR, Go.intOf]
      rw [h2, hkeys, List.map_map]
      exact List.map_id' _
    rw [this]
  · show ((es.toList.map _).foldr DataW.insert []).length = _
    rw [length_sorted]
    simpa using hlen
end

section
variable {ν : Type} {R : World → ν → Value → Prop} {w : World} {m : Nat} {L : List (Int × ν)}
/-- what slices.Sorted leaves -/
def SortedPost (w : World) (l : List Int) (e : Ending) (w' : World) : Prop :=
  ∃ v, e = .returned v ∧ w'.ownsRow w.heap.size 34 1 v l.length (nums (sortI l)) ∧ (v = .slice none 0 0 ↔ l = []) ∧ Below w.heap.size w w'
theorem sorts_wide (n : Nat) : UI.SortsIn Fence.wide n :=
  ⟨fun blk off cap ss W hH hb hl => callsIn_wide.2 (U.slices_Sort_u64 blk off cap ss W hH hb hl), fun p cap W => callsIn_wide.2 (U.Sort_u64_nil p cap W)⟩
theorem sortedOf {gf : Nat} {lb : Array Value} (eg : ∀ args w, (callFunc gf args).run Tryz.prog w = .ok (.enter gf args) w) (w : World) (l : List Int) (hl : l.length ≤ 1000000)
    (hseq : SeqGives Fence.wide 1 Tryz.prog gf lb encU (fun ss => ss.Perm l) l.length w) :
    Calls Tryz.prog 40 #[.func (.func gf) #[] lb] w (SortedPost w l) := by
  refine (callsIn_wide.1 (UI.sorted_in Fence.wide 4 trivial trivial trivial trivial rfl (Nat.le_refl _) (sorts_wide _) (enters_of Tryz.func54 (by kernel_rfl) rfl) gf lb trivial eg _ l.length (by unfold maxLen; omega) (by omega) w hseq)).mono ?_
  rintro e w' ⟨v, ss, rfl, hp, hrow, hnil, hb⟩
  have h1 : ss.length = l.length := hp.length_eq
  have h2 : ss.mergeSort (fun x y => decide (x ≤ y)) = sortI l := sortI_of_perm hp
  rw [h2, h1, nums_encU] at hrow
  refine ⟨v, rfl, hrow, hnil.trans ?_, hb⟩
  constructor
  · rintro rfl; exact List.eq_nil_of_length_eq_zero h1.symm
  · rintro rfl; exact List.eq_nil_of_length_eq_zero h1
/-- the sorted numbers of a table of commits -/
theorem sortedC_calls (w : World) (Bm : Nat) (hc : w.cell? ⟨Bm, 0, none⟩ = some (.map (some m))) (h : MapIs (Value.int .u64) R w m L) (hL : L.length ≤ 1000000) (hw : numsIn (mkeys L)) :
    Calls Tryz.prog 40 #[.func (.func 55) #[] #[.pointer (some ⟨Bm, 0, none⟩)]] w (SortedPost w (mkeys L)) := by
  obtain ⟨D0, h1, h2, h3⟩ := mapIs_owns (P := Tryz.prog) Tryz.underlying34 h (by unfold maxLen; omega) hw
  have hlen : (mkeys L).length = L.length := by simp [mkeys]
  refine sortedOf (enters_of Tryz.func55 (by kernel_rfl) rfl) w (mkeys L) (by omega) ?_
  have hk := UC.keys_gives Fence.wide 1 trivial rfl (Nat.le_refl _) Bm m L.length D0 w (cell_lt hc) hc h1
  intro l J W hW hJ hY h0
  refine (hk l J W hW hJ (fun pre x W1 hj hl => hY pre x W1 hj (by rw [hlen, ← h3]; exact hl)) h0).mono ?_
  rintro e W' ⟨hv, ss, hp, hj⟩
  exact ⟨hv, ss, hp.trans h2, hj⟩
theorem keysC_calls (mb : Option Nat) (w : World) :
    Calls Tryz.prog 41 #[.map mb] w fun e w' => e = .returned (.func (.func 55) #[] #[.pointer (some ⟨w.heap.size, 0, none⟩)]) ∧ w' = w.alloc (.cells #[.map mb] 77) :=
  callsIn_wide.1 (UC.keys_in Fence.wide 1 trivial rfl mb w)
end
end Go.Proofs.YtehneliphhgegaaGreatDoor
