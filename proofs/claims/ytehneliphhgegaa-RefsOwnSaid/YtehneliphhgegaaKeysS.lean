/- The sorted keys of a map with texts for keys. -/
import Derived.Test.YtehneliphhgegaaIterS
import Derived.Test.YtehneliphhgegaaRefsAll
import Derived.Test.YtehneliphhgegaaSeq
set_option linter.unusedVariables false
set_option linter.unusedSimpArgs false
set_option maxRecDepth 100000
namespace Go.Proofs.Ytehneliphhgegaa
open Go.RowKit Go.Apo

def anyS : Value → Option (DataW Unit × List MemPlace) := fun _ => some (.nil, [])
def bsOf (s : ByteArray) : List UInt8 := s.data.toList
def ofBs (l : List UInt8) : ByteArray := ⟨l.toArray⟩
theorem ofBs_bsOf (s : ByteArray) : ofBs (bsOf s) = s := by unfold ofBs bsOf; simp
theorem bsOf_ofBs (l : List UInt8) : bsOf (ofBs l) = l := rfl
theorem encStr_bs (s : ByteArray) : encStr (bsOf s) = Value.string s := by show Value.string (ofBs (bsOf s)) = _; rw [ofBs_bsOf]
/-- texts in the order of their bytes -/
def sortS (l : List ByteArray) : List ByteArray := ((l.map bsOf).mergeSort leB).map ofBs
theorem sortS_map (l : List ByteArray) : (sortS l).map Value.string = ((l.map bsOf).mergeSort leB).map encStr := by unfold sortS; rw [List.map_map]; rfl
theorem sortS_len (l : List ByteArray) : (sortS l).length = l.length := by unfold sortS; simp
theorem sortS_perm (l : List ByteArray) : (sortS l).Perm l := by
  unfold sortS
  have h := ((List.mergeSort_perm (l.map bsOf) leB).map ofBs)
  rw [List.map_map] at h
  have e : l.map (ofBs ∘ bsOf) = l := by
    conv => rhs; rw [← List.map_id l]
    exact List.map_congr_left fun s _ => ofBs_bsOf s
  rwa [e] at h
section
variable {ν : Type} {R : World → ν → Value → Prop} {w : World} {m : Nat} {L : List (ByteArray × ν)}
theorem entsS_keys {ek : ByteArray → Value} {Rv : ν → Value → Prop} : ∀ {es : List MapEntry} {L : List (ByteArray × ν)}, Ents ek Rv es L → es.map (·.key) = (mkeys L).map ek
  | [], [], _ => rfl
  | e :: es, p :: L, h => by
    simp only [List.map_cons, mkeys, h.1]
    exact congrArg _ (entsS_keys h.2.2)
theorem mapIs_ownsS {P : Program} {kt : TypeId} (hk : P.underlying kt = some .string) (h : MapIs Value.string R w m L) (hL : L.length ≤ maxLen) (hw : ∀ k ∈ mkeys L, k.size ≤ maxLen) :
    ∃ D0 : DataW Unit, w.ownsMap P kt anyS m L.length D0 ∧ (Go.strKeys D0).Perm ((mkeys L).map bsOf) ∧ Maps.size D0 = L.length := by
  obtain ⟨es, c, hb, hs, he⟩ := h.ex
  have hlen := he.length
  have hkeys := entsS_keys he
  have hrd : ∀ x ∈ es.toList, ∃ k, x.key = .string k ∧ k ∈ mkeys L := fun x hx => by
    have : x.key ∈ (mkeys L).map Value.string := by rw [← hkeys]; exact List.mem_map.2 ⟨x, hx, rfl⟩
    obtain ⟨k, h1, h2⟩ := List.mem_map.1 this
    exact ⟨k, h2.symm, h1⟩
  have hko : ∀ k, k ∈ mkeys L → keyOf P kt (.string k) = some (.string k.data.toList) := fun k hkm => Go.WideMaps.keyOf_string_mk hk (hw k hkm)
  refine ⟨_, ⟨es, c, hb, ⟨by simpa using (show es.toList.length ≤ maxLen by rw [hlen]; exact hL), hs, fun x hx => ?_⟩, by simpa using (show es.toList.length ≤ L.length by omega), rfl⟩, ?_, ?_⟩
  · obtain ⟨k, h1, h2⟩ := hrd x hx
    exact ⟨(.string k.data.toList, .nil), by simp [Go.WideElems.rd, h1, hko k h2, anyS]⟩
  · refine (List.Perm.map _ (Go.WideShapes.sorted_perm _)).trans ?_
    rw [List.map_map]
    have : es.toList.map ((fun p => Go.strOf p.1) ∘ Go.WideElems.rg P kt anyS) = (mkeys L).map bsOf := by
      have h2 : es.toList.map ((fun p => Go.strOf p.1) ∘ Go.WideElems.rg P kt anyS) = (es.toList.map (·.key)).map (fun v => match v with | .string k => bsOf k | _ => []) := by
        rw [List.map_map]
        refine List.map_congr_left fun x hx => ?_
        obtain ⟨k, h1, h3⟩ := hrd x hx
        simp [Go.WideElems.rg, Go.WideElems.rd, h1, hko k h3, anyS, Go.strOf, bsOf]
      rw [h2, hkeys, List.map_map]
      rfl
    rw [this]
  · show ((es.toList.map _).foldr DataW.insert []).length = _
    rw [length_sorted]
    simpa using hlen
end
def SortedSPost (w : World) (ks : List ByteArray) (e : Ending) (w' : World) : Prop :=
  ∃ v, e = .returned v ∧ w'.ownsRow w.heap.size 9 1 v ks.length ((sortS ks).map Value.string) ∧ Below w.heap.size w w'
/-- the sorted names of a table of refs, told by what maps.Keys has handed back -/
theorem sortedR_calls {ν : Type} {R : World → ν → Value → Prop} {m : Nat} {L : List (ByteArray × ν)} (w : World) (h : MapIs Value.string R w m L) (hL : L.length ≤ 1000000) (hw : ∀ k ∈ mkeys L, k.size ≤ 1000000) :
    Calls Try.prog 107 #[.func (.func 128) #[] #[.pointer (some ⟨w.heap.size, 0, none⟩)]] (w.alloc (.cells #[.map (some m)] 97)) (SortedSPost (w.alloc (.cells #[.map (some m)] 97)) (mkeys L)) := by
  obtain ⟨D0, h1, h2, h3⟩ := mapIs_ownsS (P := Try.prog) Try.underlying9 h (by unfold maxLen; omega) (fun k hk => by have := hw k hk; unfold maxLen; omega)
  refine (callsIn_wide.1 (Try.slices_Sorted_keys_107_108 m L.length D0 anyS w h1 (by rw [h3]; unfold maxLen; omega) (by rw [h3]; omega))).mono ?_
  rintro e w' ⟨v, ss, rfl, hp, ho, _, hb⟩
  have hp2 := hp.trans h2
  have hl : ss.length = (mkeys L).length := by rw [hp2.length_eq, List.length_map]
  refine ⟨v, rfl, ?_, hb⟩
  rw [sortS_map, ← mergeSort_of_perm hp2, ← hl]
  exact ho
theorem keysR_calls (mb : Option Nat) (w : World) :
    Calls Try.prog 108 #[.map mb] w fun e w' => e = .returned (.func (.func 128) #[] #[.pointer (some ⟨w.heap.size, 0, none⟩)]) ∧ w' = w.alloc (.cells #[.map mb] 97) :=
  callsIn_wide.1 (Try.maps_Keys_108 mb w)
end Go.Proofs.Ytehneliphhgegaa
