/- How an argument that is read as data lies in memory: numbers, bools, texts, structs and slices of these, to the bottom. -/
import Derived.Test.YtehneliphhgegaaGreatDoorBase
import Derived.ProofKit
import Derived.OpenShut
import Derived.ShutString
import Derived.ChangeOld
import Derived.SizedLaws
import Derived.Deep.Slices
set_option linter.unusedVariables false
set_option linter.unusedSimpArgs false
namespace Go.Apo
open Go.ChangeShapes Go.WideShapes Go.RowKit

section
variable {H : Type} {enc : TypeId × Value → H} {P : Program} {w : World}

/-- these cells read as a value of type t -/
def G (enc : TypeId × Value → H) (P : Program) (w : World) (t : TypeId) (cs : List Value) : Prop := ∃ fuel x, DataW.trod enc P w 0 (fun _ => true) true fuel t cs = some x

theorem G.int {t : TypeId} {cs : List Value} {k : IntKind} (h : G enc P w t cs) (ht : P.underlying t = some (.int k)) : ∃ n, cs = [.int k n] ∧ (Lit.int k n).wf = true := by
  obtain ⟨f, x, h⟩ := h
  obtain ⟨n, h1, _, h2⟩ := DataW.trod_int ht h
  exact ⟨n, h1, h2⟩
theorem G.bool {t : TypeId} {cs : List Value} (h : G enc P w t cs) (ht : P.underlying t = some .bool) : ∃ b, cs = [.bool b] := by
  obtain ⟨f, x, h⟩ := h
  obtain ⟨n, h1, _⟩ := DataW.trod_bool ht h
  exact ⟨n, h1⟩
theorem G.string {t : TypeId} {cs : List Value} (h : G enc P w t cs) (ht : P.underlying t = some .string) : ∃ s : ByteArray, cs = [.string s] ∧ s.size ≤ maxLen := by
  obtain ⟨f, x, h⟩ := h
  obtain ⟨n, h1, _, h2⟩ := DataW.trod_string ht h
  exact ⟨n, h1, h2⟩
theorem G.len {t : TypeId} {cs : List Value} {fs : Array Field} (h : G enc P w t cs) (ht : P.underlying t = some (.struct fs)) : cs.length = P.cellsOf t := by
  obtain ⟨f, x, h⟩ := h
  obtain ⟨xs, n, _, _, h1, _⟩ := DataW.trod_struct ht h
  exact h1
theorem G.field {t : TypeId} {cs : List Value} {fs : Array Field} (h : G enc P w t cs) (ht : P.underlying t = some (.struct fs)) (i T o k : Nat) (hf : (fs[i]?).map (fun f => (f.type, f.offset)) = some (T, o)) (hk : P.cellsOf T = k) : G enc P w T ((cs.drop o).take k) := by
  obtain ⟨fu, x, h⟩ := h
  obtain ⟨xs, n, _, _, _, h2, h3⟩ := DataW.trod_struct ht h
  obtain ⟨f, hf1, hf2⟩ := Option.map_eq_some_iff.1 hf
  cases hf2
  have hi : i < xs.length := by rw [h2]; exact (Array.getElem?_eq_some_iff.1 hf1).1
  exact ⟨n, xs[i], by rw [← hk, h3 i f hf1]; exact List.getElem?_eq_getElem hi⟩

theorem add_pl (b o k : Nat) : (⟨b, o, none⟩ : Addr).add k = ⟨b, o + k, none⟩ := by unfold Addr.add; split <;> simp_all

/-- a slice: its cells, element by element -/
theorem G.slice {t e : TypeId} {v : Value} (h : G enc P w t [v]) (ht : P.underlying t = some (.slice e)) (hp : 0 < P.cellsOf e) :
    ∃ a len cap, v = .slice a len cap ∧ len ≤ cap ∧ cap ≤ maxLen ∧ (0 < len → ∃ b off, a = some ⟨b, off, none⟩ ∧ ∀ i, i < len → ∃ cs, cs.length = P.cellsOf e ∧ G enc P w e cs ∧ ∀ j u, cs[j]? = some u → w.cell? ⟨b, off + i * P.cellsOf e + j, none⟩ = some u) := by
  obtain ⟨f, x, h⟩ := h
  rcases Deep.open_slice ht h with ⟨h1, _⟩ | ⟨a, len, cap, m, n, D, Pl, h1, _, hl, hm, hmm, _, hx⟩
  · simp only [List.cons.injEq, and_true] at h1
    subst h1
    exact ⟨none, 0, 0, rfl, Nat.le_refl _, Nat.zero_le _, fun h => absurd h (Nat.lt_irrefl _)⟩
  · simp only [List.cons.injEq, and_true] at h1
    subst h1
    refine ⟨some a, len, cap, rfl, hl, hm, fun h0 => ?_⟩
    have hle : len ≤ m := by rw [hmm]; simp; exact hl
    obtain ⟨b, off, sp⟩ := a
    have hs : sp = none := by
      obtain ⟨cs, h2, _⟩ := hx 0 (by omega)
      obtain ⟨_, h3, h4⟩ := World.cells?_some h2
      have h5 := h4 0 hp
      have h6 : (⟨b, off, sp⟩ : Addr).add (0 * P.cellsOf e) = ⟨b, off, sp⟩ := by simp [Addr.add]
      rw [h6] at h5
      have h7 : (⟨b, off, sp⟩ : Addr).add 0 = ⟨b, off, sp⟩ := by simp [Addr.add]
      rw [h7] at h5
      rw [List.getElem?_eq_getElem (show 0 < cs.length by omega)] at h5
      unfold World.cell? at h5
      split at h5
      · cases sp with
        | none => rfl
        | some q => simp at h5
      · cases h5
    subst hs
    refine ⟨b, off, rfl, fun i hi => ?_⟩
    obtain ⟨cs, h2, h3⟩ := hx i (by omega)
    obtain ⟨_, h4, h5⟩ := World.cells?_some h2
    refine ⟨cs, h4, ⟨_, _, h3⟩, fun j u hj => ?_⟩
    have hjl : j < P.cellsOf e := by rw [← h4]; exact (List.getElem?_eq_some_iff.1 hj).1
    have := h5 j hjl
    rw [add_pl, add_pl] at this
    rw [this, hj]

theorem choose_list {α : Type} {p : Nat → α → Prop} : ∀ (n : Nat), (∀ i, i < n → ∃ a, p i a) → ∃ l : List α, l.length = n ∧ ∀ j a, l[j]? = some a → p j a
  | 0, _ => ⟨[], rfl, fun j a h => by simp at h⟩
  | n + 1, h => by
    obtain ⟨l, h1, h2⟩ := choose_list n (fun i hi => h i (Nat.lt_succ_of_lt hi))
    obtain ⟨a, ha⟩ := h n (Nat.lt_succ_self _)
    refine ⟨l ++ [a], by simp [h1], fun j b hj => ?_⟩
    rw [List.getElem?_append] at hj
    split at hj
    · exact h2 j b hj
    · rename_i hlt
      have : j = n := by
        rcases Nat.lt_or_ge (j - l.length) 1 with h' | h'
        · omega
        · rw [List.getElem?_eq_none (by simpa using h')] at hj; cases hj
      subst this
      rw [h1] at hj
      simp at hj
      subst hj
      exact ha

/-- an argument that is a slice takes no more room than the row lets in -/
theorem sized_any {base : Nat} {t e : TypeId} {a : Option Addr} {len cap : Nat} {d : DataW H} {ps : List MemPlace} {ts : List TypeId} {ds : List (DataW H)} {j : Nat}
    (hsz : (DataW.weightsEach P ts ds).all (· ≤ reachBytes) = true) (ht : ts[j]? = some t) (hd : ds[j]? = some d) (hu : P.underlying t = some (.slice e)) {B : Nat} (hB : P.bytesOf e = B)
    {spare : Nat → Bool} {held : Bool} (h : DataW.Trod enc P w base spare held t (.slice a len cap) d ps) : len * B ≤ 140737488351232 := by
  obtain ⟨fuel, hf⟩ := h
  rcases Deep.open_slice hu hf with ⟨h1, _⟩ | ⟨a', len', cap', m, n, D, Pl, h1, _, hl, hm, hmm, hx, _⟩
  · simp [Value.cells] at h1
    obtain ⟨_, rfl, _⟩ := h1
    simp
  · simp [Value.cells] at h1
    obtain ⟨_, rfl, rfl⟩ := h1
    obtain ⟨hx, _⟩ := Prod.mk.inj hx
    subst hx
    have z := sized_slice hsz ht hd hu
    rw [hB] at z
    simp only [List.length_map, List.length_range] at z
    exact Nat.le_trans (Nat.mul_le_mul_right _ (by omega)) z
end
end Go.Apo
