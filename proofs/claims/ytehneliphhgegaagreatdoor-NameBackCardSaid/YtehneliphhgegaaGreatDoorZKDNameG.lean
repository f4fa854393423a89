/- What the laws on names need of the graph that is made; the chapter's example, in plain words. -/
import Derived.Test.YtehneliphhgegaaGreatDoorZKDNameV
import Derived.Test.YtehneliphhgegaaGreatDoorBase
import Derived.Test.YtehneliphhgegaaGreatDoorDDec
import Derived.Test.YtehneliphhgegaaGreatDoorDFmt
import Derived.Test.YtehneliphhgegaaGreatDoorDRead
import Derived.Test.YtehneliphhgegaaGreatDoorRows2
import Derived.Test.YtehneliphhgegaaGreatDoorZGGraphAll
import Derived.Test.YtehneliphhgegaaGreatDoorZGMadeAll
import Derived.Test.YtehneliphhgegaaGreatDoorZGRefGraphAll
import Derived.Test.YtehneliphhgegaaGreatDoorZGRest
set_option linter.unusedVariables false
set_option linter.unusedSimpArgs false
set_option maxRecDepth 100000
namespace Go.Proofs.YtehneliphhgegaaGreatDoor
open Go.RowKit Go.Apo

theorem Sync.falls {L : List (Int × CommitD)} {R : List CommitD} (h : Sync L R) (hw : numsIn (mkeys L)) : Falls L := fun i c hc => ⟨(h.two i c hc).1, fun p hp => by
  obtain ⟨_, hlt, d, hd, _⟩ := h.pars i c hc p hp
  have h1 : (Lit.int .u64 p).wf = true := hw p (mem_keys.1 (by rw [hd]; rfl))
  have := (u64_wf h1)
  unfold u64ok at this
  omega⟩
theorem made_nz (l : List CommitD) : ∀ k ∈ mkeys (madeL l), k ≠ 0 := by
  have : ∀ (l : List CommitD) (L : List (Int × CommitD)), (∀ k ∈ mkeys L, k ≠ 0) → ∀ k ∈ mkeys (l.foldl addL L), k ≠ 0 := by
    intro l
    induction l with
    | nil => intro L h; exact h
    | cons c l ih =>
      intro L h
      refine ih (addL L c) fun k hk => ?_
      unfold addL at hk
      split at hk
      · rename_i he
        rcases mem_keys_mput.1 hk with rfl | hk
        · intro h0
          unfold addE at he
          split at he
          · rename_i hr
            unfold rightE at hr
            rw [if_pos h0] at hr
            omega
          · rename_i hr
            exact hr he
        · exact h k hk
      · exact h k hk
  exact this l [] (fun k hk => by simp [mkeys] at hk)
/-- the graphs that few commits made -/
structure GraphN (l : List CommitD) : Prop where
  sync : Sync (madeL l) (madeR l)
  falls : Falls (madeL l)
  nz : mget (madeL l) 0 = none
  rlen : (madeR l).length ≤ 25
  line : ∀ i, (lineL (madeL l) i).length ≤ 25
theorem graphN {w : World} {A : Option Addr} {n : Nat} {l : List CommitD} (h : CIn w A n l) (hf : few l = true) : GraphN l := by
  have hn : l.length ≤ 25 := by
    unfold few at hf
    rw [Bool.and_eq_true, decide_eq_true_iff] at hf
    exact hf.2
  have hsy := made_sync l
  have hln := made_len l
  have hfl := hsy.falls h.nums
  refine ⟨hsy, hfl, ?_, by rw [hsy.len]; omega, fun i => by have := hsy.lineLen hfl i; omega⟩
  cases hq : mget (madeL l) 0 with
  | none => rfl
  | some c => exact absurd rfl (made_nz l 0 (mem_keys.1 (by rw [hq]; rfl)))

def ex33 : List CommitD := [⟨1, [], 1, 0, ⟨#[]⟩⟩, ⟨2, [1], 2, 0, ⟨#[]⟩⟩, ⟨3, [2], 3, 0, ⟨#[]⟩⟩]
def mainB : ByteArray := ⟨#[109, 97, 105, 110]⟩
def exR33 : List RefD := [⟨mainB, false, 3⟩]
theorem ex33_few : few ex33 = true := by decide +kernel
theorem ex33_made : madeL ex33 = [(1, ⟨1, [], 1, 0, ⟨#[]⟩⟩), (2, ⟨2, [1], 2, 0, ⟨#[]⟩⟩), (3, ⟨3, [2], 3, 0, ⟨#[]⟩⟩)] := by
  have h1 : addE [] ⟨1, [], 1, 0, ⟨#[]⟩⟩ = 0 := by decide +kernel
  have e1 : addL [] ⟨1, [], 1, 0, ⟨#[]⟩⟩ = [(1, ⟨1, [], 1, 0, ⟨#[]⟩⟩)] := by unfold addL; rw [if_pos h1]; rfl
  have h2 : addE [(1, ⟨1, [], 1, 0, ⟨#[]⟩⟩)] ⟨2, [1], 2, 0, ⟨#[]⟩⟩ = 0 := by decide +kernel
  have e2 : addL [(1, ⟨1, [], 1, 0, ⟨#[]⟩⟩)] ⟨2, [1], 2, 0, ⟨#[]⟩⟩ = [(1, ⟨1, [], 1, 0, ⟨#[]⟩⟩), (2, ⟨2, [1], 2, 0, ⟨#[]⟩⟩)] := by unfold addL; rw [if_pos h2]; rfl
  have h3 : addE [(1, ⟨1, [], 1, 0, ⟨#[]⟩⟩), (2, ⟨2, [1], 2, 0, ⟨#[]⟩⟩)] ⟨3, [2], 3, 0, ⟨#[]⟩⟩ = 0 := by decide +kernel
  have e3 : addL [(1, ⟨1, [], 1, 0, ⟨#[]⟩⟩), (2, ⟨2, [1], 2, 0, ⟨#[]⟩⟩)] ⟨3, [2], 3, 0, ⟨#[]⟩⟩ = [(1, ⟨1, [], 1, 0, ⟨#[]⟩⟩), (2, ⟨2, [1], 2, 0, ⟨#[]⟩⟩), (3, ⟨3, [2], 3, 0, ⟨#[]⟩⟩)] := by unfold addL; rw [if_pos h3]; rfl
  unfold madeL ex33
  simp only [List.foldl_cons, List.foldl_nil, e1, e2, e3]
theorem ex33_line : lineL (madeL ex33) 3 = [3, 2, 1] := by
  rw [ex33_made]
  rw [lineL_on (i := 3) (p := 2) (c := ⟨3, [2], 3, 0, ⟨#[]⟩⟩) (ps := []) (by rfl) rfl (by decide), lineL_on (i := 2) (p := 1) (c := ⟨2, [1], 2, 0, ⟨#[]⟩⟩) (ps := []) (by rfl) rfl (by decide), lineL_end (i := 1) (c := ⟨1, [], 1, 0, ⟨#[]⟩⟩) (by rfl) rfl]
theorem ex33_of : ofV (madeL ex33) exR33 1 = ⟨#[109, 97, 105, 110, 126, 50]⟩ := by
  have hw : wayOf (madeL ex33) exR33 1 0 ⟨mainB, false, 3⟩ = some (mainB, 2) := by
    unfold wayOf
    rw [if_pos ⟨by decide +kernel, by decide +kernel⟩]
    show wayLine mainB (idxN (lineL (madeL ex33) 3) 1) = _
    rw [ex33_line]
    rfl
  have h1 : waysL (madeL ex33) exR33 1 1 = [(mainB, 2)] := by
    have := ways_snoc (madeL ex33) exR33 1 0 (r := ⟨mainB, false, 3⟩) rfl
    rw [this, hw]
    rfl
  unfold ofV
  show textW _ (bestW (waysL (madeL ex33) exR33 1 1)) = _
  rw [h1]
  show mainB ++ ⟨#[126]⟩ ++ dec 2 = _
  rw [dec_small (by omega)]
  rfl
theorem ex33_in (w : World) : CIn (((w.alloc (.cells #[.int .u64 1] 34)).alloc (.cells #[.int .u64 2] 34)).alloc (.cells #[.int .u64 1, .slice none 0 0, .int .u64 1, .int .u64 0, .string ⟨#[]⟩, .int .u64 2, .slice (some ⟨w.heap.size, 0, none⟩) 1 1, .int .u64 2, .int .u64 0, .string ⟨#[]⟩, .int .u64 3, .slice (some ⟨w.heap.size + 1, 0, none⟩) 1 1, .int .u64 3, .int .u64 0, .string ⟨#[]⟩] 41)) (some ⟨w.heap.size + 2, 0, none⟩) 3 ex33 := by
  have hz1 : (w.alloc (.cells #[.int .u64 1] 34)).heap.size = w.heap.size + 1 := by simp
  have hz2 : ((w.alloc (.cells #[.int .u64 1] 34)).alloc (.cells #[.int .u64 2] 34)).heap.size = w.heap.size + 2 := by simp
  obtain ⟨CS, hCS⟩ : ∃ CS : Array Value, CS = #[.int .u64 1, .slice none 0 0, .int .u64 1, .int .u64 0, .string ⟨#[]⟩, .int .u64 2, .slice (some ⟨w.heap.size, 0, none⟩) 1 1, .int .u64 2, .int .u64 0, .string ⟨#[]⟩, .int .u64 3, .slice (some ⟨w.heap.size + 1, 0, none⟩) 1 1, .int .u64 3, .int .u64 0, .string ⟨#[]⟩] := ⟨_, rfl⟩
  rw [← hCS]
  have hf1 := ((flat_one w 1).below (bel_al0 (Below.refl _ _) (.cells #[.int .u64 2] 34))).below (bel_al0 (Below.refl _ _) (.cells CS 41))
  have hf2 := (flat_one (w.alloc (.cells #[.int .u64 1] 34)) 2).below (bel_al0 (Below.refl _ _) (.cells CS 41))
  rw [hz1] at hf2
  refine ⟨rfl, ⟨CS.toList, by rw [hCS]; exact ⟨⟨none, 0, rfl, Flat.nil _ _, fun _ => rfl⟩, ⟨some ⟨w.heap.size, 0, none⟩, 1, rfl, by rw [← hCS]; exact hf1, (fun e => by cases e)⟩, ⟨some ⟨w.heap.size + 1, 0, none⟩, 1, rfl, by rw [← hCS]; exact hf2, (fun e => by cases e)⟩, trivial⟩, fun _ => ⟨w.heap.size + 2, 0, rfl, fun j u hj => ?_⟩⟩, by omega, ?_⟩
  · have := cell_at_new ((w.alloc (.cells #[.int .u64 1] 34)).alloc (.cells #[.int .u64 2] 34)) CS 41 j (v := u) (by rw [← Array.getElem?_toList]; exact hj)
    rw [Nat.zero_add]
    rw [hz2] at this
    exact this
  · intro c hc
    simp only [ex33, List.mem_cons, List.not_mem_nil, or_false] at hc
    rcases hc with rfl | rfl | rfl <;> simp [u64ok]
theorem exR33_in (w : World) : RefRow (w.alloc (.cells #[.string mainB, .bool false, .int .u64 3] 48)) (some ⟨w.heap.size, 0, none⟩) 1 exR33 := by
  refine ⟨rfl, by omega, fun _ => ⟨w.heap.size, 0, rfl, fun j r hj => ?_⟩⟩
  have hj0 : j = 0 := by
    have := (List.getElem?_eq_some_iff.1 hj).1
    simp [exR33] at this
    omega
  subst hj0
  have hr : r = ⟨mainB, false, 3⟩ := by simpa [exR33] using hj.symm
  subst hr
  exact ⟨cell_at_new w _ _ 0 rfl, cell_at_new w _ _ 1 rfl, cell_at_new w _ _ 2 rfl⟩
end Go.Proofs.YtehneliphhgegaaGreatDoor
