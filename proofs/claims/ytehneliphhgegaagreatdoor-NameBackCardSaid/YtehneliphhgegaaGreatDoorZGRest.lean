/- What layer 33 needs of the graph texts, with this seat's numbers: printed by prune.py and merge.py out of QueueAll .. RefLine. -/
import Derived.Test.YtehneliphhgegaaGreatDoorRows2
import Derived.Test.YtehneliphhgegaaGreatDoorBase
import Derived.Test.YtehneliphhgegaaGreatDoorDFmt
import Derived.Test.YtehneliphhgegaaGreatDoorDRead
import Derived.Test.YtehneliphhgegaaGreatDoorZGGraphAll
import Derived.Test.YtehneliphhgegaaGreatDoorZGRefGraphAll
import Derived.Test.YtehneliphhgegaaGreatDoorZGMadeAll
import Derived.ArgAppend
import Derived.Laws.IdiomCopy
import Derived.RangeFuncNested
import Derived.RangeFuncBound
import Derived.RangeFuncBox
import Derived.RangeFuncLeaves
import Derived.Shelf.Abstract
import Derived.Deep.LoopGhost
import Derived.Lib.SlKept
import Derived.Lib.SliceRun
import Derived.Deep.Draws
import Derived.Lib.SlicesSearch
import Derived.ProofKit
import Derived.OpenShut
import Derived.ShutString
import Derived.ChangeOld
import Derived.SizedLaws
import Derived.Deep.Slices
section
section
set_option linter.unusedVariables false
set_option linter.unusedSimpArgs false
namespace Go.Apo
open Go.RowKit

/-- a slice in block g, from its cell off on -/
structure Que (w : World) (base : Nat) (e : TypeId) (g off n cap : Nat) (xs : List Value) : Prop where
  base : base ≤ g
  len : xs.length = n
  le : n ≤ cap
  max : cap ≤ maxLen
  blk : ∃ cur, w.heap[g]? = some (.cells cur e) ∧ off + cap ≤ cur.size ∧ ∀ j u, xs[j]? = some u → cur[off + j]? = some u

section
variable {w w' : World} {base : Nat} {e : TypeId} {g off n cap : Nat} {xs : List Value}
theorem Que.lt (h : Que w base e g off n cap xs) : g < w.heap.size := by
  obtain ⟨cur, h1, _⟩ := h.blk
  exact (Array.getElem?_eq_some_iff.1 h1).1
theorem Que.keep (h : Que w base e g off n cap xs) (hb : w'.heap[g]? = w.heap[g]?) : Que w' base e g off n cap xs := by
  obtain ⟨cur, h1, h2⟩ := h.blk
  exact ⟨h.base, h.len, h.le, h.max, cur, hb.trans h1, h2⟩
theorem Que.below (h : Que w base e g off n cap xs) (hb : Below w.heap.size w w') : Que w' base e g off n cap xs := h.keep (hb.block _ h.lt)
theorem Que.cell (h : Que w base e g off n cap xs) {j : Nat} {u : Value} (hj : xs[j]? = some u) : w.cell? ⟨g, off + j, none⟩ = some u := by
  obtain ⟨cur, h1, _, h3⟩ := h.blk
  unfold World.cell?; rw [h1]; exact h3 j u hj
theorem Que.mono {base' : Nat} (h : Que w base e g off n cap xs) (hb : base' ≤ base) : Que w base' e g off n cap xs := ⟨Nat.le_trans hb h.base, h.len, h.le, h.max, h.blk⟩

end

section
variable {P : Program} {w : World} {ops : Array Oper} {rest : List Oper} {o : Oper} {a : Act} {Q : Exit → Act → World → Prop}
end
end Go.Apo
end
section
set_option linter.unusedVariables false
set_option linter.unusedSimpArgs false
namespace Go.Apo
open Go.RowKit

section
variable {w w' : World} {base : Nat} {e : TypeId} {g off n cap : Nat} {xs : List Value}
end

section
variable {P : Program} {w : World} {ops : Array Oper} {rest : List Oper} {o : Oper} {a : Act} {Q : Exit → Act → World → Prop}
end

section
variable {κ ν : Type} [DecidableEq κ] {P : Program} {kt : TypeId} {ek : κ → Value} {R : World → ν → Value → Prop} {w : World} {m : Nat} {L : List (κ × ν)}
variable {ops : Array Oper} {rest : List Oper} {o : Oper} {a : Act} {Q : Exit → Act → World → Prop}
end
end Go.Apo
end
end
section
set_option linter.unusedVariables false
set_option linter.unusedSimpArgs false
namespace Go.Apo
open Go.RowKit

/-- the blocks from B on, below G, lie as they lay -/
structure KeepsSpan (B G : Nat) (W W' : World) : Prop where
  size : W.heap.size ≤ W'.heap.size
  same : ∀ (k : Nat), B ≤ k → k < G → W'.heap[k]? = W.heap[k]?
theorem KeepsSpan.refl (B G : Nat) (W : World) : KeepsSpan B G W W := ⟨Nat.le_refl _, fun _ _ _ => rfl⟩
theorem KeepsSpan.trans {B G : Nat} {X Y Z : World} (h : KeepsSpan B G X Y) (k : KeepsSpan B G Y Z) : KeepsSpan B G X Z := ⟨Nat.le_trans h.size k.size, fun i h1 h2 => (k.same i h1 h2).trans (h.same i h1 h2)⟩
variable {F : Fence} {n : Nat} {P : Program}

end Go.Apo
end
section
set_option linter.unusedVariables false
set_option linter.unusedSimpArgs false
set_option maxRecDepth 100000
namespace Go.Proofs.YtehneliphhgegaaGreatDoor
open Go.RowKit Go.Apo

section
variable {ν : Type} {R : World → ν → Value → Prop} {w : World} {m : Nat} {L : List (Int × ν)}
end

section
variable {ν : Type} {R : World → ν → Value → Prop} {w : World} {m : Nat} {L : List (Int × ν)}
def numsIn (l : List Int) : Prop := ∀ k ∈ l, (Lit.int .u64 k).wf = true
end
end Go.Proofs.YtehneliphhgegaaGreatDoor
end
section
set_option linter.unusedVariables false
set_option linter.unusedSimpArgs false
set_option maxRecDepth 100000
namespace Go.Proofs.YtehneliphhgegaaGreatDoor
open Go.RowKit Go.Apo Go.Shelf
attribute [local go_sem] Oper.semAt_some

/-- what a slice of numbers that one made holds -/
def NumsOwn (w : World) (l : List Int) (e : Ending) (w' : World) : Prop :=
  ∃ v, e = .returned v ∧ w'.ownsRow w.heap.size 34 1 v l.length (nums l) ∧ Below w.heap.size w w'
end Go.Proofs.YtehneliphhgegaaGreatDoor
end
section
set_option linter.unusedVariables false
set_option linter.unusedSimpArgs false
set_option maxRecDepth 100000
namespace Go.Proofs.YtehneliphhgegaaGreatDoor
open Go.RowKit Go.Apo

structure LOk (L : List (Int × CommitD)) : Prop where
  ids : ∀ i c, mget L i = some c → c.id = i
  two : ∀ i c, mget L i = some c → c.par.length ≤ 2
structure SOk (L : List (Int × CommitD)) (S : List (Int × Unit)) : Prop where
  sub : ∀ k ∈ mkeys S, (mget L k).isSome
  nodup : (mkeys S).Nodup
theorem nodup_le2 : ∀ {a b : List Int}, a.Nodup → (∀ x ∈ a, x ∈ b) → a.length ≤ b.length
  | [], _, _, _ => Nat.zero_le _
  | x :: a, b, hn, hs => by
    have hx : x ∈ b := hs x List.mem_cons_self
    have h2 := List.nodup_cons.1 hn
    have := nodup_le2 (a := a) (b := b.erase x) h2.2 (fun y hy => by
      have hne : y ≠ x := fun e => h2.1 (e ▸ hy)
      exact (List.mem_erase_of_ne hne).2 (hs y (List.mem_cons_of_mem _ hy)))
    have hl := List.length_erase_of_mem hx
    have : 0 < b.length := List.length_pos_of_mem hx
    simp only [List.length_cons]
    omega
theorem mem_keys {ν : Type} {L : List (Int × ν)} {k : Int} : (mget L k).isSome = true ↔ k ∈ mkeys L := by
  constructor
  · intro h
    refine Classical.byContradiction fun hn => ?_
    rw [mget_none.2 hn] at h; cases h
  · intro h
    cases hq : mget L k with
    | none => exact absurd h (mget_none.1 hq)
    | some _ => rfl
theorem SOk.le {L : List (Int × CommitD)} {S : List (Int × Unit)} (h : SOk L S) : S.length ≤ L.length := by
  have := nodup_le2 (b := mkeys L) h.nodup (fun k hk => mem_keys.1 (h.sub k hk))
  simpa [mkeys] using this
/-- a queue: empty, or a slice of one's own -/
def QV (w : World) (base : Nat) (A : Option Addr) (n cap : Nat) (l : List Int) : Prop := n = 0 ∨ ∃ g off, A = some ⟨g, off, none⟩ ∧ Que w base 34 g off n cap (nums l)
theorem QV.below {w w' : World} {base : Nat} {A : Option Addr} {n cap : Nat} {l : List Int} (h : QV w base A n cap l) (hb : Below w.heap.size w w') : QV w' base A n cap l := by
  rcases h with h | ⟨g, off, h1, h2⟩
  · exact Or.inl h
  · exact Or.inr ⟨g, off, h1, h2.below hb⟩

end Go.Proofs.YtehneliphhgegaaGreatDoor
end
section
set_option linter.unusedVariables false
set_option linter.unusedSimpArgs false
namespace Go.Proofs.YtehneliphhgegaaGreatDoor
open Go.RowKit Go.Apo

/-- x is i, or an ancestor of i, in the graph -/
inductive Anc (L : List (Int × CommitD)) (x : Int) : Int → Prop
  | self : (mget L x).isSome = true → Anc L x x
  | up {i p : Int} {c : CommitD} : mget L i = some c → p ∈ c.par → Anc L x p → Anc L x i

theorem Anc.of {L : List (Int × CommitD)} {x i : Int} (h : Anc L x i) : (mget L x).isSome = true := by
  induction h with
  | self h => exact h
  | up _ _ _ ih => exact ih
theorem Anc.trans {L : List (Int × CommitD)} {x y i : Int} (h : Anc L x y) (k : Anc L y i) : Anc L x i := by
  induction k with
  | self _ => exact h
  | up h1 h2 _ ih => exact .up h1 h2 ih

end Go.Proofs.YtehneliphhgegaaGreatDoor
end
section
section
set_option linter.unusedVariables false
set_option linter.unusedSimpArgs false
set_option maxRecDepth 100000
namespace Go.Proofs.YtehneliphhgegaaGreatDoor
open Go.RowKit Go.Apo

theorem flat_one (w : World) (x : Int) : Flat (w.alloc (.cells #[.int .u64 x] 34)) (some ⟨w.heap.size, 0, none⟩) (nums [x]) := fun _ => ⟨w.heap.size, 0, rfl, fun j u hj => by
  cases j with
  | zero => simp [nums] at hj; subst hj; exact cell_at_new w _ _ 0 rfl
  | succ j => simp [nums] at hj⟩
end Go.Proofs.YtehneliphhgegaaGreatDoor
end
section
set_option linter.unusedVariables false
set_option linter.unusedSimpArgs false
set_option maxRecDepth 100000
namespace Go.Proofs.YtehneliphhgegaaGreatDoor
open Go.RowKit Go.Apo

theorem grown_bel {B : Nat} {w W W' : World} {row : Option Nat} (h : Below B w W) (hB : B ≤ w.heap.size) (hg : W.grownBy W' row) (hr : ∀ k, row = some k → B ≤ k) : Below B w W' :=
  h.grown hg (Nat.le_trans hB h.size) hr
theorem own_row_ge {w : World} {base e size n : Nat} {v : Value} {xs : List Value} (h : w.ownsRow base e size v n xs) : ∀ k, v.ownBlock = some k → base ≤ k := fun k hk => (h.lt k hk).1

end Go.Proofs.YtehneliphhgegaaGreatDoor
end
section
set_option linter.unusedVariables false
set_option linter.unusedSimpArgs false
set_option maxRecDepth 100000
namespace Go.Proofs.YtehneliphhgegaaGreatDoor
open Go.RowKit Go.Apo

end Go.Proofs.YtehneliphhgegaaGreatDoor
end
end
section
set_option linter.unusedVariables false
set_option linter.unusedSimpArgs false
set_option maxRecDepth 100000
namespace Go.Proofs.YtehneliphhgegaaGreatDoor
open Go.RowKit Go.Apo

def rPar (R : List CommitD) (i : Int) : List Int := ((rFind R i).getD CommitD.zero).par
/-- no more numbers than commits -/
def Gd (R : List CommitD) (l : List Int) : Prop := l.Nodup ∧ ∀ x ∈ l, x ∈ R.map CommitD.id
theorem nodup_le' : ∀ {a b : List Int}, a.Nodup → (∀ x ∈ a, x ∈ b) → a.length ≤ b.length
  | [], _, _, _ => Nat.zero_le _
  | x :: a, b, hn, hs => by
    have hx : x ∈ b := hs x List.mem_cons_self
    have h2 := List.nodup_cons.1 hn
    have := nodup_le' (a := a) (b := b.erase x) h2.2 (fun y hy => by
      have hne : y ≠ x := fun e => h2.1 (e ▸ hy)
      exact (List.mem_erase_of_ne hne).2 (hs y (List.mem_cons_of_mem _ hy)))
    have hl := List.length_erase_of_mem hx
    have : 0 < b.length := List.length_pos_of_mem hx
    simp only [List.length_cons]
    omega
theorem Gd.le {R : List CommitD} {l : List Int} (h : Gd R l) : l.length ≤ R.length := by
  have := nodup_le' h.1 h.2
  simpa using this
theorem Gd.nil (R : List CommitD) : Gd R [] := ⟨List.nodup_nil, fun x hx => by cases hx⟩
end Go.Proofs.YtehneliphhgegaaGreatDoor
end
section
set_option linter.unusedVariables false
set_option linter.unusedSimpArgs false
set_option maxRecDepth 100000
namespace Go.Proofs.YtehneliphhgegaaGreatDoor
open Go.RowKit Go.Apo

theorem made_keys (l : List CommitD) : ∀ k ∈ mkeys (madeL l), ∃ c ∈ l, c.id = k := by
  have : ∀ (l : List CommitD) (L : List (Int × CommitD)), ∀ k ∈ mkeys (l.foldl addL L), k ∈ mkeys L ∨ ∃ c ∈ l, c.id = k := by
    intro l
    induction l with
    | nil => intro L k hk; exact Or.inl hk
    | cons c l ih =>
      intro L k hk
      rcases ih (addL L c) k hk with h | ⟨d, hd, e⟩
      · unfold addL at h
        split at h
        · rcases mem_keys_mput.1 h with rfl | h
          · exact Or.inr ⟨c, List.mem_cons_self, rfl⟩
          · exact Or.inl h
        · exact Or.inl h
      · exact Or.inr ⟨d, List.mem_cons_of_mem _ hd, e⟩
  intro k hk
  rcases this l [] k hk with h | h
  · simp [mkeys] at h
  · exact h
theorem u64_wf_of {x : Int} (h : u64ok x) : (Lit.int .u64 x).wf = true := by
  unfold u64ok at h
  have h1 : IntKind.u64.min = 0 := by decide +kernel
  have h2 : IntKind.u64.max = 18446744073709551615 := by decide +kernel
  simp [Lit.wf, h1, h2]
  omega
theorem CIn.nums {w : World} {A : Option Addr} {n : Nat} {l : List CommitD} (h : CIn w A n l) : numsIn (mkeys (madeL l)) := fun k hk => by
  obtain ⟨c, hc, rfl⟩ := made_keys l k hk
  exact u64_wf_of (h.wf c hc).1

end Go.Proofs.YtehneliphhgegaaGreatDoor
end
section
section
set_option linter.unusedVariables false
set_option linter.unusedSimpArgs false
set_option maxRecDepth 100000
namespace Go.Proofs.YtehneliphhgegaaGreatDoor
open Go.RowKit Go.Apo

structure RefD where
  name : ByteArray
  tag : Bool
  id : Int
def RefD.zero : RefD := ⟨⟨#[]⟩, false, 0⟩
def refIs (_ : World) (r : RefD) (v : Value) : Prop := v = .agg #[.string r.name, .bool r.tag, .int .u64 r.id]

/-- a table behind a pointer -/
def TableAt (w : World) (p : Nat) (m : Nat) (L : List (ByteArray × RefD)) : Prop := w.cell? ⟨p, 0, none⟩ = some (.map (some m)) ∧ MapIs Value.string refIs w m L

theorem refs_onCells : OnCells refIs := onCells_plain _

theorem TableAt.below {w w' : World} {p m : Nat} {L : List (ByteArray × RefD)} (h : TableAt w p m L) (hb : Below w.heap.size w w') : TableAt w' p m L :=
  ⟨cell_bel h.1 hb, h.2.below refs_onCells hb⟩

end Go.Proofs.YtehneliphhgegaaGreatDoor
end
section
set_option linter.unusedVariables false
set_option linter.unusedSimpArgs false
set_option maxRecDepth 100000
namespace Go.Proofs.YtehneliphhgegaaGreatDoor
open Go.RowKit Go.Apo

end Go.Proofs.YtehneliphhgegaaGreatDoor
end
section
set_option linter.unusedVariables false
set_option linter.unusedSimpArgs false
set_option maxRecDepth 100000
namespace Go.Proofs.YtehneliphhgegaaGreatDoor
open Go.RowKit Go.Apo

end Go.Proofs.YtehneliphhgegaaGreatDoor
end
section
set_option linter.unusedVariables false
set_option linter.unusedSimpArgs false
set_option maxRecDepth 100000
namespace Go.Proofs.YtehneliphhgegaaGreatDoor
open Go.RowKit Go.Apo

/-- a slice of refs that is read -/
structure RefRow (w : World) (A : Option Addr) (n : Nat) (l : List RefD) : Prop where
  len : l.length = n
  le : n * 24 ≤ 140737488351232
  at_ : 0 < n → ∃ b off, A = some ⟨b, off, none⟩ ∧ ∀ j r, l[j]? = some r → w.cell? ⟨b, off + j * 3, none⟩ = some (.string r.name) ∧ w.cell? ⟨b, off + j * 3 + 1, none⟩ = some (.bool r.tag) ∧ w.cell? ⟨b, off + j * 3 + 2, none⟩ = some (.int .u64 r.id)

end Go.Proofs.YtehneliphhgegaaGreatDoor
end
section
set_option linter.unusedVariables false
set_option linter.unusedSimpArgs false
set_option maxRecDepth 100000
namespace Go.Proofs.YtehneliphhgegaaGreatDoor
open Go.RowKit Go.Apo

def fewB (l : List RefD) : Bool := l.all (fun r => decide (r.name.size ≤ 40)) && decide (l.length ≤ 45)

theorem few16_calls (w : World) (A : Option Addr) (n c : Nat) (l : List RefD) (h : RefRow w A n l) :
    Calls Tryz.prog 7 #[.slice A n c] w fun e w' => e = .returned (.bool (fewB l)) ∧ Below w.heap.size w w' := by
  have hn := h.le
  go_enter Tryz.func7, Tryz.ntmps7
  go_wp2
  go_loopw [7, 4] (fun i _ wr => ∃ k : Nat, k ≤ n ∧ i = .int .i64 k ∧ Hid (∀ j r, j < k → l[j]? = some r → r.name.size ≤ 40) ∧ Below w.heap.size w wr) (fun i _ _ => n - (intOf i).toNat)
  case atStart => exact ⟨0, Nat.zero_le _, rfl, fun j _ hj => absurd hj (Nat.not_lt_zero _), by (repeat (first | (with_reducible exact Below.refl _ _) | (with_reducible assumption) | (with_reducible refine bel_al0 ?_ _) | (with_reducible refine bel_set ?_ (by first | (simp; done) | (simp; omega)) _) | (with_reducible refine bel_dr ?_) | (with_reducible refine bel_drn ?_ _) | (with_reducible refine bel_tr ?_ (by assumption))))⟩
  case round =>
    obtain ⟨k, hk, rfl, hok, hB⟩ := hrel
    by_cases hlt : k < n
    · obtain ⟨b, off, rfl, hcell⟩ := h.at_ (by omega)
      have hlk : l[k]? = some (l[k]'(by rw [h.len]; exact hlt)) := List.getElem?_eq_getElem _
      obtain ⟨r, hr⟩ : ∃ r, r = l[k]'(by rw [h.len]; exact hlt) := ⟨_, rfl⟩
      rw [← hr] at hlk
      obtain ⟨c0, c1, c2⟩ := hcell k r hlk
      replace c0 := cell_bel c0 hB
      replace c1 := cell_bel c1 hB
      replace c2 := cell_bel c2 hB
      have HL := Lib.hid hlk; clear hlk hr
      clear hcell
      by_cases h40 : r.name.size ≤ 40
      · have g1 : decide ((40 : Int) < r.name.size) = false := by simp; omega
        go_wp2
        go_roundw
        case rel =>
          refine ⟨k + 1, by omega, by go_num, fun j r' hj hj' => ?_, by (repeat (first | (with_reducible exact Below.refl _ _) | (with_reducible assumption) | (with_reducible refine bel_al0 ?_ _) | (with_reducible refine bel_set ?_ (by first | (simp; done) | (simp; omega)) _) | (with_reducible refine bel_dr ?_) | (with_reducible refine bel_drn ?_ _) | (with_reducible refine bel_tr ?_ (by assumption))))⟩
          rcases Nat.lt_or_ge j k with h' | h'
          · exact hok j r' h' hj'
          · obtain rfl : j = k := by omega
            rw [HL.out] at hj'; cases hj'; exact h40
        case measure => simp [intOf]; omega
      · have g1 : decide ((40 : Int) < r.name.size) = true := by simp; omega
        have hf : fewB l = false := by
          unfold fewB
          have : l.all (fun r => decide (r.name.size ≤ 40)) = false := by
            rw [List.all_eq_false]
            exact ⟨r, List.mem_of_getElem? HL.out, by simpa using h40⟩
          simp [this]
        have HF := Lib.hid hf; clear hf
        go_wp2
        go_ret
        exact ⟨by rw [HF.out]; rfl, by (repeat (first | (with_reducible exact Below.refl _ _) | (with_reducible assumption) | (with_reducible refine bel_al0 ?_ _) | (with_reducible refine bel_set ?_ (by first | (simp; done) | (simp; omega)) _) | (with_reducible refine bel_dr ?_) | (with_reducible refine bel_drn ?_ _) | (with_reducible refine bel_tr ?_ (by assumption))))⟩
    · have hf : fewB l = decide (l.length ≤ 45) := by
        unfold fewB
        have : l.all (fun r => decide (r.name.size ≤ 40)) = true := by
          rw [List.all_eq_true]
          intro r hr
          obtain ⟨j, hj⟩ := List.mem_iff_getElem?.1 hr
          have := (List.getElem?_eq_some_iff.1 hj).1
          have := h.len
          simpa using hok j r (by omega) hj
        simp [this]
      have hl := h.len
      have hf' : fewB l = decide ((n : Int) ≤ 45) := by rw [hf, hl]; simp; omega
      have HF := Lib.hid hf'; clear hf' hf hl
      go_wp2
      go_ret
      exact ⟨by rw [HF.out]; rfl, hB⟩

end Go.Proofs.YtehneliphhgegaaGreatDoor
end
section
set_option linter.unusedVariables false
set_option linter.unusedSimpArgs false
set_option maxRecDepth 100000
namespace Go.Proofs.YtehneliphhgegaaGreatDoor
open Go.RowKit Go.Apo

theorem RefRow.below {w w' : World} {A : Option Addr} {n : Nat} {l : List RefD} (h : RefRow w A n l) (hb : Below w.heap.size w w') : RefRow w' A n l :=
  ⟨h.len, h.le, fun h0 => by
    obtain ⟨b, off, e, hc⟩ := h.at_ h0
    exact ⟨b, off, e, fun j r hj => by
      obtain ⟨c0, c1, c2⟩ := hc j r hj
      exact ⟨cell_bel c0 hb, cell_bel c1 hb, cell_bel c2 hb⟩⟩⟩
end Go.Proofs.YtehneliphhgegaaGreatDoor
end
end
section
set_option linter.unusedVariables false
set_option linter.unusedSimpArgs false
set_option maxRecDepth 100000
namespace Go.Proofs.YtehneliphhgegaaGreatDoor
open Go.RowKit Go.Apo Go.Shelf
attribute [local go_sem] Oper.semAt_some

theorem TableAt.blocks {w w' : World} {p m : Nat} {L : List (ByteArray × RefD)} (h : TableAt w p m L) (h1 : w'.heap[p]? = w.heap[p]?) (h2 : w'.heap[m]? = w.heap[m]?) : TableAt w' p m L := by
  refine ⟨(World.cell?_of_block (w := w) (a := ⟨p, 0, none⟩) h1).trans h.1, ?_⟩
  obtain ⟨es, c, e1, hs, he⟩ := h.2.ex
  exact ⟨es, c, h2.trans e1, hs, he⟩
end Go.Proofs.YtehneliphhgegaaGreatDoor
end
section
set_option linter.unusedVariables false
set_option linter.unusedSimpArgs false
set_option maxRecDepth 100000
namespace Go.Proofs.YtehneliphhgegaaGreatDoor
open Go.RowKit Go.Apo

/-- parents are in the graph -/
def Closed (L : List (Int × CommitD)) : Prop := ∀ i c, mget L i = some c → c.par.length ≤ 2 ∧ ∀ q ∈ c.par, (mget L q).isSome
end Go.Proofs.YtehneliphhgegaaGreatDoor
end
section
section
set_option linter.unusedVariables false
set_option linter.unusedSimpArgs false
set_option maxRecDepth 100000
namespace Go.Proofs.YtehneliphhgegaaGreatDoor
open Go.RowKit Go.Apo Go.Shelf

/-! DeleteFunc -/
def RowD (w : World) (b cap : Nat) (dk : Array Int) : Prop := ∃ cur, Blk w b cur 34 ∧ cur.size = cap ∧ ∀ j, j < dk.size → cur[j]? = some (.int .u64 dk[j]!)
theorem RowD.cell {w : World} {b cap : Nat} {dk : Array Int} (h : RowD w b cap dk) {j : Nat} (hj : j < dk.size) : w.cell? ⟨b, j, none⟩ = some (.int .u64 dk[j]!) := by
  obtain ⟨cur, h1, h2, h3⟩ := h
  exact h1.cell (h3 j hj)
theorem RowD.below {w w' : World} {b cap : Nat} {dk : Array Int} (h : RowD w b cap dk) (hb : Below w.heap.size w w') : RowD w' b cap dk := by
  obtain ⟨cur, h1, h2, h3⟩ := h
  exact ⟨cur, h1.below hb, h2, h3⟩
theorem RowD.lt {w : World} {b cap : Nat} {dk : Array Int} (h : RowD w b cap dk) : b < w.heap.size := by
  obtain ⟨cur, h1, h2, h3⟩ := h
  exact h1.lt
end Go.Proofs.YtehneliphhgegaaGreatDoor
end
section
set_option linter.unusedVariables false
set_option linter.unusedSimpArgs false
set_option maxRecDepth 100000
namespace Go.Proofs.YtehneliphhgegaaGreatDoor
open Go.RowKit Go.Apo Go.Shelf
attribute [local go_sem] Oper.semAt_some

/-! slices.Index, slices.Contains -/
end Go.Proofs.YtehneliphhgegaaGreatDoor
end
section
set_option linter.unusedVariables false
set_option linter.unusedSimpArgs false
set_option maxRecDepth 100000
namespace Go.Proofs.YtehneliphhgegaaGreatDoor
open Go.RowKit Go.Apo Go.Shelf
attribute [local go_sem] Oper.semAt_some

end Go.Proofs.YtehneliphhgegaaGreatDoor
end
section
set_option linter.unusedVariables false
set_option linter.unusedSimpArgs false
set_option maxRecDepth 100000
namespace Go.Apo
open Go.RowKit
section
variable {P : Program} {kt : TypeId} {κ ν : Type} [DecidableEq κ] {ek : κ → Value} {R : World → ν → Value → Prop} {w : World} {m : Nat} {L : List (κ × ν)}
variable {F : Fence} {nF : Nat} {ops : Array Oper} {rest : List Oper} {o : Oper} {a : Act} {Q : Exit → Act → World → Prop}
end
end Go.Apo
namespace Go.Proofs.YtehneliphhgegaaGreatDoor
open Go.RowKit Go.Apo Go.Shelf
attribute [local go_sem] Oper.semAt_some

end Go.Proofs.YtehneliphhgegaaGreatDoor
end
section
set_option linter.unusedVariables false
set_option linter.unusedSimpArgs false
set_option maxRecDepth 100000
namespace Go.Proofs.YtehneliphhgegaaGreatDoor
open Go.RowKit Go.Apo Go.Shelf

end Go.Proofs.YtehneliphhgegaaGreatDoor
end
end
section
section
set_option linter.unusedVariables false
namespace Go.Apo
section
variable {α : Type} (lt : α → α → Bool)
def IsHeap (n : Nat) (f : Nat → α) : Prop := ∀ k, 0 < k → k < n → lt (f k) (f ((k - 1) / 2)) = false
end
section
variable {α : Type} {lt : α → α → Bool} {f : Nat → α} {n i j : Nat}
theorem IsHeap.zero : IsHeap lt 0 f := fun k k0 kn => by omega
end
end Go.Apo
end
section
set_option linter.unusedVariables false
set_option linter.unusedSimpArgs false
set_option maxRecDepth 100000
namespace Go.Proofs.YtehneliphhgegaaGreatDoor
open Go.RowKit Go.Apo Go.Shelf

structure Ent where
  c : CommitD
  a : Option Addr
  k : Nat
def Ent.vals (e : Ent) : List Value := [.int .u64 e.c.id, .slice e.a e.c.par.length e.k, .int .u64 e.c.gen, .int .u64 e.c.root, .string e.c.text]
def HRow (w : World) (g cap n : Nat) (f : Nat → Ent) : Prop :=
  ∃ cur, Blk w g cur 41 ∧ cur.size = cap * 5 ∧ n ≤ cap ∧ cap ≤ maxLen ∧ ∀ j, j < n → ∀ t u, (f j).vals[t]? = some u → cur[j * 5 + t]? = some u
structure Five (w : World) (g o : Nat) (e : Ent) : Prop where
  c0 : w.cell? ⟨g, o, none⟩ = some (.int .u64 e.c.id)
  c1 : w.cell? ⟨g, o + 1, none⟩ = some (.slice e.a e.c.par.length e.k)
  c2 : w.cell? ⟨g, o + 2, none⟩ = some (.int .u64 e.c.gen)
  c3 : w.cell? ⟨g, o + 3, none⟩ = some (.int .u64 e.c.root)
  c4 : w.cell? ⟨g, o + 4, none⟩ = some (.string e.c.text)
theorem HRow.five {w : World} {g cap n : Nat} {f : Nat → Ent} (h : HRow w g cap n f) {j : Nat} (hj : j < n) : Five w g (j * 5) (f j) := by
  obtain ⟨cur, h1, h2, h3, h4, h5⟩ := h
  exact ⟨h1.cell (h5 j hj 0 _ rfl), h1.cell (h5 j hj 1 _ rfl), h1.cell (h5 j hj 2 _ rfl), h1.cell (h5 j hj 3 _ rfl), h1.cell (h5 j hj 4 _ rfl)⟩
theorem HRow.lt {w : World} {g cap n : Nat} {f : Nat → Ent} (h : HRow w g cap n f) : g < w.heap.size := by
  obtain ⟨cur, h1, _⟩ := h
  exact h1.lt
theorem HRow.below {w w' : World} {g cap n : Nat} {f : Nat → Ent} (h : HRow w g cap n f) (hb : Below w.heap.size w w') : HRow w' g cap n f := by
  obtain ⟨cur, h1, h2⟩ := h
  exact ⟨cur, h1.below hb, h2⟩
/-- a queue: the block of its slice, and the row -/
def HQ (t : TypeId) (w : World) (h g cap n : Nat) (f : Nat → Ent) : Prop := Blk w h #[.slice (some ⟨g, 0, none⟩) n cap] t ∧ HRow w g cap n f ∧ h ≠ g
theorem HQ.below {t : TypeId} {w w' : World} {h g cap n : Nat} {f : Nat → Ent} (q : HQ t w h g cap n f) (hb : Below w.heap.size w w') : HQ t w' h g cap n f := ⟨q.1.below hb, q.2.1.below hb, q.2.2⟩
/-- two blocks alone may have turned -/
structure But2 (h g : Nat) (w w' : World) : Prop where
  os : w'.os = w.os
  tape : w'.tape = w.tape
  output : w'.output = w.output
  size : w.heap.size ≤ w'.heap.size
  block : ∀ k, k < w.heap.size → k ≠ h → k ≠ g → w'.heap[k]? = w.heap[k]?
theorem But2.refl (h g : Nat) (w : World) : But2 h g w w := ⟨rfl, rfl, rfl, Nat.le_refl _, fun _ _ _ _ => rfl⟩
theorem But2.trans {h g : Nat} {a b c : World} (x : But2 h g a b) (y : But2 h g b c) : But2 h g a c :=
  ⟨y.os.trans x.os, y.tape.trans x.tape, y.output.trans x.output, Nat.le_trans x.size y.size, fun k hk h1 h2 => (y.block k (Nat.lt_of_lt_of_le hk x.size) h1 h2).trans (x.block k hk h1 h2)⟩
theorem But2.below {B h g : Nat} {w W W' : World} (x : Below B w W) (hB : B ≤ w.heap.size) (h1 : B ≤ h) (h2 : B ≤ g) (y : But2 h g W W') : Below B w W' :=
  ⟨y.os.trans x.os, y.tape.trans x.tape, y.output.trans x.output, Nat.le_trans x.size y.size, fun k hk => (y.block k (Nat.lt_of_lt_of_le (Nat.lt_of_lt_of_le hk hB) x.size) (by omega) (by omega)).trans (x.block k hk)⟩
theorem HRow.less {w : World} {g cap n : Nat} {f : Nat → Ent} (h : HRow w g cap (n + 1) f) : HRow w g cap n f := by
  obtain ⟨cur, h1, h2, h3, h4, h5⟩ := h
  exact ⟨cur, h1, h2, by omega, h4, fun j hj t u ht => h5 j (by omega) t u ht⟩
end Go.Proofs.YtehneliphhgegaaGreatDoor
end
end
section
section
set_option linter.unusedVariables false
set_option linter.unusedSimpArgs false
set_option maxRecDepth 100000
namespace Go.Proofs.YtehneliphhgegaaGreatDoor
open Go.RowKit Go.Apo Go.Shelf
attribute [local go_sem] Oper.semAt_some

def GP (w : World) (gq : Option Addr) (L : List (Int × CommitD)) : Prop := (∃ p m, gq = some ⟨p, 0, none⟩ ∧ GraphAt w p m L) ∨ (gq = none ∧ L = [])
theorem GP.below {w w' : World} {gq : Option Addr} {L : List (Int × CommitD)} (h : GP w gq L) (hb : Below w.heap.size w w') : GP w' gq L := by
  rcases h with ⟨p, m, rfl, h⟩ | ⟨rfl, rfl⟩
  · exact Or.inl ⟨p, m, rfl, h.below hb⟩
  · exact Or.inr ⟨rfl, rfl⟩
theorem GP.nil (w : World) : GP w none [] := Or.inr ⟨rfl, rfl⟩
theorem gget_nil (w : World) (i : Int) : Calls Tryz.prog 49 #[.pointer none, .int .u64 i] w (GetOwn w CommitD.zero false) := by
  go_enter Tryz.func49, Tryz.ntmps49
  go_wp2_with (go_at_call 34; refine (gok_nil _).mono ?_; rintro e w' ⟨rfl, rfl⟩)
  refine bodyPost_ret (v := .tuple #[.agg #[.int .u64 0, .slice none 0 0, .int .u64 0, .int .u64 0, .string ⟨#[]⟩], .bool false]) ?_ rfl ?_
  · simp [results, Tryz.results49, go_sem]
  · exact ⟨none, 0, rfl, World.ownsRow_nil _ _ _ _, by (repeat (first | (with_reducible exact Below.refl _ _) | (with_reducible assumption) | (with_reducible refine bel_al0 ?_ _) | (with_reducible refine bel_set ?_ (by first | (simp; done) | (simp; omega)) _) | (with_reducible refine bel_dr ?_) | (with_reducible refine bel_drn ?_ _) | (with_reducible refine bel_tr ?_ (by assumption))))⟩
theorem gp_get (gq : Option Addr) (w : World) (L : List (Int × CommitD)) (h : GP w gq L) (i : Int) :
    Calls Tryz.prog 49 #[.pointer gq, .int .u64 i] w (GetOwn w (gGet L i) (mget L i).isSome) := by
  rcases h with ⟨p, m, rfl, h⟩ | ⟨rfl, rfl⟩
  · exact gget_calls p m w L h i
  · exact gget_nil w i
namespace N
end N
end Go.Proofs.YtehneliphhgegaaGreatDoor
end
section
set_option linter.unusedVariables false
set_option linter.unusedSimpArgs false
set_option maxRecDepth 100000
namespace Go.Proofs.YtehneliphhgegaaGreatDoor.N
open Go.RowKit Go.Apo Go.Shelf
attribute [local go_sem] Oper.semAt_some
end Go.Proofs.YtehneliphhgegaaGreatDoor.N
end
section
set_option linter.unusedVariables false
set_option linter.unusedSimpArgs false
set_option maxRecDepth 100000
namespace Go.Proofs.YtehneliphhgegaaGreatDoor.N
open Go.RowKit Go.Apo Go.Shelf
attribute [local go_sem] Oper.semAt_some
end Go.Proofs.YtehneliphhgegaaGreatDoor.N
end
section
set_option linter.unusedVariables false
set_option linter.unusedSimpArgs false
set_option maxRecDepth 100000
namespace Go.Proofs.YtehneliphhgegaaGreatDoor.N
open Go.RowKit Go.Apo Go.Shelf
attribute [local go_sem] Oper.semAt_some
end Go.Proofs.YtehneliphhgegaaGreatDoor.N
end
section
set_option linter.unusedVariables false
set_option linter.unusedSimpArgs false
set_option maxRecDepth 100000
namespace Go.Proofs.YtehneliphhgegaaGreatDoor.N
open Go.RowKit Go.Apo Go.Shelf
attribute [local go_sem] Oper.semAt_some
end Go.Proofs.YtehneliphhgegaaGreatDoor.N
end
end
section
section
set_option linter.unusedVariables false
set_option linter.unusedSimpArgs false
set_option maxRecDepth 1000000
namespace Go.Proofs.YtehneliphhgegaaGreatDoor
open Go.RowKit Go.Apo Go.Shelf

end Go.Proofs.YtehneliphhgegaaGreatDoor
end
section
set_option linter.unusedVariables false
set_option linter.unusedSimpArgs false
set_option maxRecDepth 100000
namespace Go.Proofs.YtehneliphhgegaaGreatDoor
open Go.RowKit Go.Apo

/-- a commit, its first parent, and so on -/
def lineL (L : List (Int × CommitD)) (i : Int) : List Int :=
  match mget L i with
  | none => []
  | some c => i :: match c.par with
    | [] => []
    | p :: _ => if h : p.toNat < i.toNat then lineL L p else []
termination_by i.toNat
theorem lineL_none {L : List (Int × CommitD)} {i : Int} (h : mget L i = none) : lineL L i = [] := by rw [lineL, h]
theorem lineL_end {L : List (Int × CommitD)} {i : Int} {c : CommitD} (h : mget L i = some c) (hp : c.par = []) : lineL L i = [i] := by rw [lineL, h]; simp only; rw [hp]
theorem lineL_on {L : List (Int × CommitD)} {i p : Int} {c : CommitD} {ps : List Int} (h : mget L i = some c) (hp : c.par = p :: ps) (hlt : p.toNat < i.toNat) : lineL L i = i :: lineL L p := by
  conv => lhs; rw [lineL, h]
  simp only
  rw [hp]
  simp only
  rw [dif_pos hlt]
/-- the first parent's number is less -/
def Falls (L : List (Int × CommitD)) : Prop := ∀ i c, mget L i = some c → c.par.length ≤ 2 ∧ ∀ p ∈ c.par, p.toNat < i.toNat
theorem Falls.nil : Falls [] := fun i c h => by cases h

set_option maxHeartbeats 4000000 in
theorem line_calls (w : World) (gq : Option Addr) (L : List (Int × CommitD)) (h : GP w gq L) (hF : Falls L) (id : Int) (hbig : (lineL L id).length ≤ 100000) :
    Calls Tryz.prog 23 #[.pointer gq, .int .u64 id] w (NumsOwn w (lineL L id)) := by
  have HG := Lib.hid (fun W (hW : Below w.heap.size w W) i => gp_get gq W L (h.below hW) i)
  have HFA := Lib.hid hF; clear hF
  obtain ⟨RES, hRES⟩ : ∃ RES, RES = lineL L id := ⟨_, rfl⟩
  rw [← hRES] at hbig ⊢
  have HRES := Lib.hid hRES; clear hRES h
  unfold NumsOwn
  go_enter Tryz.func23, Tryz.ntmps23
  go_wp2
  go_loopw [1, 5] (fun v v5 wr => ∃ (i : Int) (pre : List Int) (np : Nat), v = .int .u64 i ∧ Hid (RES = pre ++ lineL L i) ∧ Hid (np = pre.length) ∧ Hid (wr.ownsRow w.heap.size 34 1 v5 np (nums pre)) ∧ Below w.heap.size w wr) (fun v _ _ => (intOf v).toNat)
  case atStart => exact ⟨id, [], 0, rfl, by show RES = [] ++ lineL L id; rw [HRES.out]; rfl, rfl, World.ownsRow_nil _ _ _ _, by (repeat (first | (with_reducible exact Below.refl _ _) | (with_reducible assumption) | (with_reducible refine bel_al0 ?_ _) | (with_reducible refine bel_set ?_ (by first | (simp; done) | (simp; omega)) _) | (with_reducible refine bel_dr ?_) | (with_reducible refine bel_drn ?_ _) | (with_reducible refine bel_tr ?_ (by assumption))))⟩
  case round =>
    obtain ⟨i, pre, np, rfl, hE, hnp, ho, hB⟩ := hrel
    have HGi := Lib.hid (HG.out wr hB i)
    unfold GetOwn at HGi
    cases hq : mget L i with
    | none =>
      rw [hq] at HGi
      have he := hE.out
      rw [lineL_none hq, List.append_nil] at he
      have HE2 := Lib.hid he
      clear hq he
      obtain ⟨c, hc⟩ : ∃ c, c = gGet L i := ⟨_, rfl⟩
      rw [← hc] at HGi
      clear hc
      have HGj : Hid _ := HGi
      simp only [Option.isSome_none] at HGi
      go_wp2_with (go_at_call 49; refine HGi.out.mono ?_; rintro e w5 ⟨A5, k5, rfl, ho5, hb5⟩; clear ho5)
      go_ret
      refine ⟨_, rfl, ?_, bel_tr hB (by (repeat (first | (with_reducible exact Below.refl _ _) | (with_reducible assumption) | (with_reducible refine bel_al0 ?_ _) | (with_reducible refine bel_set ?_ (by first | (simp; done) | (simp; omega)) _) | (with_reducible refine bel_dr ?_) | (with_reducible refine bel_drn ?_ _) | (with_reducible refine bel_tr ?_ (by assumption)))))⟩
      rw [HE2.out, ← hnp.out]
      exact own_below ho.out (by (repeat (first | (with_reducible exact Below.refl _ _) | (with_reducible assumption) | (with_reducible refine bel_al0 ?_ _) | (with_reducible refine bel_set ?_ (by first | (simp; done) | (simp; omega)) _) | (with_reducible refine bel_dr ?_) | (with_reducible refine bel_drn ?_ _) | (with_reducible refine bel_tr ?_ (by assumption)))))
    | some c =>
      have hgc : gGet L i = c := by unfold gGet; rw [hq]; rfl
      rw [hq, hgc] at HGi
      simp only [Option.isSome_some] at HGi
      obtain ⟨hp2, hpf⟩ := HFA.out i c hq
      have hlen : pre.length + (lineL L i).length ≤ 100000 := by have := hE.out; rw [this, List.length_append] at hbig; exact hbig
      rw [← hnp.out] at hlen
      have hsz := hB.size
      cases hps : c.par with
      | nil =>
        rw [hps] at HGi
        have he := hE.out
        rw [lineL_end hq hps] at he hlen
        have HE2 := Lib.hid he
        have hl2 : np + 1 ≤ 100000 := by simpa using hlen
        clear hq he hgc hpf hps hlen
        simp only [List.length_nil] at HGi
        go_wp2_with (first | (go_at_call 49; refine HGi.out.mono ?_; rintro e w5 ⟨A5, k5, rfl, ho5, hb5⟩; clear ho5; have hbB := blk_new w5 #[.int .u64 c.id, .slice A5 0 k5, .int .u64 c.gen, .int .u64 c.root, .string c.text] 41; have hz5 : w.heap.size ≤ w5.heap.size := (by have := hb5.size; omega)) | (at_builtin; refine wpl_append rfl _ _ 39 rfl w.heap.size 34 _ 1 8 Tryz.underlying39 infoU64 rfl (by decide) _ np (nums pre) rfl (own_below ho.out (bel_al0 (bel_al0 hb5 _) _)) (some ⟨w5.heap.size + 1, 0, none⟩) 1 1 (nums [i]) rfl rfl (by have := flat_one (w5.alloc (.cells #[.int .u64 c.id, .slice A5 0 k5, .int .u64 c.gen, .int .u64 c.root, .string c.text] 41)) i; simpa using this) (nums_one _) (by unfold maxLen; omega) (by omega) (by simp; omega) ?_; intro v' w6 ho6 hg6 hat6; have hb6 : Below w.heap.size w w6 := grown_bel (bel_al0 (bel_al0 (bel_tr hB hb5) _) _) (Nat.le_refl _) hg6 (own_row_ge ho.out); have hz6 : w5.heap.size < w6.heap.size := (by have := hg6.size; simp at this; omega); have hbk := (hg6.block w5.heap.size (by simp; omega) (fun e => by have := (ho.out.lt _ e.symm).2; have := hb5.size; omega)).trans (hbB.al _); obtain ⟨x0, x1, x2, x3, x4, xf⟩ := Blk.five hbk; clear hbB))
        go_ret
        refine ⟨_, rfl, ?_, by (repeat (first | (with_reducible exact Below.refl _ _) | (with_reducible assumption) | (with_reducible refine bel_al0 ?_ _) | (with_reducible refine bel_set ?_ (by first | (simp; done) | (simp; omega)) _) | (with_reducible refine bel_dr ?_) | (with_reducible refine bel_drn ?_ _) | (with_reducible refine bel_tr ?_ (by assumption))))⟩
        rw [HE2.out, nums_app, List.length_append, ← hnp.out]
        exact own_below ho6 (by (repeat (first | (with_reducible exact Below.refl _ _) | (with_reducible assumption) | (with_reducible refine bel_al0 ?_ _) | (with_reducible refine bel_set ?_ (by first | (simp; done) | (simp; omega)) _) | (with_reducible refine bel_dr ?_) | (with_reducible refine bel_drn ?_ _) | (with_reducible refine bel_tr ?_ (by assumption)))))
      | cons p ps =>
        have hpl := hpf p (by rw [hps]; exact List.mem_cons_self)
        have he := hE.out
        rw [lineL_on hq hps hpl] at he hlen
        have HE2 : Hid (RES = (pre ++ [i]) ++ lineL L p) := by show _ = _; rw [he]; simp
        have hl2 : np + 1 ≤ 100000 := by simp at hlen; omega
        rw [hps] at HGi hp2
        obtain ⟨nq, hnq⟩ : ∃ nq, nq = (p :: ps).length := ⟨_, rfl⟩
        have hnq1 : 0 < nq := by rw [hnq]; simp
        rw [← hnq] at HGi hp2
        have HP : Hid ((p :: ps)[0]? = some p) := rfl
        obtain ⟨pp, hpp⟩ : ∃ pp, pp = p :: ps := ⟨_, rfl⟩
        rw [← hpp] at HGi HP
        clear hq he hgc hpf hps hlen hnq hpp
        have hpz : p.toNat < i.toNat := hpl
        go_wp2_with (first | (go_at_call 49; refine HGi.out.mono ?_; rintro e w5 ⟨A5, k5, rfl, ho5, hb5⟩; have hrw5 := own_row_ge ho5; have hf5 := own_flat ho5; obtain ⟨b5, off5, rfl, cp⟩ := hf5.at_ (nums_at HP.out); clear hf5 ho5; have hbl5 := cell_lt cp; have hbB := blk_new w5 #[.int .u64 c.id, .slice (some ⟨b5, off5, none⟩) nq k5, .int .u64 c.gen, .int .u64 c.root, .string c.text] 41; have hz5 : w.heap.size ≤ w5.heap.size := (by have := hb5.size; omega); have hr5 := hrw5 b5 rfl; clear hrw5) | (at_builtin; refine wpl_append rfl _ _ 39 rfl w.heap.size 34 _ 1 8 Tryz.underlying39 infoU64 rfl (by decide) _ np (nums pre) rfl (own_below ho.out (bel_al0 (bel_al0 hb5 _) _)) (some ⟨w5.heap.size + 1, 0, none⟩) 1 1 (nums [i]) rfl rfl (by have := flat_one (w5.alloc (.cells #[.int .u64 c.id, .slice (some ⟨b5, off5, none⟩) nq k5, .int .u64 c.gen, .int .u64 c.root, .string c.text] 41)) i; simpa using this) (nums_one _) (by unfold maxLen; omega) (by omega) (by simp; omega) ?_; intro v' w6 ho6 hg6 hat6; have hb6 : Below w.heap.size w w6 := grown_bel (bel_al0 (bel_al0 (bel_tr hB hb5) _) _) (Nat.le_refl _) hg6 (own_row_ge ho.out); have hz6 : w5.heap.size < w6.heap.size := (by have := hg6.size; simp at this; omega); have hne5 : ∀ r, wr.heap.size ≤ r → some r ≠ _ := (fun r hr e => by have := (ho.out.lt r e.symm).2; omega); have hbk := (hg6.block w5.heap.size (by simp; omega) (hne5 _ hb5.size)).trans (hbB.al _); obtain ⟨x0, x1, x2, x3, x4, xf⟩ := Blk.five hbk; clear hbB; replace cp := (World.cell?_of_block (w := w5) (a := ⟨b5, off5, none⟩) ((hg6.block b5 (by simp; omega) (hne5 _ hr5)).trans (((bel_al0 (bel_al0 (Below.refl w5.heap.size w5) _) _)).block b5 hbl5))).trans cp; have hbl6 : b5 < w6.heap.size := (by omega)))
        go_roundw
        case rel =>
          refine ⟨p, pre ++ [i], np + 1, rfl, HE2, by show np + 1 = _; rw [List.length_append, hnp.out]; rfl, ?_, hb6⟩
          show World.ownsRow _ _ _ _ _ _ _
          rw [nums_app]
          exact ho6
        case measure => simp [intOf]; omega

theorem LOk.nil : LOk [] := ⟨(fun i c h => by cases h), (fun i c h => by cases h)⟩
end Go.Proofs.YtehneliphhgegaaGreatDoor
end
section
set_option linter.unusedVariables false
set_option linter.unusedSimpArgs false
set_option maxRecDepth 100000
namespace Go.Proofs.YtehneliphhgegaaGreatDoor
open Go.RowKit Go.Apo

theorem Closed.nil : Closed [] := fun i c h => by cases h
end Go.Proofs.YtehneliphhgegaaGreatDoor
end
end
section
set_option linter.unusedVariables false
set_option linter.unusedSimpArgs false
set_option maxRecDepth 100000
namespace Go.Proofs.YtehneliphhgegaaGreatDoor.O
open Go.RowKit Go.Apo Go.Shelf
structure Ent where
  c : CommitD
  a : Option Addr
  k : Nat
def Ent.vals (e : Ent) : List Value := [.int .u64 e.c.id, .slice e.a e.c.par.length e.k, .int .u64 e.c.gen, .int .u64 e.c.root, .string e.c.text]
def HRow (w : World) (g cap n : Nat) (f : Nat → Ent) : Prop :=
  ∃ cur, Blk w g cur 41 ∧ cur.size = cap * 5 ∧ n ≤ cap ∧ cap ≤ maxLen ∧ ∀ j, j < n → ∀ t u, (f j).vals[t]? = some u → cur[j * 5 + t]? = some u
structure Five (w : World) (g o : Nat) (e : Ent) : Prop where
  c0 : w.cell? ⟨g, o, none⟩ = some (.int .u64 e.c.id)
  c1 : w.cell? ⟨g, o + 1, none⟩ = some (.slice e.a e.c.par.length e.k)
  c2 : w.cell? ⟨g, o + 2, none⟩ = some (.int .u64 e.c.gen)
  c3 : w.cell? ⟨g, o + 3, none⟩ = some (.int .u64 e.c.root)
  c4 : w.cell? ⟨g, o + 4, none⟩ = some (.string e.c.text)
theorem HRow.five {w : World} {g cap n : Nat} {f : Nat → Ent} (h : HRow w g cap n f) {j : Nat} (hj : j < n) : Five w g (j * 5) (f j) := by
  obtain ⟨cur, h1, h2, h3, h4, h5⟩ := h
  exact ⟨h1.cell (h5 j hj 0 _ rfl), h1.cell (h5 j hj 1 _ rfl), h1.cell (h5 j hj 2 _ rfl), h1.cell (h5 j hj 3 _ rfl), h1.cell (h5 j hj 4 _ rfl)⟩
theorem HRow.lt {w : World} {g cap n : Nat} {f : Nat → Ent} (h : HRow w g cap n f) : g < w.heap.size := by
  obtain ⟨cur, h1, _⟩ := h
  exact h1.lt
/-- two blocks alone may have turned -/
structure But2 (h g : Nat) (w w' : World) : Prop where
  os : w'.os = w.os
  tape : w'.tape = w.tape
  output : w'.output = w.output
  size : w.heap.size ≤ w'.heap.size
  block : ∀ k, k < w.heap.size → k ≠ h → k ≠ g → w'.heap[k]? = w.heap[k]?
theorem But2.trans {h g : Nat} {a b c : World} (x : But2 h g a b) (y : But2 h g b c) : But2 h g a c :=
  ⟨y.os.trans x.os, y.tape.trans x.tape, y.output.trans x.output, Nat.le_trans x.size y.size, fun k hk h1 h2 => (y.block k (Nat.lt_of_lt_of_le hk x.size) h1 h2).trans (x.block k hk h1 h2)⟩
end Go.Proofs.YtehneliphhgegaaGreatDoor.O
end
section
set_option linter.unusedVariables false
set_option linter.unusedSimpArgs false
namespace Go.Proofs.YtehneliphhgegaaGreatDoor
open Go.RowKit Go.Apo

theorem Sync.par {L : List (Int × CommitD)} {R : List CommitD} (h : Sync L R) (i : Int) : (gGet L i).par = rPar R i := by
  unfold gGet rPar; rw [h.same]
end Go.Proofs.YtehneliphhgegaaGreatDoor
end
section
section
set_option linter.unusedVariables false
set_option linter.unusedSimpArgs false
set_option maxRecDepth 100000
namespace Go.Proofs.YtehneliphhgegaaGreatDoor
open Go.RowKit Go.Apo

end Go.Proofs.YtehneliphhgegaaGreatDoor
end
section
set_option linter.unusedVariables false
set_option linter.unusedSimpArgs false
namespace Go.Proofs.YtehneliphhgegaaGreatDoor
open Go.RowKit Go.Apo

theorem rFind_self : ∀ {R : List CommitD}, R.Pairwise (fun a b => a.id < b.id) → ∀ c ∈ R, rFind R c.id = some c
  | d :: R, h, c, hc => by
    rw [List.pairwise_cons] at h
    unfold rFind
    rw [List.find?_cons]
    rcases List.mem_cons.1 hc with rfl | hc
    · simp
    · have := h.1 c hc
      have hne : (d.id == c.id) = false := by simp; omega
      rw [hne]
      exact rFind_self h.2 c hc
theorem Sync.at_ {L : List (Int × CommitD)} {R : List CommitD} (h : Sync L R) {c : CommitD} (hc : c ∈ R) : gGet L c.id = c := by
  unfold gGet
  rw [← h.same, rFind_self h.sorted c hc]; rfl
end Go.Proofs.YtehneliphhgegaaGreatDoor
end
end
section
set_option linter.unusedVariables false
set_option linter.unusedSimpArgs false
namespace Go.Proofs.YtehneliphhgegaaGreatDoor
open Go.RowKit Go.Apo

theorem gGet_at {L : List (Int × CommitD)} {i : Int} {c : CommitD} (h : mget L i = some c) : gGet L i = c := by unfold gGet; rw [h]; rfl
end Go.Proofs.YtehneliphhgegaaGreatDoor
end
section
section
set_option linter.unusedVariables false
set_option linter.unusedSimpArgs false
namespace Go.Apo
open Go.ChangeShapes Go.WideShapes Go.RowKit

section
variable {H : Type} {enc : TypeId × Value → H} {P : Program} {w : World}

end
end Go.Apo
end
section
set_option linter.unusedVariables false
set_option linter.unusedSimpArgs false
namespace Go.Proofs.YtehneliphhgegaaGreatDoor
open Go.RowKit Go.Apo

section
variable {H : Type} {enc : TypeId × Value → H} {w : World}
theorem cells_str : Tryz.prog.cellsOf 9 = 1 := by kernel_rfl
theorem cells_bool : Tryz.prog.cellsOf 4 = 1 := by kernel_rfl
theorem cells_u64 : Tryz.prog.cellsOf 34 = 1 := by kernel_rfl
theorem cells_ref : Tryz.prog.cellsOf 48 = 3 := by kernel_rfl
theorem list3 {α : Type} {l : List α} (h : l.length = 3) : ∃ a b c, l = [a, b, c] := by
  match l, h with
  | [a, b, c], _ => exact ⟨a, b, c, rfl⟩
theorem list5 {α : Type} {l : List α} (h : l.length = 5) : ∃ a b c d e, l = [a, b, c, d, e] := by
  match l, h with
  | [a, b, c, d, e], _ => exact ⟨a, b, c, d, e, rfl⟩

theorem ref_cells {cs : List Value} (h : G enc Tryz.prog w 48 cs) : ∃ n t i, cs = [.string n, .bool t, .int .u64 i] := by
  obtain ⟨a, b, c, rfl⟩ := list3 ((h.len Tryz.underlying48).trans cells_ref)
  have f0 := h.field Tryz.underlying48 0 9 0 1 rfl cells_str
  have f1 := h.field Tryz.underlying48 1 4 1 1 rfl cells_bool
  have f2 := h.field Tryz.underlying48 2 34 2 1 rfl cells_u64
  simp only [List.drop_zero, List.drop_succ_cons, List.take_succ_cons, List.take_zero] at f0 f1 f2
  obtain ⟨n, e0, _⟩ := f0.string Tryz.underlying9
  obtain ⟨t, e1⟩ := f1.bool Tryz.underlying4
  obtain ⟨i, e2, _⟩ := f2.int Tryz.underlying34
  simp only [List.cons.injEq, and_true] at e0 e1 e2
  exact ⟨n, t, i, by rw [e0, e1, e2]⟩
theorem refRow_of {A : Option Addr} {n c : Nat} (h : G enc Tryz.prog w 23 [.slice A n c]) (hs : n * 24 ≤ 140737488351232) : ∃ l, RefRow w A n l := by
  obtain ⟨a, len, cap, e, _, _, hx⟩ := h.slice Tryz.underlying23 (by rw [cells_ref]; omega)
  simp only [Value.slice.injEq] at e
  obtain ⟨rfl, rfl, rfl⟩ := e
  rcases Nat.eq_zero_or_pos n with rfl | h0
  · exact ⟨[], rfl, hs, fun h => absurd h (by omega)⟩
  obtain ⟨b, off, rfl, hx2⟩ := hx h0
  obtain ⟨l, h1, h2⟩ := choose_list (p := fun i (r : RefD) => w.cell? ⟨b, off + i * 3, none⟩ = some (.string r.name) ∧ w.cell? ⟨b, off + i * 3 + 1, none⟩ = some (.bool r.tag) ∧ w.cell? ⟨b, off + i * 3 + 2, none⟩ = some (.int .u64 r.id)) n (fun i hi => by
    obtain ⟨cs, _, hg, hc⟩ := hx2 i hi
    obtain ⟨x, t, y, rfl⟩ := ref_cells hg
    rw [cells_ref] at hc
    exact ⟨⟨x, t, y⟩, hc 0 _ rfl, hc 1 _ rfl, hc 2 _ rfl⟩)
  exact ⟨l, h1, hs, fun _ => ⟨b, off, rfl, h2⟩⟩
end
end Go.Proofs.YtehneliphhgegaaGreatDoor
end
end
section
set_option linter.unusedVariables false
set_option linter.unusedSimpArgs false
set_option maxRecDepth 100000
namespace Go.Proofs.YtehneliphhgegaaGreatDoor
open Go.RowKit Go.Apo

section
variable {H : Type} {enc : TypeId × Value → H} {w : World}
theorem cells_nums : Tryz.prog.cellsOf 39 = 1 := by kernel_rfl
theorem cells_commit : Tryz.prog.cellsOf 41 = 5 := by kernel_rfl
theorem u64_wf {x : Int} (h : (Lit.int .u64 x).wf = true) : u64ok x := by
  have := bounds_u64 h
  unfold u64ok
  omega
/-- a slice of numbers -/
theorem u64s_of {A : Option Addr} {n c : Nat} (h : G enc Tryz.prog w 39 [.slice A n c]) : ∃ l : List Int, l.length = n ∧ Flat w A (nums l) ∧ (A = none → l = []) ∧ ∀ x ∈ l, u64ok x := by
  obtain ⟨a, len, cap, e, _, _, hx⟩ := h.slice Tryz.underlying39 (by rw [cells_u64]; omega)
  simp only [Value.slice.injEq] at e
  obtain ⟨rfl, rfl, rfl⟩ := e
  rcases Nat.eq_zero_or_pos n with rfl | h0
  · exact ⟨[], rfl, Flat.nil _ _, fun _ => rfl, fun x hx => by cases hx⟩
  obtain ⟨b, off, rfl, hx2⟩ := hx h0
  obtain ⟨l, h1, h2⟩ := choose_list (p := fun i (x : Int) => w.cell? ⟨b, off + i, none⟩ = some (.int .u64 x) ∧ u64ok x) n (fun i hi => by
    obtain ⟨cs, _, hg, hc⟩ := hx2 i hi
    obtain ⟨x, rfl, hw⟩ := hg.int Tryz.underlying34
    rw [cells_u64, Nat.mul_one] at hc
    exact ⟨x, hc 0 _ rfl, u64_wf hw⟩)
  refine ⟨l, h1, fun _ => ⟨b, off, rfl, fun j u hj => ?_⟩, (fun e => by cases e), fun x hx => ?_⟩
  · simp only [nums, List.getElem?_map, Option.map_eq_some_iff] at hj
    obtain ⟨x, hx, rfl⟩ := hj
    exact (h2 j x hx).1
  · obtain ⟨j, hj⟩ := List.mem_iff_getElem?.1 hx
    exact (h2 j x hj).2
def cOk (c : CommitD) : Prop := u64ok c.id ∧ u64ok c.gen ∧ u64ok c.root ∧ ∀ p ∈ c.par, u64ok p
theorem commit_cells' {cs : List Value} (h : G enc Tryz.prog w 41 cs) : ∃ (c : CommitD) (v0 v1 v2 v3 v4 : Value), cs = [v0, v1, v2, v3, v4] ∧ commitIs w c (.agg #[v0, v1, v2, v3, v4]) ∧ cOk c := by
  obtain ⟨a, b, c, d, e, rfl⟩ := list5 ((h.len Tryz.underlying41).trans cells_commit)
  have f0 := h.field Tryz.underlying41 0 34 0 1 rfl cells_u64
  have f1 := h.field Tryz.underlying41 1 39 1 1 rfl cells_nums
  have f2 := h.field Tryz.underlying41 2 34 2 1 rfl cells_u64
  have f3 := h.field Tryz.underlying41 3 34 3 1 rfl cells_u64
  have f4 := h.field Tryz.underlying41 4 9 4 1 rfl cells_str
  simp only [List.drop_zero, List.drop_succ_cons, List.take_succ_cons, List.take_zero] at f0 f1 f2 f3 f4
  obtain ⟨i, e0, w0⟩ := f0.int Tryz.underlying34
  obtain ⟨A, n, k, e1, _, _, _⟩ := f1.slice Tryz.underlying39 (by rw [cells_u64]; omega)
  subst e1
  obtain ⟨ps, hl, hf, hA, hp⟩ := u64s_of f1
  obtain ⟨g, e2, w2⟩ := f2.int Tryz.underlying34
  obtain ⟨r, e3, w3⟩ := f3.int Tryz.underlying34
  obtain ⟨t, e4, _⟩ := f4.string Tryz.underlying9
  simp only [List.cons.injEq, and_true] at e0 e2 e3 e4
  subst e0 e2 e3 e4
  exact ⟨⟨i, ps, g, r, t⟩, _, _, _, _, _, rfl, ⟨A, k, by rw [hl], hf, hA⟩, u64_wf w0, u64_wf w2, u64_wf w3, hp⟩
theorem row_build {b : Nat} : ∀ (l : List (CommitD × List Value)) (off : Nat), (∀ i x, l[i]? = some x → x.2.length = 5 ∧ (∃ v0 v1 v2 v3 v4, x.2 = [v0, v1, v2, v3, v4] ∧ commitIs w x.1 (.agg #[v0, v1, v2, v3, v4])) ∧ ∀ j u, x.2[j]? = some u → w.cell? ⟨b, off + i * 5 + j, none⟩ = some u) →
    CVals w (l.map (·.1)) (l.map (·.2)).flatten ∧ ∀ j u, (l.map (·.2)).flatten[j]? = some u → w.cell? ⟨b, off + j, none⟩ = some u
  | [], off, _ => ⟨trivial, fun j u hj => by simp at hj⟩
  | x :: l, off, h => by
    obtain ⟨h1, ⟨v0, v1, v2, v3, v4, e, hc⟩, h2⟩ := h 0 x rfl
    obtain ⟨q1, q2⟩ := row_build l (off + 5) (fun i y hy => by
      obtain ⟨g1, g2, g3⟩ := h (i + 1) y (by simpa using hy)
      refine ⟨g1, g2, fun j u hj => ?_⟩
      have := g3 j u hj
      have e : off + (i + 1) * 5 + j = off + 5 + i * 5 + j := by omega
      rwa [e] at this)
    refine ⟨?_, fun j u hj => ?_⟩
    · simp only [List.map_cons, List.flatten_cons, e]
      exact ⟨hc, q1⟩
    · simp only [List.map_cons, List.flatten_cons] at hj
      rw [List.getElem?_append] at hj
      split at hj
      · have := h2 j u hj
        rwa [Nat.zero_mul, Nat.add_zero] at this
      · rename_i hge
        rw [h1] at hj hge
        have := q2 (j - 5) u hj
        have e : off + 5 + (j - 5) = off + j := by omega
        rwa [e] at this
theorem commitRow_of {A : Option Addr} {n c : Nat} (h : G enc Tryz.prog w 22 [.slice A n c]) (hs : n * 64 ≤ 140737488351232) : ∃ l, CIn w A n l := by
  obtain ⟨a, len, cap, e, _, _, hx⟩ := h.slice Tryz.underlying22 (by rw [cells_commit]; omega)
  simp only [Value.slice.injEq] at e
  obtain ⟨rfl, rfl, rfl⟩ := e
  rcases Nat.eq_zero_or_pos n with rfl | h0
  · exact ⟨[], rfl, ⟨[], trivial, Flat.nil _ _⟩, hs, fun c hc => by cases hc⟩
  obtain ⟨b, off, rfl, hx2⟩ := hx h0
  obtain ⟨l, h1, h2⟩ := choose_list (p := fun i (x : CommitD × List Value) => (x.2.length = 5 ∧ (∃ v0 v1 v2 v3 v4, x.2 = [v0, v1, v2, v3, v4] ∧ commitIs w x.1 (.agg #[v0, v1, v2, v3, v4])) ∧ ∀ j u, x.2[j]? = some u → w.cell? ⟨b, off + i * 5 + j, none⟩ = some u) ∧ cOk x.1) n (fun i hi => by
    obtain ⟨cs, _, hg, hc⟩ := hx2 i hi
    obtain ⟨c, v0, v1, v2, v3, v4, rfl, hcm, hok⟩ := commit_cells' hg
    rw [cells_commit] at hc
    exact ⟨(c, [v0, v1, v2, v3, v4]), ⟨rfl, ⟨v0, v1, v2, v3, v4, rfl, hcm⟩, hc⟩, hok⟩)
  obtain ⟨q1, q2⟩ := row_build l off (fun i x hx => (h2 i x hx).1)
  refine ⟨l.map (·.1), by simpa using h1, ⟨_, q1, fun _ => ⟨b, off, rfl, q2⟩⟩, hs, fun c hc => ?_⟩
  obtain ⟨x, hx, rfl⟩ := List.mem_map.1 hc
  obtain ⟨j, hj⟩ := List.mem_iff_getElem?.1 hx
  exact (h2 j x hj).2
end
end Go.Proofs.YtehneliphhgegaaGreatDoor
end
section
set_option linter.unusedVariables false
set_option linter.unusedSimpArgs false
set_option maxRecDepth 100000
namespace Go.Proofs.YtehneliphhgegaaGreatDoor
open Go.RowKit Go.Apo

theorem lineL_len {L : List (Int × CommitD)} {R : List CommitD} (h : Sync L R) (hF : Falls L) : ∀ (n : Nat) (i : Int), i.toNat ≤ n → (lineL L i).length ≤ (gGet L i).gen := by
  intro n
  induction n with
  | zero =>
    intro i hi
    cases hq : mget L i with
    | none => rw [lineL_none hq]; unfold gGet; rw [hq]; simp [CommitD.zero]
    | some c =>
      have hg := h.gens i c hq
      rw [gGet_at hq]
      cases hp : c.par with
      | nil => rw [lineL_end hq hp]; simp; omega
      | cons p ps => have := (hF i c hq).2 p (by rw [hp]; exact List.mem_cons_self); omega
  | succ n ih =>
    intro i hi
    cases hq : mget L i with
    | none => rw [lineL_none hq]; unfold gGet; rw [hq]; simp [CommitD.zero]
    | some c =>
      have hg := h.gens i c hq
      rw [gGet_at hq]
      cases hp : c.par with
      | nil => rw [lineL_end hq hp]; simp; omega
      | cons p ps =>
        have hlt := (hF i c hq).2 p (by rw [hp]; exact List.mem_cons_self)
        rw [lineL_on hq hp hlt]
        have h1 := ih p (by omega)
        obtain ⟨_, _, d, hd, hdg⟩ := h.pars i c hq p (by rw [hp]; exact List.mem_cons_self)
        rw [gGet_at hd] at h1
        simp only [List.length_cons]
        push_cast
        omega
theorem Sync.lineLen {L : List (Int × CommitD)} {R : List CommitD} (h : Sync L R) (hF : Falls L) (i : Int) : (lineL L i).length ≤ L.length := by
  have h1 := lineL_len h hF i.toNat i (Nat.le_refl _)
  cases hq : mget L i with
  | none => rw [lineL_none hq]; simp
  | some c =>
    rw [gGet_at hq] at h1
    have := (h.gens i c hq).2
    omega
set_option maxHeartbeats 8000000 in
theorem rline_calls (w : World) (x : Nat) (L : List (Int × CommitD)) (R : List CommitD) (h : RGraphAt w x R) (hsy : Sync L R) (hF : Falls L) (hz0 : mget L 0 = none) (hR : R.length ≤ 90000) (id : Int) :
    Calls Tryz.prog 26 #[.pointer (some ⟨x, 0, none⟩), .int .u64 id] w (NumsOwn w (lineL L id)) := by
  have HRG := Lib.hid h
  obtain ⟨A0, k0, hblk, _, _, _⟩ := h
  have hc := hblk.one.1; clear hblk
  have hcl := cell_lt hc
  have HG := Lib.hid (fun W (hW : Below w.heap.size w W) i => rget_calls w W x R HRG.out hW (by omega) i)
  have hbig := hsy.lineLen hF id
  obtain ⟨N, hN⟩ : ∃ N, N = R.length := ⟨_, rfl⟩
  rw [← hN] at hc hR
  rw [← hsy.len, ← hN] at hbig
  have HN := Lib.hid hN; clear hN
  have HSY := Lib.hid hsy; clear hsy
  have HFA := Lib.hid hF; clear hF
  have HZ0 := Lib.hid hz0; clear hz0
  obtain ⟨RES, hRES⟩ : ∃ RES, RES = lineL L id := ⟨_, rfl⟩
  rw [← hRES] at hbig ⊢
  have HRES := Lib.hid hRES; clear hRES
  unfold NumsOwn
  go_enter Tryz.func26, Tryz.ntmps26
  go_wp2
  go_loopw [6, 1, 5] (fun v6 v v5 wr => ∃ (i : Int) (pre : List Int) (np : Nat), v6 = .int .i64 np ∧ v = .int .u64 i ∧ np ≤ N ∧ Hid (RES = pre ++ lineL L i) ∧ Hid (np = pre.length) ∧ Hid (wr.ownsRow w.heap.size 34 1 v5 np (nums pre)) ∧ Below w.heap.size w wr) (fun v6 _ _ _ => N + 1 - (intOf v6).toNat)
  case atStart => exact ⟨id, [], 0, rfl, rfl, Nat.zero_le _, by show RES = [] ++ lineL L id; rw [HRES.out]; rfl, rfl, World.ownsRow_nil _ _ _ _, by (repeat (first | (with_reducible exact Below.refl _ _) | (with_reducible assumption) | (with_reducible refine bel_al0 ?_ _) | (with_reducible refine bel_set ?_ (by first | (simp; done) | (simp; omega)) _) | (with_reducible refine bel_dr ?_) | (with_reducible refine bel_drn ?_ _) | (with_reducible refine bel_tr ?_ (by assumption))))⟩
  case round =>
    obtain ⟨i, pre, np, rfl, rfl, hnN, hE, hnp, ho, hB⟩ := hrel
    have hcr := cell_bel hc hB
    have hclr := cell_lt hcr
    have HGi := Lib.hid (HG.out wr hB i)
    rw [HSY.out.same i] at HGi
    unfold GetPost at HGi
    have hlen : pre.length + (lineL L i).length ≤ N := by have := hE.out; rw [this, List.length_append] at hbig; exact hbig
    rw [← hnp.out] at hlen
    have hsz := hB.size
    cases hq : mget L i with
    | none =>
      rw [hq] at HGi
      have he := hE.out
      rw [lineL_none hq, List.append_nil] at he
      have HE2 := Lib.hid he
      clear hq he hlen
      simp only [Option.isSome_none, Option.getD_none] at HGi
      obtain ⟨c, hcz⟩ : ∃ c, c = CommitD.zero := ⟨_, rfl⟩
      rw [← hcz] at HGi
      clear hcz
      go_wp2_with (go_at_call 38; refine HGi.out.mono ?_; rintro e w5 ⟨A5, k5, rfl, _, _, hb5⟩)
      go_ret
      refine ⟨_, rfl, ?_, bel_tr hB (by (repeat (first | (with_reducible exact Below.refl _ _) | (with_reducible assumption) | (with_reducible refine bel_al0 ?_ _) | (with_reducible refine bel_set ?_ (by first | (simp; done) | (simp; omega)) _) | (with_reducible refine bel_dr ?_) | (with_reducible refine bel_drn ?_ _) | (with_reducible refine bel_tr ?_ (by assumption)))))⟩
      rw [HE2.out, ← hnp.out]
      exact own_below ho.out (by (repeat (first | (with_reducible exact Below.refl _ _) | (with_reducible assumption) | (with_reducible refine bel_al0 ?_ _) | (with_reducible refine bel_set ?_ (by first | (simp; done) | (simp; omega)) _) | (with_reducible refine bel_dr ?_) | (with_reducible refine bel_drn ?_ _) | (with_reducible refine bel_tr ?_ (by assumption)))))
    | some c =>
      rw [hq] at HGi
      simp only [Option.isSome_some, Option.getD_some] at HGi
      cases hps : c.par with
      | nil =>
        rw [hps] at HGi
        have he := hE.out
        rw [lineL_end hq hps] at he hlen
        have HE2 : Hid (RES = (pre ++ [i]) ++ lineL L 0) := by show _ = _; rw [lineL_none HZ0.out, he]; simp
        have hl2 : np + 1 ≤ N := by simpa using hlen
        clear hq he hps hlen
        simp only [List.length_nil] at HGi
        go_wp2_with (first | (go_at_call 38; refine HGi.out.mono ?_; rintro e w5 ⟨A5, k5, rfl, _, _, hb5⟩; have hbB := blk_new w5 #[.int .u64 c.id, .slice A5 0 k5, .int .u64 c.gen, .int .u64 c.root, .string c.text] 41; have hz5 : w.heap.size ≤ w5.heap.size := (by have := hb5.size; omega)) | (at_builtin; refine wpl_append rfl _ _ 39 rfl w.heap.size 34 _ 1 8 Tryz.underlying39 infoU64 rfl (by decide) _ np (nums pre) rfl (own_below ho.out (bel_al0 (bel_al0 hb5 _) _)) (some ⟨w5.heap.size + 1, 0, none⟩) 1 1 (nums [i]) rfl rfl (by have := flat_one (w5.alloc (.cells #[.int .u64 c.id, .slice A5 0 k5, .int .u64 c.gen, .int .u64 c.root, .string c.text] 41)) i; simpa using this) (nums_one _) (by unfold maxLen; omega) (by omega) (by simp; omega) ?_; intro v' w6 ho6 hg6 hat6; have hb6 : Below w.heap.size w w6 := grown_bel (bel_al0 (bel_al0 (bel_tr hB hb5) _) _) (Nat.le_refl _) hg6 (own_row_ge ho.out); have hz6 : w5.heap.size < w6.heap.size := (by have := hg6.size; simp at this; omega); have hbk := (hg6.block w5.heap.size (by simp; omega) (fun e => by have := (ho.out.lt _ e.symm).2; have := hb5.size; omega)).trans (hbB.al _); obtain ⟨x0, x1, x2, x3, x4, xf⟩ := Blk.five hbk; clear hbB))
        go_roundw
        case rel =>
          refine ⟨0, pre ++ [i], np + 1, by go_num, rfl, hl2, HE2, by show np + 1 = _; rw [List.length_append, hnp.out]; rfl, ?_, hb6⟩
          show World.ownsRow _ _ _ _ _ _ _
          rw [nums_app]
          exact ho6
        case measure => simp [intOf]; omega
      | cons p ps =>
        obtain ⟨hp2, hpf⟩ := HFA.out i c hq
        have hpl := hpf p (by rw [hps]; exact List.mem_cons_self)
        have he := hE.out
        rw [lineL_on hq hps hpl] at he hlen
        have HE2 : Hid (RES = (pre ++ [i]) ++ lineL L p) := by show _ = _; rw [he]; simp
        have hl2 : np + 1 ≤ N := by simp at hlen; omega
        rw [hps] at HGi hp2
        obtain ⟨nq, hnq⟩ : ∃ nq, nq = (p :: ps).length := ⟨_, rfl⟩
        have hnq1 : 0 < nq := by rw [hnq]; simp
        rw [← hnq] at HGi hp2
        have HP : Hid ((p :: ps)[0]? = some p) := rfl
        obtain ⟨pp, hpp⟩ : ∃ pp, pp = p :: ps := ⟨_, rfl⟩
        rw [← hpp] at HGi HP
        clear hq he hpf hps hlen hnq hpp hpl
        go_wp2_with (first | (go_at_call 38; refine HGi.out.mono ?_; rintro e w5 ⟨A5, k5, rfl, hf5, _, hb5⟩; obtain ⟨b5, off5, rfl, cp0⟩ := hf5.at_ (nums_at HP.out); clear hf5;  have hbB := blk_new w5 #[.int .u64 c.id, .slice (some ⟨b5, off5, none⟩) nq k5, .int .u64 c.gen, .int .u64 c.root, .string c.text] 41; have hz5 : w.heap.size ≤ w5.heap.size := (by have := hb5.size; omega)) | (at_builtin; refine wpl_append rfl _ _ 39 rfl w.heap.size 34 _ 1 8 Tryz.underlying39 infoU64 rfl (by decide) _ np (nums pre) rfl (own_below ho.out (bel_al0 (bel_al0 hb5 _) _)) (some ⟨w5.heap.size + 1, 0, none⟩) 1 1 (nums [i]) rfl rfl (by have := flat_one (w5.alloc (.cells #[.int .u64 c.id, .slice (some ⟨b5, off5, none⟩) nq k5, .int .u64 c.gen, .int .u64 c.root, .string c.text] 41)) i; simpa using this) (nums_one _) (by unfold maxLen; omega) (by omega) (by simp; omega) ?_; intro v' w6 ho6 hg6 hat6; have hb6 : Below w.heap.size w w6 := grown_bel (bel_al0 (bel_al0 (bel_tr hB hb5) _) _) (Nat.le_refl _) hg6 (own_row_ge ho.out); have hz6 : w5.heap.size < w6.heap.size := (by have := hg6.size; simp at this; omega); have hbk := (hg6.block w5.heap.size (by simp; omega) (fun e => by have := (ho.out.lt _ e.symm).2; have := hb5.size; omega)).trans (hbB.al _); obtain ⟨x0, x1, x2, x3, x4, xf⟩ := Blk.five hbk; clear hbB; have cp : w6.cell? ⟨b5, off5, none⟩ = some (.int .u64 p) := cell_bel cp0 hb6; have hbl5 : b5 < w6.heap.size := cell_lt cp))
        go_roundw
        case rel =>
          refine ⟨p, pre ++ [i], np + 1, by go_num, rfl, hl2, HE2, by show np + 1 = _; rw [List.length_append, hnp.out]; rfl, ?_, hb6⟩
          show World.ownsRow _ _ _ _ _ _ _
          rw [nums_app]
          exact ho6
        case measure => simp [intOf]; omega
end Go.Proofs.YtehneliphhgegaaGreatDoor
end
