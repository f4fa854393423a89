/- The document's table of refs: Make: walked once. -/
import Derived.Test.YtehneliphhgegaaRSet
import Derived.BigQuiet
set_option linter.unusedVariables false
set_option linter.unusedSimpArgs false
set_option maxRecDepth 100000
namespace Go.Proofs.Ytehneliphhgegaa
open Go.RowKit Go.Apo

section
variable {P : Program} {w : World}
/-- 'append(v, xs...)', v whatever with no room: a new row, as a block -/
theorem run_append_newB (t ty e : TypeId) (z : Value) (size bytes : Nat) (ht : P.underlying t = some (.slice e)) (hinfo : (P.info? e).map (fun i => (i.zero, i.size, i.bytes)) = some (some z, size, bytes))
    (hzs : z.cells.size = size) (hsz : 0 < size) (A0 : Option Addr) (n c0 : Nat) (xs : List Value) (hlx : xs.length = n * size) (hfx : Flat w A0 xs) (hA0 : A0 = none → n = 0 ∧ c0 = 0)
    (A : Option Addr) (m c : Nat) (hnc : c0 < n + m) (news : List Value) (hl : news.length = m * size) (hf : Flat w A news)
    (h63 : n + m ≤ maxLen) (hbytes : (n + m) * bytes ≤ 140737488355328) (hm : 0 < m) :
    ∃ g c' w' cs, (Builtin.append_ #[t, t] ty #[.slice A0 n c0, .slice A m c]).run P w = .ok (.slice (some ⟨g, 0, none⟩) (n + m) c') w' ∧ w.heap.size ≤ g ∧ Blk w' g cs e ∧ cs.toList.take ((n + m) * size) = xs ++ news ∧ Below w.heap.size w w' ∧ n + m ≤ c' := by
  obtain ⟨i, hi, hii⟩ := Option.map_eq_some_iff.1 hinfo
  simp only [Prod.mk.injEq] at hii
  obtain ⟨i1, i2, i3⟩ := hii
  obtain ⟨b, off, rfl, hc⟩ := hf (by rw [hl]; exact Nat.mul_pos hm hsz)
  have hfit : Builtin.nextslicecap (n + m) c0 * i.bytes ≤ 281474976710656 := by rw [i3]; exact growslice_fits hnc hbytes
  have h63' : ((n + m : Nat) : Int) ≤ 9223372036854775807 := by unfold maxLen at h63; omega
  have fin : ∀ (cs : Array Value), Below w.heap.size w (w.drew.alloc (.cells cs e)) := fun cs => (bel_dr (Below.refl _ w)).alloc (Nat.le_refl _) _
  cases A0 with
  | none =>
    obtain ⟨rfl, rfl⟩ := hA0 rfl
    have hx0 : xs = [] := List.eq_nil_of_length_eq_zero (by simpa using hlx)
    subst hx0
    have hr := run_append_nil (P := P) w t ty e i z ht hi i1 ⟨b, off, none⟩ m c news (by rw [hl, i2]) (fun j u hj => by rw [add_pl']; exact hc j u hj) hm (by unfold maxLen at h63; omega) (by rw [i3]; rw [Nat.zero_add] at hbytes; omega)
    refine ⟨w.heap.size, _, _, _, by simpa using hr, Nat.le_refl _, blk_new w.drew _ e, ?_, fin _, by rw [Nat.zero_add]; exact grownCap_ge _ _ _ _⟩
    simp only [Array.toList_append, List.nil_append]
    rw [List.take_append_of_le_length (by simp [hl]), List.take_of_length_le (by simp [hl])]
  | some a0 =>
    have hfx' : ∀ j u, xs[j]? = some u → w.cell? (a0.add j) = some u := fun j u hj => by
      obtain ⟨b', o', e', hc'⟩ := hfx.at_ hj
      cases e'
      rw [add_pl']; exact hc'
    have hr := run_append_grow (P := P) w t ty e i z ht hi i1 a0 n c0 xs (by rw [hlx, i2]) hfx' ⟨b, off, none⟩ m c news (by rw [hl, i2]) (fun j u hj => by rw [add_pl']; exact hc j u hj) hnc h63' hfit
    refine ⟨w.heap.size, _, _, _, hr, Nat.le_refl _, blk_new w.drew _ e, ?_, fin _, grownCap_ge _ _ _ _⟩
    simp only [Array.toList_append]
    rw [List.take_append_of_le_length (by simp [hl, hlx, Nat.add_mul]), List.take_of_length_le (by simp [hl, hlx, Nat.add_mul])]
/-- .. nothing: the slice as it was -/
theorem run_append_none (t ty e : TypeId) (z : Value) (size bytes : Nat) (ht : P.underlying t = some (.slice e)) (hinfo : (P.info? e).map (fun i => (i.zero, i.size, i.bytes)) = some (some z, size, bytes)) (A A' : Option Addr) (n c c' : Nat) (hnc : n ≤ c) :
    (Builtin.append_ #[t, t] ty #[.slice A n c, .slice A' 0 c']).run P w = .ok (.slice A n c) w := by
  obtain ⟨i, hi, hii⟩ := Option.map_eq_some_iff.1 hinfo
  cases A <;> cases A' <;> simp [Builtin.append_, run_underlying ht, sizeOf, typeInfo, hi, Builtin.lenOf, Builtin.firstCells, hnc, storeCells, loadCells, loadCellsFrom]
end
def RRow (B : Nat) (w : World) (A : Option Addr) (R : List RefD) : Prop := R ≠ [] → ∃ g cs, A = some ⟨g, 0, none⟩ ∧ B ≤ g ∧ Blk w g cs 26 ∧ cs.toList.take (3 * R.length) = refCells R
theorem RRow.below {B : Nat} {w w' : World} {A : Option Addr} {R : List RefD} (h : RRow B w A R) (hb : Below w.heap.size w w') : RRow B w' A R := fun hR => by
  obtain ⟨g, cs, e, hg, hB, ht⟩ := h hR
  exact ⟨g, cs, e, hg, hB.below hb, ht⟩
theorem RRow.flat {B : Nat} {w : World} {A : Option Addr} {R : List RefD} (h : RRow B w A R) : Flat w A (refCells R) := fun h0 => by
  have hR : R ≠ [] := by rintro rfl; exact absurd h0 (by decide)
  obtain ⟨g, cs, e, _, hB, ht⟩ := h hR
  refine ⟨g, 0, e, fun j u hj => ?_⟩
  rw [Nat.zero_add]
  rw [← ht, List.getElem?_take] at hj
  split at hj
  · rw [Array.getElem?_toList] at hj
    exact hB.cell hj
  · cases hj
theorem refCells_app (a b : List RefD) : refCells (a ++ b) = refCells a ++ refCells b := by unfold refCells; rw [List.flatMap_append]
theorem refCells_take (R : List RefD) (j : Nat) : refCells (R.take j) = (refCells R).take (j * 3) := by
  induction R generalizing j with
  | nil => simp [refCells]
  | cons a R ih =>
    have e : ∀ l, refCells (a :: l) = refC a ++ refCells l := fun l => rfl
    cases j with
    | zero => simp [refCells]
    | succ j =>
      have e3 : (refC a).length = 3 := rfl
      rw [List.take_succ_cons, e, e, ih, List.take_append, e3, List.take_of_length_le (l := refC a) (by rw [e3]; omega), show (j + 1) * 3 - 3 = j * 3 by omega]
theorem refCells_drop (R : List RefD) (j : Nat) : refCells (R.drop j) = (refCells R).drop (j * 3) := by
  induction R generalizing j with
  | nil => simp [refCells]
  | cons a R ih =>
    have e : ∀ l, refCells (a :: l) = refC a ++ refCells l := fun l => rfl
    cases j with
    | zero => simp
    | succ j =>
      have e3 : (refC a).length = 3 := rfl
      rw [List.drop_succ_cons, e, ih, List.drop_append, e3, List.drop_of_length_le (l := refC a) (by rw [e3]; omega), show (j + 1) * 3 - 3 = j * 3 by omega]
      rfl
theorem refs_one (l : List RefD) : ∀ u ∈ refCells l, u.oneCell' = true := by
  intro u hu
  obtain ⟨r, _, hr⟩ := List.mem_flatMap.1 hu
  exact ref_one r u hr
theorem flat_dropR {w : World} {A : Option Addr} {R : List RefD} (h : Flat w A (refCells R)) (j : Nat) (A2 : Option Addr) (hA2 : ∀ b off, A = some ⟨b, off, none⟩ → j < R.length → A2 = some ⟨b, off + j * 3, none⟩) : Flat w A2 (refCells (R.drop j)) := by
  rw [refCells_drop]
  intro h0
  rw [List.length_drop, refCells_len] at h0
  obtain ⟨b, off, e, hcc⟩ := h (by rw [refCells_len]; omega)
  refine ⟨b, off + j * 3, hA2 b off e (by omega), fun q u hq => ?_⟩
  rw [List.getElem?_drop] at hq
  have := hcc _ u hq
  rwa [← Nat.add_assoc] at this
theorem flat_takeR {w : World} {A : Option Addr} {R : List RefD} (h : Flat w A (refCells R)) (j : Nat) : Flat w A (refCells (R.take j)) := by
  rw [refCells_take]
  intro h0
  rw [List.length_take] at h0
  obtain ⟨b, off, e, hcc⟩ := h (by omega)
  refine ⟨b, off, e, fun q u hq => hcc q u ?_⟩
  rw [List.getElem?_take] at hq
  split at hq
  · exact hq
  · cases hq
/-- a ref is set in between the others: the two appends -/
theorem ins_runsR (B : Nat) (wr : World) (R : List RefD) (A : Option Addr) (k : Nat) (hrow : RRow B wr A R) (hA : A = none → R = [] ∧ k = 0) (j : Nat) (hj : j ≤ R.length) (hR : R.length ≤ 100000) (c : RefD)
    (A2 : Option Addr) (hA2 : ∀ b off, A = some ⟨b, off, none⟩ → j < R.length → A2 = some ⟨b, off + j * 3, none⟩) :
    ∃ u w2 g q w3 cs, (Builtin.append_ #[22, 22] 22 #[.slice (some ⟨wr.heap.size, 0, none⟩) 1 1, .slice A2 (R.length - j) (k - j)]).run Try.prog (wr.drew.alloc (.cells #[.string c.name, .bool c.tag, .int .u64 c.id] 26)) = .ok u w2 ∧
      (Builtin.append_ #[22, 22] 22 #[.slice A j j, u]).run Try.prog w2 = .ok (.slice (some ⟨g, 0, none⟩) (R.length + 1) q) w3 ∧ Below wr.heap.size wr w2 ∧ Below wr.heap.size wr w3 ∧ wr.heap.size ≤ g ∧ Blk w3 g cs 26 ∧ cs.toList.take (3 * (R.length + 1)) = refCells (R.take j ++ [c] ++ R.drop j) ∧ R.length + 1 ≤ q := by
  have hfl := hrow.flat
  have hb1 : Below wr.heap.size wr (wr.drew.alloc (.cells #[.string c.name, .bool c.tag, .int .u64 c.id] 26)) := (bel_dr (Below.refl _ wr)).alloc (Nat.le_refl _) _
  have hown := World.ownsRow_lit (base := wr.heap.size) (e := 26) (size := 3) wr.drew #[.string c.name, .bool c.tag, .int .u64 c.id] 1 (Nat.le_refl _) (by unfold maxLen; omega) rfl
  have hld : (refCells (R.drop j)).length = (R.length - j) * 3 := by rw [refCells_len, List.length_drop]; omega
  have hlt : (refCells (R.take j)).length = j * 3 := by rw [refCells_len, List.length_take]; omega
  obtain ⟨u, w2, r1, r2, r3, r4⟩ := run_append_flat (P := Try.prog) (w := wr.drew.alloc (.cells #[.string c.name, .bool c.tag, .int .u64 c.id] 26)) wr.heap.size 22 22 26 _ 3 32 Try.underlying22 infoRef rfl (by decide) _ 1 _ hown A2 (R.length - j) (k - j) (refCells (R.drop j)) hld ((flat_dropR hfl j A2 hA2).below hb1) (refs_one _) (by unfold maxLen; omega) (by omega) hb1.size
  have hb2 : Below wr.heap.size wr w2 := hb1.grown r3 hb1.size (fun kk hk => (hown.lt kk hk).1)
  obtain ⟨A3, c3, rfl, hc3⟩ := own_form r2
  obtain ⟨g, q, w3, cs, s1, s2, s3, s4, s5, s6⟩ := run_append_newB (P := Try.prog) (w := w2) 22 22 26 _ 3 32 Try.underlying22 infoRef rfl (by decide) A j j (refCells (R.take j)) hlt ((flat_takeR hfl j).below hb2) (fun e => by have := (hA e).1; subst this; simp at hj; exact ⟨hj, hj⟩) A3 (1 + (R.length - j)) c3 (by omega) (#[.string c.name, .bool c.tag, .int .u64 c.id].toList ++ refCells (R.drop j)) (by rw [List.length_append, hld]; simp; omega) (own_flat r2) (by unfold maxLen; omega) (by omega) (by omega)
  have hb3 : Below wr.heap.size wr w3 := bel_tr hb2 s5
  have e1 : j + (1 + (R.length - j)) = R.length + 1 := by omega
  rw [e1] at s1 s4 s6
  refine ⟨_, w2, g, q, w3, cs, r1, s1, hb2, hb3, Nat.le_trans hb2.size s2, s3, ?_, s6⟩
  rw [Nat.mul_comm, s4, refCells_app, refCells_app, List.append_assoc]
  rfl
end Go.Proofs.Ytehneliphhgegaa
