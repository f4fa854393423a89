/- command.Word, the chapter's example: walked once. -/
import Derived.Test.YtehneliphhgegaaDoorDCRef
import Derived.Laws.Tables
set_option linter.unusedVariables false
set_option linter.unusedSimpArgs false
set_option maxRecDepth 100000
namespace Go.Proofs.YtehneliphhgegaaDoor
open Go.RowKit Go.Apo

def wordN : Nat → ByteArray
  | 1 => ⟨#[112, 117, 116]⟩
  | 2 => ⟨#[100, 101, 108]⟩
  | 3 => ⟨#[103, 101, 116]⟩
  | 4 => ⟨#[115, 99, 97, 110]⟩
  | 5 => ⟨#[99, 111, 109, 109, 105, 116]⟩
  | 6 => ⟨#[98, 114, 97, 110, 99, 104]⟩
  | 7 => ⟨#[116, 97, 103]⟩
  | 8 => ⟨#[100, 114, 111, 112]⟩
  | 9 => ⟨#[115, 119, 105, 116, 99, 104]⟩
  | 10 => ⟨#[114, 101, 115, 101, 116]⟩
  | 11 => ⟨#[109, 101, 114, 103, 101]⟩
  | 12 => ⟨#[114, 101, 115, 111, 108, 118, 101]⟩
  | 13 => ⟨#[97, 98, 111, 114, 116]⟩
  | 14 => ⟨#[112, 105, 99, 107]⟩
  | 15 => ⟨#[114, 101, 118, 101, 114, 116]⟩
  | 16 => ⟨#[100, 105, 102, 102]⟩
  | 17 => ⟨#[108, 111, 103]⟩
  | 18 => ⟨#[98, 97, 115, 101]⟩
  | 19 => ⟨#[103, 99]⟩
  | 20 => ⟨#[115, 116, 97, 116, 117, 115]⟩
  | _ => ⟨#[]⟩
def wordB (a : Int) : ByteArray := wordN a.toNat
theorem wordN_inj_fin : ∀ i j : Fin 21, 1 ≤ i.val → ((wordN i.val).data.toList == (wordN j.val).data.toList) = decide (i.val = j.val) := by decide +kernel
theorem wordB_out {a : Int} (h : a < 1 ∨ 20 < a) : wordB a = ⟨#[]⟩ := by
  unfold wordB
  rcases h with h | h
  · have : a.toNat = 0 := by omega
    rw [this]; rfl
  · obtain ⟨k, hk⟩ : ∃ k, a.toNat = k + 21 := ⟨a.toNat - 21, by omega⟩
    rw [hk]; rfl
theorem wordB_beq {a b : Int} (h1 : 1 ≤ a) (h2 : a ≤ 20) : ((wordB a).toList == (wordB b).toList) = decide (a = b) := by
  rw [text_beq]
  by_cases hb : b < 1 ∨ 20 < b
  · rw [wordB_out hb]
    have h3 := wordN_inj_fin ⟨a.toNat, by omega⟩ 0 (by show 1 ≤ a.toNat; omega)
    have h4 : decide (a.toNat = 0) = false := by simp; omega
    have h5 : decide (a = b) = false := by simp; omega
    rw [h5]
    simp only [decide_eq_false_iff_not]
    intro e
    unfold wordB at e
    rw [show ((0 : Fin 21).val) = 0 from rfl, h4, e] at h3
    cases h3
  · have h3 := wordN_inj_fin ⟨a.toNat, by omega⟩ ⟨b.toNat, by omega⟩ (by show 1 ≤ a.toNat; omega)
    simp only at h3
    rw [Bool.eq_iff_iff] at h3 ⊢
    simp only [beq_iff_eq, decide_eq_true_eq] at h3 ⊢
    constructor
    · intro e
      have := h3.1 (by unfold wordB at e; rw [e])
      omega
    · intro e; subst e; rfl
def wordsA : Array Value := #[.string ⟨#[]⟩, .string ⟨#[112, 117, 116]⟩, .string ⟨#[100, 101, 108]⟩, .string ⟨#[103, 101, 116]⟩, .string ⟨#[115, 99, 97, 110]⟩, .string ⟨#[99, 111, 109, 109, 105, 116]⟩, .string ⟨#[98, 114, 97, 110, 99, 104]⟩, .string ⟨#[116, 97, 103]⟩, .string ⟨#[100, 114, 111, 112]⟩, .string ⟨#[115, 119, 105, 116, 99, 104]⟩, .string ⟨#[114, 101, 115, 101, 116]⟩, .string ⟨#[109, 101, 114, 103, 101]⟩, .string ⟨#[114, 101, 115, 111, 108, 118, 101]⟩, .string ⟨#[97, 98, 111, 114, 116]⟩, .string ⟨#[112, 105, 99, 107]⟩, .string ⟨#[114, 101, 118, 101, 114, 116]⟩, .string ⟨#[100, 105, 102, 102]⟩, .string ⟨#[108, 111, 103]⟩, .string ⟨#[98, 97, 115, 101]⟩, .string ⟨#[103, 99]⟩, .string ⟨#[115, 116, 97, 116, 117, 115]⟩]
theorem words_at (n : Nat) (h1 : 1 ≤ n) (h2 : n ≤ 20) : wordsA[n]? = some (.string (wordN n)) := by
  have hc : n = 1 ∨ n = 2 ∨ n = 3 ∨ n = 4 ∨ n = 5 ∨ n = 6 ∨ n = 7 ∨ n = 8 ∨ n = 9 ∨ n = 10 ∨ n = 11 ∨ n = 12 ∨ n = 13 ∨ n = 14 ∨ n = 15 ∨ n = 16 ∨ n = 17 ∨ n = 18 ∨ n = 19 ∨ n = 20 := by omega
  rcases hc with rfl | rfl | rfl | rfl | rfl | rfl | rfl | rfl | rfl | rfl | rfl | rfl | rfl | rfl | rfl | rfl | rfl | rfl | rfl | rfl <;> rfl
section
variable {P : Program} {ops : Array Oper} {rest : List Oper} {o : Oper} {a : Act} {w : World} {Q : Exit → Act → World → Prop}
theorem wpl_build_eq (hg : o.guard = none) (t : TypeId) (parts : Array (Nat × Operand)) (ho : o.op = .build t parts) (cells : Array Value)
    (hf : P.built t (parts.map fun (i, x) => (i, a.eval x)).toList = some cells)
    (h : wpList P ops Q rest (a.put o.dst (.agg cells)) w) : wpList P ops Q (o :: rest) a w :=
  wpList_build hg t parts ho (by rw [hf]; rfl) (by rw [hf]; exact h)
theorem setRow_alloc (w : World) (old cs : Array Value) (t : TypeId) : (w.alloc (.cells old t)).setRow w.heap.size cs = w.alloc (.cells cs t) := by
  unfold World.setRow World.alloc
  simp only
  congr 1
  apply Array.ext
  · simp
  · intro k h1 h2
    rw [Array.getElem_modify]
    by_cases hk : w.heap.size = k
    · subst hk; simp
    · rw [if_neg hk]
      have hkl : k < w.heap.size := by simp at h2; omega
      rw [Array.getElem_push_lt hkl, Array.getElem_push_lt hkl]
theorem wpl_store_new (hgd : o.guard = none) (ty : TypeId) (x y : Operand) (ho : o.op = .store ty x y) (w0 : World) (old cells : Array Value) (t : TypeId) (hw : w = w0.alloc (.cells old t))
    (hx : a.eval x = .pointer (some ⟨w0.heap.size, 0, none⟩)) (hy : a.eval y = .agg cells) (hi : (P.info? ty).map (·.size) = some cells.size)
    (hold : old.size = cells.size) (h1 : cells.all (·.oneCell') = true)
    (h : wpList P ops Q rest (a.put o.dst undef) (w0.alloc (.cells cells t))) : wpList P ops Q (o :: rest) a w := by
  subst hw
  refine wpList_store_row hgd ty x y ho w0.heap.size cells hx hy t old (MapKept.heap_alloc w0 _).1 hi hold h1 ?_
  rw [setRow_alloc]
  exact h
end
/-- what the words' table leaves, whatever the number -/
theorem word_calls (a : Int) (w : World) :
    Calls Tryd.prog 15 #[.int .i64 a] w fun e w' => e = .returned (.string (wordB a)) ∧ Below w.heap.size w w' := by
  have hb1 : Below w.heap.size w (w.alloc (.cells wordsA 74)) := by (repeat (first | (with_reducible exact Below.refl _ _) | (with_reducible assumption) | (with_reducible refine bel_al0 ?_ _) | (with_reducible refine bel_set ?_ (by first | (simp; done) | (simp; omega)) _) | (with_reducible refine bel_dr ?_) | (with_reducible refine bel_drn ?_ _) | (with_reducible refine bel_tr ?_ (by assumption))))
  have hcell : ∀ n : Nat, a = n → 1 ≤ n → n ≤ 20 → (w.alloc (.cells wordsA 74)).cell? ⟨w.heap.size, n, none⟩ = some (.string (wordN n)) := fun n _ h1 h2 => cell_at_new w wordsA 74 n (words_at n h1 h2)
  have HC := Lib.hid hcell; clear hcell
  by_cases h1 : a < 1
  · rw [wordB_out (Or.inl h1)]
    go_enter Tryd.func15, Tryd.ntmps15
    go_wp2_with (first | (refine wpl_build_eq rfl 74 _ rfl wordsA (by kernel_rfl) ?_) | (refine wpl_store_new rfl 74 _ _ rfl w _ wordsA 74 rfl rfl rfl (by kernel_rfl) (by kernel_rfl) (by kernel_rfl) ?_))
    go_ret
    exact ⟨rfl, hb1⟩
  · by_cases h2 : 20 < a
    · rw [wordB_out (Or.inr h2)]
      have g1 : decide (a < 1) = false := by simpa using h1
      go_enter Tryd.func15, Tryd.ntmps15
      go_wp2_with (first | (refine wpl_build_eq rfl 74 _ rfl wordsA (by kernel_rfl) ?_) | (refine wpl_store_new rfl 74 _ _ rfl w _ wordsA 74 rfl rfl rfl (by kernel_rfl) (by kernel_rfl) (by kernel_rfl) ?_))
      go_ret
      exact ⟨rfl, hb1⟩
    · obtain ⟨n, rfl⟩ : ∃ n : Nat, a = n := ⟨a.toNat, by omega⟩
      have hcell := HC.out n rfl (by omega) (by omega)
      have g1 : decide ((n : Int) < 1) = false := by simpa using h1
      have g2 : decide ((20 : Int) < (n : Int)) = false := by simpa using h2
      have hlt : (n : Int) < 21 := by omega
      have e : wordB (n : Int) = wordN n := rfl
      rw [e]
      clear e HC
      obtain ⟨x, hx⟩ : ∃ x, x = wordN n := ⟨_, rfl⟩
      rw [← hx] at hcell ⊢
      clear hx
      go_enter Tryd.func15, Tryd.ntmps15
      go_wp2_with (first | (refine wpl_build_eq rfl 74 _ rfl wordsA (by kernel_rfl) ?_) | (refine wpl_store_new rfl 74 _ _ rfl w _ wordsA 74 rfl rfl rfl (by kernel_rfl) (by kernel_rfl) (by kernel_rfl) ?_))
      go_ret
      exact ⟨rfl, hb1⟩
theorem ref_ex7 : refV ⟨#[64, 55]⟩ = (⟨#[]⟩, 7, true) := by
  have h1 : nameB ⟨#[64, 55]⟩ = false := by decide +kernel
  have h2 : byteAt ⟨#[64, 55]⟩ 0 = 64 := by decide +kernel
  have h3 : tailS ⟨#[64, 55]⟩ = ⟨#[55]⟩ := by decide +kernel
  refine ref_yes h1 (by omega) (by decide) h2 ?_
  rw [h3]
  unfold numV
  have h4 : numRun (⟨#[55]⟩ : ByteArray).data.toList 0 = some 7 := by decide +kernel
  rw [h4]
  show ((7 : Nat), decide (dec 7 = ⟨#[55]⟩)) = _
  rw [dec_small (by omega)]
  decide +kernel
theorem ref_ex07 : refV ⟨#[64, 48, 55]⟩ = refBad := by
  have h1 : nameB ⟨#[64, 48, 55]⟩ = false := by decide +kernel
  have h3 : tailS ⟨#[64, 48, 55]⟩ = ⟨#[48, 55]⟩ := by decide +kernel
  refine ref_no h1 ?_
  rintro ⟨u, _, _, _, h⟩
  rw [h3] at h
  unfold numV at h
  have h4 : numRun (⟨#[48, 55]⟩ : ByteArray).data.toList 0 = some 7 := by decide +kernel
  rw [h4] at h
  have h5 : ((7 : Nat), decide (dec 7 = ⟨#[48, 55]⟩)) = (u, true) := h
  rw [dec_small (by omega)] at h5
  simp only [Prod.mk.injEq, decide_eq_true_eq] at h5
  have h6 : (⟨#[UInt8.ofNat (48 + 7)]⟩ : ByteArray) ≠ ⟨#[48, 55]⟩ := by decide +kernel
  exact h6 h5.2
theorem awake19_calls (w : World) (hv : VarsOk w) :
    Calls Tryd.prog 12 #[] w fun e w' => e = .returned (.bool true) ∧ Below w.heap.size w w' := by
  have HA := Lib.hid (cref_calls ⟨#[64, 55]⟩ (by decide) w hv)
  have HB := Lib.hid (fun W (hW : Below w.heap.size w W) => cref_calls ⟨#[64, 48, 55]⟩ (by decide) W (hv.below hW))
  have HW := Lib.hid (fun W => word_calls 19 W)
  rw [ref_ex7] at HA
  rw [ref_ex07] at HB
  have e19 : wordB 19 = ⟨#[103, 99]⟩ := rfl
  rw [e19] at HW
  unfold refT at HA HB
  unfold refBad at HB
  clear e19 hv
  go_enter Tryd.func12, Tryd.ntmps12
  go_wp2_with (first | (go_at_call 13; refine HA.out.mono ?_; clear HA; rintro e w1 ⟨rfl, hb1⟩) | (go_at_call 13; refine (HB.out _ hb1).mono ?_; rintro e w2 ⟨rfl, hb2⟩) | (go_at_call 15; refine (HW.out _).mono ?_; rintro e w3 ⟨rfl, hb3⟩))
  go_ret
  exact ⟨rfl, bel_tr (bel_tr hb1 hb2) hb3⟩
end Go.Proofs.YtehneliphhgegaaDoor
