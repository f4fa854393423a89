/- Commits without parents: walked once. -/
import Derived.Test.YtehneliphhgegaaHeads
set_option linter.unusedVariables false
set_option linter.unusedSimpArgs false
set_option maxRecDepth 100000
namespace Go.Proofs.Ytehneliphhgegaa
open Go.RowKit Go.Apo Go.Shelf

/-- the closure of Roots -/
theorem roots1_calls (w : World) (B p m : Nat) (L : List (Int × CommitD)) (hc : w.cell? ⟨B, 0, none⟩ = some (.pointer (some ⟨p, 0, none⟩))) (h : GraphAt w p m L) (hO : LOk L) (x : Int) :
    Calls Try.prog 90 #[.int .u64 x, .pointer (some ⟨B, 0, none⟩)] w fun e w' => e = .returned (.bool (!(gGet L x).par.isEmpty)) ∧ Below w.heap.size w w' := by
  have HGE := Lib.hid (gget_calls p m w L h x)
  obtain ⟨c, hc'⟩ : ∃ c, c = gGet L x := ⟨_, rfl⟩
  unfold GetOwn at HGE
  rw [← hc'] at HGE ⊢
  clear hc' h hO
  obtain ⟨b, hb⟩ : ∃ b, b = !c.par.isEmpty := ⟨_, rfl⟩
  have hb2 : decide ((0 : Int) < (c.par.length : Int)) = b := by
    rw [hb]
    cases c.par <;> simp
  rw [← hb]
  obtain ⟨np, hnp⟩ : ∃ np, np = c.par.length := ⟨_, rfl⟩
  rw [← hnp] at HGE hb2
  have HB2 := Lib.hid hb2
  clear hb hnp hb2
  have hlt := cell_lt hc
  go_enter Try.func90, Try.ntmps90
  go_wp2_with (go_at_call 44; refine HGE.out.mono ?_; rintro e w5 ⟨A5, k5, rfl, ho5, hb5⟩; clear ho5)
  go_ret
  refine ⟨?_, by (repeat (first | (with_reducible exact Below.refl _ _) | (with_reducible assumption) | (with_reducible refine bel_al0 ?_ _) | (with_reducible refine bel_set ?_ (by first | (simp; done) | (simp; omega)) _) | (with_reducible refine bel_dr ?_) | (with_reducible refine bel_drn ?_ _) | (with_reducible refine bel_tr ?_ (by assumption))))⟩
  rw [← HB2.out]
  simp

theorem roots_calls (w : World) (p m : Nat) (L : List (Int × CommitD)) (h : GraphAt w p m L) (hO : LOk L) (hL : L.length ≤ 100000) (hw : numsIn (mkeys L)) :
    Calls Try.prog 54 #[.pointer (some ⟨p, 0, none⟩)] w (NumsOwn w ((sortI (mkeys L)).filter fun k => (gGet L k).par.isEmpty)) := by
  have hnl : (sortI (mkeys L)).length ≤ 100000 := by rw [sortI_len]; simpa [mkeys] using hL
  obtain ⟨A1, hA1⟩ : ∃ A1, A1 = w.alloc (.cells #[.pointer (some ⟨p, 0, none⟩)] 42) := ⟨_, rfl⟩
  have hb1 : Below w.heap.size w (w.alloc (.cells #[.pointer (some ⟨p, 0, none⟩)] 42)) := by (repeat (first | (with_reducible exact Below.refl _ _) | (with_reducible assumption) | (with_reducible refine bel_al0 ?_ _) | (with_reducible refine bel_set ?_ (by first | (simp; done) | (simp; omega)) _) | (with_reducible refine bel_dr ?_) | (with_reducible refine bel_drn ?_ _) | (with_reducible refine bel_tr ?_ (by assumption))))
  have hb2 : Below w.heap.size w ((w.alloc (.cells #[.pointer (some ⟨p, 0, none⟩)] 42)).alloc (.cells #[.pointer (some ⟨p, 0, none⟩)] 42)) := by (repeat (first | (with_reducible exact Below.refl _ _) | (with_reducible assumption) | (with_reducible refine bel_al0 ?_ _) | (with_reducible refine bel_set ?_ (by first | (simp; done) | (simp; omega)) _) | (with_reducible refine bel_dr ?_) | (with_reducible refine bel_drn ?_ _) | (with_reducible refine bel_tr ?_ (by assumption))))
  have c1 : ((w.alloc (.cells #[.pointer (some ⟨p, 0, none⟩)] 42)).alloc (.cells #[.pointer (some ⟨p, 0, none⟩)] 42)).cell? ⟨w.heap.size, 0, none⟩ = some (.pointer (some ⟨p, 0, none⟩)) := cell_al (cell_at_new w _ _ 0 rfl) _
  have c2 : ((w.alloc (.cells #[.pointer (some ⟨p, 0, none⟩)] 42)).alloc (.cells #[.pointer (some ⟨p, 0, none⟩)] 42)).cell? ⟨w.heap.size + 1, 0, none⟩ = some (.pointer (some ⟨p, 0, none⟩)) := by
    have := cell_at_new (w.alloc (.cells #[.pointer (some ⟨p, 0, none⟩)] 42)) #[.pointer (some ⟨p, 0, none⟩)] 42 0 (v := .pointer (some ⟨p, 0, none⟩)) rfl
    rw [World.size_alloc] at this
    exact this
  obtain ⟨W1, hW1⟩ : ∃ W1, W1 = (w.alloc (.cells #[.pointer (some ⟨p, 0, none⟩)] 42)).alloc (.cells #[.pointer (some ⟨p, 0, none⟩)] 42) := ⟨_, rfl⟩
  rw [← hW1] at hb2 c1 c2
  have hg1 := h.below hb2
  have HC := Lib.hid (collect_calls W1 (w.heap.size + 1) p m L c2 hg1 (by omega) hw)
  have HP : Hid (Pred W1 W1.heap.size 90 #[.pointer (some ⟨w.heap.size, 0, none⟩)] (fun x => !(gGet L x).par.isEmpty)) := fun W2 hW2 x => roots1_calls W2 w.heap.size p m L (cell_bel c1 hW2) (hg1.below hW2) hO x
  have hfe : ((sortI (mkeys L)).filter fun k => (gGet L k).par.isEmpty) = (sortI (mkeys L)).filter fun x => !(fun x => !(gGet L x).par.isEmpty) x := by simp
  rw [hfe]
  obtain ⟨pr, hpr⟩ : ∃ pr : Int → Bool, pr = fun x => !(gGet L x).par.isEmpty := ⟨_, rfl⟩
  rw [← hpr] at HP ⊢
  clear hpr hfe h hO c1 c2 hg1
  obtain ⟨S, hS⟩ : ∃ S, S = sortI (mkeys L) := ⟨_, rfl⟩
  rw [← hS] at HC hnl ⊢
  clear hS
  have hbs := hb2.size
  have HB2 := Lib.hid hb2; clear hb2 hb1
  subst hW1
  unfold NumsOwn at HC ⊢
  go_enter Try.func54, Try.ntmps54
  go_wp2_with (first | (go_at_call 84; refine (idsF_calls _ _).mono ?_; rintro e w' ⟨rfl, rfl⟩) | (go_at_call 88; refine HC.out.mono ?_; rintro e w5 ⟨v5, rfl, ho5, hb5⟩) | (go_at_call 87; refine (delete_own _ w5 _ (Nat.le_refl _) hb5 hb5.size 90 #[.pointer (some ⟨w.heap.size, 0, none⟩)] (enters_of Try.func90 (by kernel_rfl) rfl) pr HP.out v5 S.length S rfl ho5 hnl).mono ?_; rintro e w6 ⟨v6, rfl, ho6, hb6⟩))
  go_ret
  exact ⟨v6, rfl, own_mono ho6 hbs, HB2.out.trans (hb6.mono hbs)⟩
end Go.Proofs.Ytehneliphhgegaa
