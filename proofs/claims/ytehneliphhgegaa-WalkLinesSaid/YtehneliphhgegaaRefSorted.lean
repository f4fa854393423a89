/- The document's Sorted: walked once. -/
import Derived.Test.YtehneliphhgegaaRefLine
import Derived.Test.YtehneliphhgegaaTopoAll
import Derived.Deep.CutBlock
import Derived.IntWalk
set_option linter.unusedVariables false
set_option linter.unusedSimpArgs false
set_option maxRecDepth 100000
namespace Go.Proofs.Ytehneliphhgegaa
open Go.RowKit Go.Apo

/-- in which order two may stand -/
def ordS (least : Bool) (a b : CommitD) : Prop := if least then ltQ b a = false else ltQ a b = false
/-- c goes ahead of o -/
def goesS (least : Bool) (c o : CommitD) : Bool := ltQ o c != least
def RSortPost (w : World) (least : Bool) (l : List CommitD) (r : Ending) (w' : World) : Prop :=
  ∃ A k cs, r = .returned (.slice A cs.length k) ∧ CRow w' A cs ∧ (A = none → cs = [] ∧ k = 0) ∧ cs.length ≤ k ∧ cs.Perm l ∧ cs.Pairwise (ordS least) ∧ Below w.heap.size w w'
theorem ordS_trans {least : Bool} {a b c : CommitD} (h : ordS least a b) (k : ordS least b c) : ordS least a c := by
  unfold ordS at *
  cases least <;> simp only [if_true, Bool.false_eq_true, if_false] at * <;> rw [ltQ_no] at * <;> omega
theorem ins_sorted {least : Bool} {c : CommitD} {l : List CommitD} {i : Nat} (hl : l.Pairwise (ordS least)) (hi : i ≤ l.length) (h1 : ∀ q o, i ≤ q → l[q]? = some o → goesS least c o = true) (h2 : ∀ o, 0 < i → l[i - 1]? = some o → goesS least c o = false) :
    (l.take i ++ [c] ++ l.drop i).Pairwise (ordS least) := by
  have ha : ∀ o, goesS least c o = true → ordS least c o := fun o h => by
    unfold goesS at h; unfold ordS
    cases least
    · simp only [Bool.bne_false] at h
      simp only [Bool.false_eq_true, if_false]
      rw [ltQ_iff] at h; rw [ltQ_no]; omega
    · simp only [Bool.bne_true, Bool.not_eq_true'] at h
      simpa using h
  have hb : ∀ o, goesS least c o = false → ordS least o c := fun o h => by
    unfold goesS at h; unfold ordS
    cases least
    · simp only [Bool.bne_false] at h
      simpa using h
    · simp only [Bool.bne_true, Bool.not_eq_false'] at h
      simp only [if_true]
      rw [ltQ_iff] at h; rw [ltQ_no]; omega
  have hpre : ∀ a ∈ l.take i, ordS least a c := fun a ha' => by
    obtain ⟨q, hq⟩ := List.mem_iff_getElem?.1 ha'
    have hqi : q < i := by have := (List.getElem?_eq_some_iff.1 hq).1; rw [List.length_take] at this; omega
    rw [List.getElem?_take_of_lt hqi] at hq
    obtain ⟨o, ho⟩ : ∃ o, l[i - 1]? = some o := ⟨_, List.getElem?_eq_getElem (by omega)⟩
    have h3 := hb o (h2 o (by omega) ho)
    rcases Nat.lt_or_ge q (i - 1) with h' | h'
    · obtain ⟨p1, p2⟩ := List.getElem?_eq_some_iff.1 hq
      obtain ⟨p3, p4⟩ := List.getElem?_eq_some_iff.1 ho
      have := List.pairwise_iff_getElem.1 hl q (i - 1) p1 p3 h'
      rw [p2, p4] at this
      exact ordS_trans this h3
    · have : q = i - 1 := by omega
      subst this
      rw [ho] at hq; cases hq
      exact h3
  have hpost : ∀ b ∈ l.drop i, ordS least c b := fun b hb' => by
    obtain ⟨q, hq⟩ := List.mem_iff_getElem?.1 hb'
    rw [List.getElem?_drop] at hq
    exact ha b (h1 (i + q) b (by omega) hq)
  rw [List.pairwise_append, List.pairwise_append]
  refine ⟨⟨hl.sublist (List.take_sublist _ _), List.pairwise_singleton _ _, fun a h3 b h4 => by rw [List.mem_singleton] at h4; subst h4; exact hpre a h3⟩, hl.sublist (List.drop_sublist _ _), fun a h3 b h4 => ?_⟩
  rcases List.mem_append.1 h3 with h3 | h3
  · exact ordS_trans (hpre a h3) (hpost b h4)
  · rw [List.mem_singleton] at h3; subst h3; exact hpost b h4
theorem ins_perm (c : CommitD) (l : List CommitD) (i : Nat) : (l.take i ++ [c] ++ l.drop i).Perm (l ++ [c]) := by
  have h1 : (l.take i ++ [c] ++ l.drop i).Perm ([c] ++ (l.take i ++ l.drop i)) := by
    rw [← List.append_assoc]
    exact List.Perm.append_right _ List.perm_append_comm
  rw [List.take_append_drop] at h1
  exact h1.trans List.perm_append_comm

set_option maxHeartbeats 8000000 in
theorem rsorted_calls (w : World) (x : Nat) (R : List CommitD) (h : RGraphAt w x R) (hR : R.length ≤ 90000) (A : Option Addr) (n k : Nat) (ids : List Int) (hn : ids.length = n) (hf : Flat w A (nums ids)) (hn2 : n ≤ 90000) (least : Bool) :
    Calls Try.prog 73 #[.pointer (some ⟨x, 0, none⟩), .slice A n k, .bool least] w (RSortPost w least (ids.map fun i => (rFind R i).getD CommitD.zero)) := by
  have HG := Lib.hid (fun W (hW : Below w.heap.size w W) i => rget_calls w W x R h hW (by omega) i)
  have HF := Lib.hid hf; clear hf h
  have HN := Lib.hid hn; clear hn
  go_enter Try.func73, Try.ntmps73
  go_wp2
  go_loopg [15, 7] n (fun gg v v7 wr => ∃ (O : Option Addr) (m ko : Nat) (cs : List CommitD), m ≤ n ∧ n - m ≤ gg ∧ v = .int .i64 m ∧ v7 = .slice O m ko ∧ Hid (cs.length = m) ∧ Hid (CRow wr O cs) ∧ Hid (O = none → cs = [] ∧ ko = 0) ∧ m ≤ ko ∧ Hid (cs.Perm ((ids.take m).map fun i => (rFind R i).getD CommitD.zero)) ∧ Hid (cs.Pairwise (ordS least)) ∧ Below w.heap.size w wr)
  case atStart => exact ⟨none, 0, 0, [], Nat.zero_le _, by omega, rfl, rfl, rfl, ⟨[], trivial, Flat.nil _ _⟩, fun _ => ⟨rfl, rfl⟩, Nat.le_refl _, List.Perm.refl _, List.Pairwise.nil, by (repeat (first | (with_reducible exact Below.refl _ _) | (with_reducible assumption) | (with_reducible refine bel_al0 ?_ _) | (with_reducible refine bel_set ?_ (by first | (simp; done) | (simp; omega)) _) | (with_reducible refine bel_dr ?_) | (with_reducible refine bel_drn ?_ _) | (with_reducible refine bel_tr ?_ (by assumption))))⟩
  case round =>
    obtain ⟨O, m, ko, cs, hj, hgg, rfl, rfl, hcs, hO, hOn, hmk, hP, hS, hB⟩ := hrel
    obtain ⟨wo, rfl⟩ : ∃ wo : World, wo = wr := ⟨_, rfl⟩
    by_cases hlt : m < n
    · obtain ⟨id, hid⟩ : ∃ id, ids[m]? = some id := ⟨_, List.getElem?_eq_getElem (by rw [HN.out]; exact hlt)⟩
      obtain ⟨b, off, rfl, cj⟩ := HF.out.at_ (nums_at hid)
      replace cj := cell_bel cj hB
      have hbl := cell_lt cj
      have htk : Hid ((ids.take (m + 1)).map (fun i => (rFind R i).getD CommitD.zero) = (ids.take m).map (fun i => (rFind R i).getD CommitD.zero) ++ [(rFind R id).getD CommitD.zero]) := by show _ = _; rw [List.take_add_one, hid]; simp
      have HGi := Lib.hid (HG.out wo hB id)
      unfold GetPost at HGi
      obtain ⟨c, hc⟩ : ∃ c, c = (rFind R id).getD CommitD.zero := ⟨_, rfl⟩
      rw [← hc] at HGi htk
      obtain ⟨cb, hcb⟩ : ∃ cb, cb = (rFind R id).isSome := ⟨_, rfl⟩
      rw [← hcb] at HGi
      obtain ⟨np, hnp⟩ : ∃ np, np = c.par.length := ⟨_, rfl⟩
      rw [← hnp] at HGi
      have HNP := Lib.hid hnp
      clear hc hcb hnp hid
      go_upto_block 2 with (go_at_call 45; refine HGi.out.mono ?_; rintro e w5 ⟨A5, k5, rfl, hf5, hA5, hb5⟩; have HF5 := Lib.hid hf5; clear hf5; have HA5 := Lib.hid hA5; clear hA5)
      have hb5' : Below wo.heap.size wo w5 := hb5
      obtain ⟨w6, hw6⟩ : ∃ w6, w6 = w5.alloc (.cells #[.int .u64 c.id, .slice A5 np k5, .int .u64 c.gen, .int .u64 c.root, .string c.text] 69) := ⟨_, rfl⟩
      have hb6 : Below wo.heap.size wo w6 := by rw [hw6]; exact bel_al0 hb5 _
      have hbk : Blk w6 w5.heap.size #[.int .u64 c.id, .slice A5 np k5, .int .u64 c.gen, .int .u64 c.root, .string c.text] 69 := by rw [hw6]; exact blk_new w5 _ _
      have HBK := Lib.hid hbk; clear hbk
      have HO6 := Lib.hid (hO.out.below hb6)
      have hbw6 : Below w.heap.size w w6 := bel_tr hB hb6
      rw [← hw6]
      clear hw6 hb5 hb5'
      obtain ⟨bc, hbc⟩ : ∃ bc, bc = w5.heap.size := ⟨_, rfl⟩
      rw [← hbc] at HBK ⊢
      clear hbc
      go_cut [12, 15] from 15 to 77 (fun s12 s15 wx => ∃ i : Nat, i ≤ m ∧ s12 = .int .i64 i ∧ s15 = .int .i64 m ∧ Hid (∀ q o, i ≤ q → cs[q]? = some o → goesS least c o = true) ∧ Hid (∀ o, 0 < i → cs[i - 1]? = some o → goesS least c o = false) ∧ Below w6.heap.size w6 wx)
      case first =>
        go_wp2_with fail
        go_loopw [12] (fun v wr => ∃ i : Nat, i ≤ m ∧ v = .int .i64 i ∧ Hid (∀ q o, i ≤ q → cs[q]? = some o → goesS least c o = true) ∧ Below w6.heap.size w6 wr) (fun v _ => (intOf v).toNat)
        case atStart => exact ⟨m, Nat.le_refl _, rfl, (fun q o hq ho => by have := (List.getElem?_eq_some_iff.1 ho).1; have := hcs.out; omega), Below.refl _ _⟩
        case round =>
          obtain ⟨i, hi, rfl, hgo, hBi⟩ := hrel
          obtain ⟨x0, x1, x2, x3, x4, xf⟩ := (HBK.out.below hBi).five
          clear x3 x4 xf x1
          have hbcl : bc < wr.heap.size := cell_lt x0
          cases i with
          | zero =>
            have hd0 : decide ((0 : Int) < ((0 : Nat) : Int)) = false := by simp
            go_wp2
            go_quiet (fail)
            go_wp2
            all_goals go_meet
            all_goals exact ⟨0, Nat.zero_le _, rfl, rfl, hgo, (fun o h0 => by omega), by (repeat (first | (with_reducible exact Below.refl _ _) | (with_reducible assumption) | (with_reducible refine bel_al0 ?_ _) | (with_reducible refine bel_set ?_ (by first | (simp; done) | (simp; omega)) _) | (with_reducible refine bel_dr ?_) | (with_reducible refine bel_drn ?_ _) | (with_reducible refine bel_tr ?_ (by assumption))))⟩
          | succ i =>
            obtain ⟨o, ho⟩ : ∃ o, cs[i]? = some o := ⟨_, List.getElem?_eq_getElem (by rw [hcs.out]; omega)⟩
            obtain ⟨b9, o9, A9, k9, rfl, y0, y1, y2, y3, y4, _, _⟩ := (HO6.out.below hBi).at_ ho
            clear y1 y3 y4
            have hb9l := cell_lt y0
            have HO := Lib.hid ho; clear ho
            have e1 : ((i : Int) + 1 - 1) = i := by omega
            have hw1 : IntKind.i64.wrap ((i : Int) + 1 - 1) = (i : Int) := by rw [e1]; exact IntWalk.i64_in _ (by omega)
            clear e1
            have hd0 : decide ((0 : Int) < (i : Int) + 1) = true := decide_eq_true (by omega)
            have hres : goesS least c o = ((decide (o.gen < c.gen) || (c.gen == o.gen && decide (o.id < c.id))) != least) := by
              unfold goesS ltQ
              by_cases e : o.gen = c.gen
              · simp [e]
              · have e' : ¬ c.gen = o.gen := fun h => e h.symm
                simp [e, e']
            have HRES := Lib.hid hres; clear hres
            have HSTOP : Hid (goesS least c o = false → ∀ o', 0 < i + 1 → cs[i + 1 - 1]? = some o' → goesS least c o' = false) := fun hf o' h0 ho' => by rw [show i + 1 - 1 = i by omega, HO.out] at ho'; cases ho'; exact hf
            have HON : Hid (goesS least c o = true → ∀ q o', i ≤ q → cs[q]? = some o' → goesS least c o' = true) := fun hf q o' hq ho' => by
              rcases Nat.lt_or_ge i q with h' | h'
              · exact hgo.out q o' (by omega) ho'
              · obtain rfl : q = i := by omega
                rw [HO.out] at ho'; cases ho'; exact hf
            obtain ⟨g1, hg1⟩ : ∃ g1, decide (o.gen < c.gen) = g1 := ⟨_, rfl⟩
            obtain ⟨g2, hg2⟩ : ∃ g2, (c.gen == o.gen) = g2 := ⟨_, rfl⟩
            obtain ⟨g3, hg3⟩ : ∃ g3, decide (o.id < c.id) = g3 := ⟨_, rfl⟩
            rw [hg1, hg2, hg3] at HRES
            cases least <;> cases g1 <;> cases g2 <;> cases g3
            · have HF := Lib.hid (HRES.out.trans rfl); clear HRES
              go_wp2
              go_quiet (fail)
              go_wp2
              go_meet
              exact ⟨i + 1, by omega, by push_cast; rfl, rfl, hgo, HSTOP.out HF.out, by (repeat (first | (with_reducible exact Below.refl _ _) | (with_reducible assumption) | (with_reducible refine bel_al0 ?_ _) | (with_reducible refine bel_set ?_ (by first | (simp; done) | (simp; omega)) _) | (with_reducible refine bel_dr ?_) | (with_reducible refine bel_drn ?_ _) | (with_reducible refine bel_tr ?_ (by assumption))))⟩
            · have HF := Lib.hid (HRES.out.trans rfl); clear HRES
              go_wp2
              go_quiet (fail)
              go_wp2
              go_meet
              exact ⟨i + 1, by omega, by push_cast; rfl, rfl, hgo, HSTOP.out HF.out, by (repeat (first | (with_reducible exact Below.refl _ _) | (with_reducible assumption) | (with_reducible refine bel_al0 ?_ _) | (with_reducible refine bel_set ?_ (by first | (simp; done) | (simp; omega)) _) | (with_reducible refine bel_dr ?_) | (with_reducible refine bel_drn ?_ _) | (with_reducible refine bel_tr ?_ (by assumption))))⟩
            · have HF := Lib.hid (HRES.out.trans rfl); clear HRES
              go_wp2
              go_quiet (fail)
              go_wp2
              go_meet
              exact ⟨i + 1, by omega, by push_cast; rfl, rfl, hgo, HSTOP.out HF.out, by (repeat (first | (with_reducible exact Below.refl _ _) | (with_reducible assumption) | (with_reducible refine bel_al0 ?_ _) | (with_reducible refine bel_set ?_ (by first | (simp; done) | (simp; omega)) _) | (with_reducible refine bel_dr ?_) | (with_reducible refine bel_drn ?_ _) | (with_reducible refine bel_tr ?_ (by assumption))))⟩
            · have HF := Lib.hid (HRES.out.trans rfl); clear HRES
              go_wp2
              go_quiet (fail)
              go_wp2
              go_roundw
              case rel => exact ⟨i, by omega, rfl, HON.out HF.out, by (repeat (first | (with_reducible exact Below.refl _ _) | (with_reducible assumption) | (with_reducible refine bel_al0 ?_ _) | (with_reducible refine bel_set ?_ (by first | (simp; done) | (simp; omega)) _) | (with_reducible refine bel_dr ?_) | (with_reducible refine bel_drn ?_ _) | (with_reducible refine bel_tr ?_ (by assumption))))⟩
              case measure => first | (simp [intOf]; done) | (simp [intOf]; omega)
            · have HF := Lib.hid (HRES.out.trans rfl); clear HRES
              go_wp2
              go_quiet (fail)
              go_wp2
              go_roundw
              case rel => exact ⟨i, by omega, rfl, HON.out HF.out, by (repeat (first | (with_reducible exact Below.refl _ _) | (with_reducible assumption) | (with_reducible refine bel_al0 ?_ _) | (with_reducible refine bel_set ?_ (by first | (simp; done) | (simp; omega)) _) | (with_reducible refine bel_dr ?_) | (with_reducible refine bel_drn ?_ _) | (with_reducible refine bel_tr ?_ (by assumption))))⟩
              case measure => first | (simp [intOf]; done) | (simp [intOf]; omega)
            · have HF := Lib.hid (HRES.out.trans rfl); clear HRES
              go_wp2
              go_quiet (fail)
              go_wp2
              go_roundw
              case rel => exact ⟨i, by omega, rfl, HON.out HF.out, by (repeat (first | (with_reducible exact Below.refl _ _) | (with_reducible assumption) | (with_reducible refine bel_al0 ?_ _) | (with_reducible refine bel_set ?_ (by first | (simp; done) | (simp; omega)) _) | (with_reducible refine bel_dr ?_) | (with_reducible refine bel_drn ?_ _) | (with_reducible refine bel_tr ?_ (by assumption))))⟩
              case measure => first | (simp [intOf]; done) | (simp [intOf]; omega)
            · exfalso; simp at hg1 hg2; omega
            · exfalso; simp at hg1 hg2; omega
            · have HF := Lib.hid (HRES.out.trans rfl); clear HRES
              go_wp2
              go_quiet (fail)
              go_wp2
              go_roundw
              case rel => exact ⟨i, by omega, rfl, HON.out HF.out, by (repeat (first | (with_reducible exact Below.refl _ _) | (with_reducible assumption) | (with_reducible refine bel_al0 ?_ _) | (with_reducible refine bel_set ?_ (by first | (simp; done) | (simp; omega)) _) | (with_reducible refine bel_dr ?_) | (with_reducible refine bel_drn ?_ _) | (with_reducible refine bel_tr ?_ (by assumption))))⟩
              case measure => first | (simp [intOf]; done) | (simp [intOf]; omega)
            · have HF := Lib.hid (HRES.out.trans rfl); clear HRES
              go_wp2
              go_quiet (fail)
              go_wp2
              go_roundw
              case rel => exact ⟨i, by omega, rfl, HON.out HF.out, by (repeat (first | (with_reducible exact Below.refl _ _) | (with_reducible assumption) | (with_reducible refine bel_al0 ?_ _) | (with_reducible refine bel_set ?_ (by first | (simp; done) | (simp; omega)) _) | (with_reducible refine bel_dr ?_) | (with_reducible refine bel_drn ?_ _) | (with_reducible refine bel_tr ?_ (by assumption))))⟩
              case measure => first | (simp [intOf]; done) | (simp [intOf]; omega)
            · have HF := Lib.hid (HRES.out.trans rfl); clear HRES
              go_wp2
              go_quiet (fail)
              go_wp2
              go_roundw
              case rel => exact ⟨i, by omega, rfl, HON.out HF.out, by (repeat (first | (with_reducible exact Below.refl _ _) | (with_reducible assumption) | (with_reducible refine bel_al0 ?_ _) | (with_reducible refine bel_set ?_ (by first | (simp; done) | (simp; omega)) _) | (with_reducible refine bel_dr ?_) | (with_reducible refine bel_drn ?_ _) | (with_reducible refine bel_tr ?_ (by assumption))))⟩
              case measure => first | (simp [intOf]; done) | (simp [intOf]; omega)
            · have HF := Lib.hid (HRES.out.trans rfl); clear HRES
              go_wp2
              go_quiet (fail)
              go_wp2
              go_meet
              exact ⟨i + 1, by omega, by push_cast; rfl, rfl, hgo, HSTOP.out HF.out, by (repeat (first | (with_reducible exact Below.refl _ _) | (with_reducible assumption) | (with_reducible refine bel_al0 ?_ _) | (with_reducible refine bel_set ?_ (by first | (simp; done) | (simp; omega)) _) | (with_reducible refine bel_dr ?_) | (with_reducible refine bel_drn ?_ _) | (with_reducible refine bel_tr ?_ (by assumption))))⟩
            · have HF := Lib.hid (HRES.out.trans rfl); clear HRES
              go_wp2
              go_quiet (fail)
              go_wp2
              go_meet
              exact ⟨i + 1, by omega, by push_cast; rfl, rfl, hgo, HSTOP.out HF.out, by (repeat (first | (with_reducible exact Below.refl _ _) | (with_reducible assumption) | (with_reducible refine bel_al0 ?_ _) | (with_reducible refine bel_set ?_ (by first | (simp; done) | (simp; omega)) _) | (with_reducible refine bel_dr ?_) | (with_reducible refine bel_drn ?_ _) | (with_reducible refine bel_tr ?_ (by assumption))))⟩
            · have HF := Lib.hid (HRES.out.trans rfl); clear HRES
              go_wp2
              go_quiet (fail)
              go_wp2
              go_meet
              exact ⟨i + 1, by omega, by push_cast; rfl, rfl, hgo, HSTOP.out HF.out, by (repeat (first | (with_reducible exact Below.refl _ _) | (with_reducible assumption) | (with_reducible refine bel_al0 ?_ _) | (with_reducible refine bel_set ?_ (by first | (simp; done) | (simp; omega)) _) | (with_reducible refine bel_dr ?_) | (with_reducible refine bel_drn ?_ _) | (with_reducible refine bel_tr ?_ (by assumption))))⟩
            · exfalso; simp at hg1 hg2; omega
            · exfalso; simp at hg1 hg2; omega
      case rest =>
        obtain ⟨i, hi, rfl, rfl, hgo, hno, hBq⟩ := hcut
        obtain ⟨x0, x1, x2, x3, x4, xf⟩ := (HBK.out.below hBq).five
        clear xf
        have hbcl : bc < wc.heap.size := cell_lt x0
        have hjk : i ≤ ko := by omega
        obtain ⟨A2, hA2, hA2'⟩ : ∃ A2, (if ko = i then O else Option.map (fun a => a.add (i * 5)) O) = A2 ∧ (∀ b off, O = some ⟨b, off, none⟩ → i < cs.length → A2 = some ⟨b, off + i * 5, none⟩) := ⟨_, rfl, fun b off e hl => by
          rw [hcs.out] at hl
          rw [if_neg (by omega), e]
          simp [add_pl']⟩
        obtain ⟨u, w7, q7, q8, w8, r1, r2, r0, r3, r4, r5⟩ := ins_runs wc 0 cs O ko (HO6.out.below hBq) hOn.out i (by rw [hcs.out]; exact hi) (by rw [hcs.out]; omega) c (.int .u64 c.id) (.slice A5 np k5) (.int .u64 c.gen) (.int .u64 c.root) (.string c.text) ⟨A5, k5, by rw [← HNP.out], HF5.out.below (bel_tr hbw6 hBq), HA5.out⟩ A2 hA2'
        rw [hcs.out] at r1 r2 r5
        have HL : Hid ((cs.take i ++ [c] ++ cs.drop i).length = m + 1) := by show _ = _; have := hcs.out; simp; omega
        have HP2 : Hid ((cs.take i ++ [c] ++ cs.drop i).Perm ((ids.take (m + 1)).map fun i => (rFind R i).getD CommitD.zero)) := by
          show List.Perm _ _
          rw [htk.out]
          exact (ins_perm c cs i).trans (List.Perm.append_right _ hP.out)
        have HS2 : Hid ((cs.take i ++ [c] ++ cs.drop i).Pairwise (ordS least)) := ins_sorted hS.out (by rw [hcs.out]; exact hi) hgo.out hno.out
        have HR4 := Lib.hid r4
        have hbf : Below w.heap.size w w8 := bel_tr (bel_tr hbw6 hBq) r3
        have HR1 := Lib.hid r1
        have HR2 := Lib.hid r2
        clear r0 r1 r2 r3 r4 hA2' hgo hno
        go_wp2
        go_region_law (first | (refine step_append_run rfl (.tmp 71) (.tmp 74) 40 rfl _ _ rfl rfl HR1.out ?_) | (refine step_append_run rfl (.tmp 69) (.tmp 75) 40 rfl _ _ rfl rfl HR2.out ?_))
        all_goals go_wp2
        all_goals go_roundg (n - (m + 1))
        case measure => omega
        case rel => exact ⟨some ⟨q7, 0, none⟩, m + 1, q8, cs.take i ++ [c] ++ cs.drop i, by omega, Nat.le_refl _, by go_num, rfl, HL, HR4.out, (fun e => by cases e), r5, HP2, HS2, hbf⟩
    · have hmn : m = n := by omega
      have htk : ids.take m = ids := by rw [List.take_of_length_le]; rw [HN.out]; omega
      have hp := hP.out
      rw [htk] at hp
      have HP2 := Lib.hid hp; clear hp htk hP hmn
      go_wp2
      go_ret
      exact ⟨O, ko, cs, by rw [hcs.out]; rfl, hO.out, hOn.out, by rw [hcs.out]; exact hmk, HP2.out, hS.out, hB⟩
end Go.Proofs.Ytehneliphhgegaa
