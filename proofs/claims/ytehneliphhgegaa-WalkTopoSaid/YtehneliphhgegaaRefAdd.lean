/- The document's graph takes a commit, or refuses it: walked once. -/
import Derived.Test.YtehneliphhgegaaRefGraph
import Derived.Deep.CutBlock
set_option linter.unusedVariables false
set_option linter.unusedSimpArgs false
set_option maxRecDepth 100000
namespace Go.Proofs.Ytehneliphhgegaa
open Go.RowKit Go.Apo

def parGenF (f : Int → Option CommitD) : List Int → Int → Option Int
  | [], g => some g
  | p :: ps, g => match f p with
    | none => none
    | some x => parGenF f ps (max g x.gen)
theorem parGenF_snoc (f : Int → Option CommitD) (p : Int) : ∀ (l : List Int) (g : Int), parGenF f (l ++ [p]) g = (parGenF f l g).bind fun g' => (f p).map fun x => max g' x.gen
  | [], g => by simp only [List.nil_append, parGenF]; cases f p <;> rfl
  | q :: l, g => by
    simp only [List.cons_append, parGenF]
    cases f q with
    | none => rfl
    | some x => exact parGenF_snoc f p l _
theorem parGenF_stop {f : Int → Option CommitD} {p : Int} (h : f p = none) : ∀ (l : List Int) (g : Int), p ∈ l → parGenF f l g = none
  | q :: l, g, hm => by
    simp only [parGenF]
    rcases List.mem_cons.1 hm with rfl | hm
    · rw [h]
    · cases f q with
      | none => rfl
      | some x => exact parGenF_stop h l _ hm
theorem parGen_F (L : List (Int × CommitD)) : ∀ (l : List Int) (g : Int), parGen L l g = parGenF (mget L) l g
  | [], g => rfl
  | p :: l, g => by
    simp only [parGen, parGenF]
    cases mget L p with
    | none => rfl
    | some x => exact parGen_F L l _

def raddE (R : List CommitD) (c : CommitD) : Int :=
  if rightE c = 0 then (if (rFind R c.id).isSome then 112 else match parGenF (rFind R) c.par 0 with
    | none => 120
    | some g => if c.gen = g + 1 then 0 else 120) else rightE c
/-- where a commit goes in -/
def rPos (R : List CommitD) (i : Int) : Nat := (R.takeWhile fun c => decide (c.id < i)).length
def rIns (R : List CommitD) (c : CommitD) : List CommitD := R.take (rPos R c.id) ++ [c] ++ R.drop (rPos R c.id)
def raddL (R : List CommitD) (c : CommitD) : List CommitD := if raddE R c = 0 then rIns R c else R
theorem rPos_le (R : List CommitD) (i : Int) : rPos R i ≤ R.length := by
  unfold rPos
  exact (List.takeWhile_sublist _).length_le
theorem rPos_stop {R : List CommitD} {i : Int} : ∀ {j : Nat}, (∀ (q : Nat) (c : CommitD), q < j → R[q]? = some c → c.id < i) → j ≤ R.length → (j = R.length ∨ ∃ c, R[j]? = some c ∧ ¬ c.id < i) → rPos R i = j := by
  induction R with
  | nil => intro j _ h2 _; simp at h2; subst h2; rfl
  | cons a R ih =>
    intro j h1 h2 h3
    cases j with
    | zero =>
      rcases h3 with h3 | ⟨c, hc, hn⟩
      · simp at h3
      · simp at hc; subst hc
        unfold rPos
        rw [List.takeWhile_cons_of_neg (by simpa using hn)]; rfl
    | succ j =>
      have ha : a.id < i := h1 0 a (by omega) rfl
      have := ih (j := j) (fun q c hq hc => h1 (q + 1) c (by omega) (by simpa using hc)) (by simp at h2; omega) (by
        rcases h3 with h3 | ⟨c, hc, hn⟩
        · left; simp at h3; omega
        · right; exact ⟨c, by simpa using hc, hn⟩)
      unfold rPos at this ⊢
      rw [List.takeWhile_cons_of_pos (by simpa using ha)]
      simp [this]
def RSmall (R : List CommitD) : Prop := ∀ i c, rFind R i = some c → 0 ≤ c.gen ∧ c.gen ≤ 1000000000
theorem infoCommit : (Try.prog.info? 69).map (fun i => (i.zero, i.size, i.bytes)) = some (some (.agg #[.int .u64 0, .slice none 0 0, .int .u64 0, .int .u64 0, .string ⟨#[]⟩]), 5, 64) := by kernel_rfl
/-- what a call of the document's Add leaves -/
structure RAdded (w : World) (x : Nat) (v : Int) (R' : List CommitD) (e : Ending) (w' : World) : Prop where
  e : e = .returned (.int .i64 v)
  t : RGraphAt w' x R'
  b : But x w w'

/-- a commit is set in between the others: the two appends -/
theorem ins_runs (wr : World) (x : Nat) (R : List CommitD) (A : Option Addr) (k : Nat) (hrow : CRow wr A R) (hA : A = none → R = [] ∧ k = 0) (j : Nat) (hj : j ≤ R.length) (hR : R.length ≤ 100000) (c : CommitD) (v0 v1 v2 v3 v4 : Value) (hc : commitIs wr c (.agg #[v0, v1, v2, v3, v4]))
    (A2 : Option Addr) (hA2 : ∀ b off, A = some ⟨b, off, none⟩ → j < R.length → A2 = some ⟨b, off + j * 5, none⟩) :
    ∃ u w2 g q w3, (Builtin.append_ #[40, 40] 40 #[.slice (some ⟨wr.heap.size, 0, none⟩) 1 1, .slice A2 (R.length - j) (k - j)]).run Try.prog (wr.drew.alloc (.cells #[v0, v1, v2, v3, v4] 69)) = .ok u w2 ∧
      (Builtin.append_ #[40, 40] 40 #[.slice A j j, u]).run Try.prog w2 = .ok (.slice (some ⟨g, 0, none⟩) (R.length + 1) q) w3 ∧ Below wr.heap.size wr w2 ∧ Below wr.heap.size wr w3 ∧ CRow w3 (some ⟨g, 0, none⟩) (R.take j ++ [c] ++ R.drop j) ∧ R.length + 1 ≤ q := by
  obtain ⟨cs, hcv, hfl⟩ := hrow
  have hlen := hcv.length
  obtain ⟨hcv1, hcv2⟩ := hcv.split j
  have hb1 : Below wr.heap.size wr (wr.drew.alloc (.cells #[v0, v1, v2, v3, v4] 69)) := (bel_dr (Below.refl _ wr)).alloc (Nat.le_refl _) _
  have hown := World.ownsRow_lit (base := wr.heap.size) (e := 69) (size := 5) wr.drew #[v0, v1, v2, v3, v4] 1 (Nat.le_refl _) (by unfold maxLen; omega) rfl
  have hnews : Flat wr A2 (cs.drop (j * 5)) := by
    intro h0
    rw [List.length_drop] at h0
    obtain ⟨b, off, e, hcc⟩ := hfl (by omega)
    refine ⟨b, off + j * 5, hA2 b off e (by omega), fun q u hq => ?_⟩
    rw [List.getElem?_drop] at hq
    have := hcc _ u hq
    rwa [← Nat.add_assoc] at this
  obtain ⟨u, w2, r1, r2, r3, r4⟩ := run_append_flat (P := Try.prog) (w := wr.drew.alloc (.cells #[v0, v1, v2, v3, v4] 69)) wr.heap.size 40 40 69 _ 5 64 Try.underlying40 infoCommit rfl (by decide) _ 1 _ hown A2 (R.length - j) (k - j) (cs.drop (j * 5)) (by rw [List.length_drop, hlen, Nat.sub_mul]) (hnews.below hb1) (fun u hu => hcv.one u (List.mem_of_mem_drop hu)) (by unfold maxLen; omega) (by omega) hb1.size
  have hb2 : Below wr.heap.size wr w2 := hb1.grown r3 hb1.size (fun kk hk => (hown.lt kk hk).1)
  obtain ⟨A3, c3, rfl, hc3⟩ := own_form r2
  have hx := hfl
  have hpre : Flat w2 A (cs.take (j * 5)) := by
    refine Flat.below ?_ hb2
    intro h0
    rw [List.length_take] at h0
    obtain ⟨b, off, e, hcc⟩ := hfl (by omega)
    refine ⟨b, off, e, fun q u hq => hcc q u ?_⟩
    rw [List.getElem?_take] at hq
    split at hq
    · exact hq
    · cases hq
  obtain ⟨g, q, w3, s1, s2, s3, s4, s5, s6⟩ := run_append_new (P := Try.prog) (w := w2) 40 40 69 _ 5 64 Try.underlying40 infoCommit rfl (by decide) A j j (cs.take (j * 5)) (by rw [List.length_take, hlen]; omega) hpre (fun e => by have := (hA e).1; subst this; simp at hj; exact ⟨hj, hj⟩) A3 (1 + (R.length - j)) c3 (by omega) (#[v0, v1, v2, v3, v4].toList ++ cs.drop (j * 5)) (by simp [hlen]; omega) (own_flat r2) (by unfold maxLen; omega) (by omega) (by omega)
  have hb3 : Below wr.heap.size wr w3 := bel_tr hb2 s5
  have e1 : j + (1 + (R.length - j)) = R.length + 1 := by omega
  rw [e1] at s1 s6
  refine ⟨_, w2, g, q, w3, r1, s1, hb2, hb3, ⟨_, ?_, s4⟩, s6⟩
  have hm : ∀ c v, commitIs wr c v → commitIs w3 c v := fun c v h => commitIs_below h hb3
  rw [List.append_assoc]
  exact (hcv1.mono hm).app (CVals.app (R := [c]) (cs := [v0, v1, v2, v3, v4]) ⟨hm _ _ hc, trivial⟩ (hcv2.mono hm))
theorem rFind_isSome {R : List CommitD} {i : Int} : ((0 : Int) ≤ rAt R i) ↔ (rFind R i).isSome = true := by
  rcases rAt_cases R i with ⟨h1, h2⟩ | ⟨k, c, h1, _, _, h4⟩
  · rw [h1, h2]; simp
  · rw [h1, h4]; simp
set_option maxHeartbeats 8000000 in
theorem radd_calls (w : World) (x : Nat) (R : List CommitD) (h : RGraphAt w x R) (hS : RSmall R) (hR : R.length ≤ 100000) (i g r : Int) (t : ByteArray) (A : Option Addr) (n k : Nat) (ps : List Int) (hn : ps.length = n) (hf : Flat w A (nums ps)) (hA : A = none → ps = []) (hg : 0 ≤ g) (ht : t.size ≤ 1000000) :
    Calls Try.prog 76 #[.pointer (some ⟨x, 0, none⟩), .agg #[.int .u64 i, .slice A n k, .int .u64 g, .int .u64 r, .string t]] w (RAdded w x (raddE R ⟨i, ps, g, r, t⟩) (raddL R ⟨i, ps, g, r, t⟩)) := by
  obtain ⟨z, hz⟩ : ∃ z, z = raddE R ⟨i, ps, g, r, t⟩ := ⟨_, rfl⟩
  obtain ⟨R', hR'⟩ : ∃ R', R' = raddL R ⟨i, ps, g, r, t⟩ := ⟨_, rfl⟩
  rw [← hz, ← hR']
  have hL' : R' = if z = 0 then rIns R ⟨i, ps, g, r, t⟩ else R := by rw [hR', hz]; rfl
  clear hR'
  unfold raddE at hz
  have HR := Lib.hid (fun W hW => rcommit_calls W i g r t A n k ps hn hW hg ht)
  have hp2 := @rightE_par ⟨i, ps, g, r, t⟩
  obtain ⟨e, he⟩ : ∃ e, e = rightE ⟨i, ps, g, r, t⟩ := ⟨_, rfl⟩
  rw [← he] at hz HR hp2
  clear he
  simp only at hz hp2
  have H := Lib.hid h; clear h
  have HF := Lib.hid hf; clear hf
  have HA := Lib.hid hA; clear hA
  have HN := Lib.hid hn; clear hn
  have HS := Lib.hid hS; clear hS
  have HL := Lib.hid hL'; clear hL'
  have HX := Lib.hid hz; clear hz
  have HP := Lib.hid hp2; clear hp2
  have HRR := Lib.hid hR; clear hR
  go_enter Try.func76, Try.ntmps76
  go_wp2_with fail
  have hB1 : Below w.heap.size w (w.alloc (.cells #[.int .u64 i, .slice A n k, .int .u64 g, .int .u64 r, .string t] 69)) := by (repeat (first | (with_reducible exact Below.refl _ _) | (with_reducible assumption) | (with_reducible refine bel_al0 ?_ _) | (with_reducible refine bel_set ?_ (by first | (simp; done) | (simp; omega)) _) | (with_reducible refine bel_dr ?_) | (with_reducible refine bel_drn ?_ _) | (with_reducible refine bel_tr ?_ (by assumption))))
  refine (HR.out _ (HF.out.below hB1)).mono ?_
  rintro e' w1 ⟨rfl, hb1⟩
  have hB : Below w.heap.size w w1 := bel_tr hB1 hb1
  by_cases he0 : e = 0
  · subst he0
    have hx := HX.out
    rw [if_pos rfl] at hx
    clear HX
    have HX := Lib.hid hx; clear hx
    have HB1 := Lib.hid ((blk_new w _ _).below hb1)
    obtain ⟨x0, x1, x2, x3, x4, xf⟩ := HB1.out.five
    have hn2 : n ≤ 2 := by have := HP.out rfl; rw [HN.out] at this; exact this
    have HAT := Lib.hid (rat_calls w1 x R (H.out.below hB) (by have := HRR.out; omega) i)
    have hfs := @rFind_isSome R i
    obtain ⟨ai, hai⟩ : ∃ ai, ai = rAt R i := ⟨_, rfl⟩
    rw [← hai] at HAT hfs
    clear hai
    by_cases hin : (rFind R i).isSome = true
    · rw [if_pos hin] at HX
      have ha0 : (0 : Int) ≤ ai := hfs.2 hin
      clear hfs hin
      have hx := HX.out
      subst hx
      have hl := HL.out
      obtain rfl : R' = R := by simpa using hl
      clear hl HL HX xf
      go_wp2_with (go_at_call 78; refine HAT.out.mono ?_; rintro e w2 ⟨rfl, hb2⟩)
      go_ret
      have hbb := bel_tr hB hb2
      exact ⟨rfl, H.out.below hbb, But.of_below hbb⟩
    · rw [if_neg hin] at HX
      have ha0 : ¬ (0 : Int) ≤ ai := fun q => hin (hfs.1 q)
      clear hfs
      have HIN := Lib.hid hin; clear hin
      go_wp2_with (go_at_call 78; refine HAT.out.mono ?_; rintro e w2 ⟨rfl, hb2⟩; replace x0 := cell_bel x0 hb2; replace x1 := cell_bel x1 hb2; replace x2 := cell_bel x2 hb2; replace x3 := cell_bel x3 hb2; replace x4 := cell_bel x4 hb2)
      have hB2 := bel_tr hB hb2
      go_loopw [25, 6, 8, 9, 10] (fun v u _ _ _ wr => ∃ (j : Nat) (gj : Int), j ≤ n ∧ v = .int .i64 j ∧ u = .int .u64 gj ∧ Hid (parGenF (rFind R) (ps.take j) 0 = some gj) ∧ 0 ≤ gj ∧ gj ≤ 1000000000 ∧ Below w2.heap.size w2 wr) (fun v _ _ _ _ _ => n - (intOf v).toNat)
      case atStart => exact ⟨0, 0, Nat.zero_le _, rfl, rfl, rfl, by omega, by omega, by (repeat (first | (with_reducible exact Below.refl _ _) | (with_reducible assumption) | (with_reducible refine bel_al0 ?_ _) | (with_reducible refine bel_set ?_ (by first | (simp; done) | (simp; omega)) _) | (with_reducible refine bel_dr ?_) | (with_reducible refine bel_drn ?_ _) | (with_reducible refine bel_tr ?_ (by assumption))))⟩
      case round =>
        obtain ⟨j, gj, hj, rfl, rfl, hpg, hg0, hg1, hBr⟩ := hrel
        replace x0 := cell_bel x0 hBr
        replace x1 := cell_bel x1 hBr
        replace x2 := cell_bel x2 hBr
        replace x3 := cell_bel x3 hBr
        replace x4 := cell_bel x4 hBr
        by_cases hjn : j < n
        · obtain ⟨pj, hpj⟩ : ∃ pj, ps[j]? = some pj := ⟨_, List.getElem?_eq_getElem (by rw [HN.out]; exact hjn)⟩
          obtain ⟨b, off, rfl, cj⟩ := HF.out.at_ (nums_at hpj)
          replace cj := cell_bel cj (bel_tr hB2 hBr)
          have htk : ps.take (j + 1) = ps.take j ++ [pj] := by rw [List.take_add_one, hpj]; rfl
          have hmem : pj ∈ ps := List.mem_of_getElem? hpj
          have HTK := Lib.hid htk; clear htk hpj
          have HMEM := Lib.hid hmem; clear hmem
          have hgc := fun W hW => rget_calls W W x R hW (Below.refl _ _) (by have := HRR.out; omega) pj
          cases hpl : rFind R pj with
          | none =>
            have hx := HX.out
            rw [parGenF_stop hpl ps 0 HMEM.out] at hx
            simp only at hx
            subst hx
            have hl' := HL.out
            obtain rfl : R' = R := by simpa using hl'
            clear hl' HL HX
            rw [hpl] at hgc
            clear hpl
            have HGC := Lib.hid hgc; clear hgc
            go_wp2_with (go_at_call 45; refine (HGC.out _ (H.out.below (bel_tr hB2 hBr))).mono ?_; rintro e w3 ⟨A3, k3, rfl, hf3, hA3, hb3⟩; clear hf3 hA3)
            go_ret
            have hbb := bel_al0 (bel_tr (bel_tr hB2 hBr) hb3) (.cells #[.int .u64 0, .slice A3 0 k3, .int .u64 0, .int .u64 0, .string ⟨#[]⟩] 69)
            exact ⟨rfl, H.out.below hbb, But.of_below hbb⟩
          | some cp =>
            have hsm := HS.out pj cp hpl
            have hnew : Hid (parGenF (rFind R) (ps.take (j + 1)) 0 = some (max gj cp.gen)) := by
              show parGenF (rFind R) (ps.take (j + 1)) 0 = _
              rw [HTK.out, parGenF_snoc, hpg.out, Option.bind_some, hpl]; rfl
            rw [hpl] at hgc
            clear hpl
            have HGC := Lib.hid hgc; clear hgc
            by_cases hgt : gj < cp.gen
            · have hmx : max gj cp.gen = cp.gen := by omega
              rw [hmx] at hnew
              clear hmx
              go_wp2_with (go_at_call 45; refine (HGC.out _ (H.out.below (bel_tr hB2 hBr))).mono ?_; rintro e w3 ⟨A3, k3, rfl, hf3, hA3, hb3⟩; clear hf3 hA3)
              go_roundw
              case rel => exact ⟨j + 1, _, by omega, by go_num, rfl, hnew, hsm.1, hsm.2, by (repeat (first | (with_reducible exact Below.refl _ _) | (with_reducible assumption) | (with_reducible refine bel_al0 ?_ _) | (with_reducible refine bel_set ?_ (by first | (simp; done) | (simp; omega)) _) | (with_reducible refine bel_dr ?_) | (with_reducible refine bel_drn ?_ _) | (with_reducible refine bel_tr ?_ (by assumption))))⟩
              case measure => simp [intOf]; omega
            · have hmx : max gj cp.gen = gj := by omega
              rw [hmx] at hnew
              clear hmx
              have hgt' : decide (gj < cp.gen) = false := by simpa using hgt
              go_wp2_with (go_at_call 45; refine (HGC.out _ (H.out.below (bel_tr hB2 hBr))).mono ?_; rintro e w3 ⟨A3, k3, rfl, hf3, hA3, hb3⟩; clear hf3 hA3)
              go_roundw
              case rel => exact ⟨j + 1, _, by omega, by go_num, rfl, hnew, hg0, hg1, by (repeat (first | (with_reducible exact Below.refl _ _) | (with_reducible assumption) | (with_reducible refine bel_al0 ?_ _) | (with_reducible refine bel_set ?_ (by first | (simp; done) | (simp; omega)) _) | (with_reducible refine bel_dr ?_) | (with_reducible refine bel_drn ?_ _) | (with_reducible refine bel_tr ?_ (by assumption))))⟩
              case measure => simp [intOf]; omega
        · have hjn' : j = n := by omega
          have htk : ps.take j = ps := by rw [List.take_of_length_le]; rw [HN.out]; omega
          have hpg' := hpg.out
          rw [htk] at hpg'
          have hx := HX.out
          rw [hpg'] at hx
          simp only at hx
          clear HX hpg hpg' htk
          by_cases hgg : g = gj + 1
          · rw [if_pos hgg] at hx
            subst hx
            have hl' := HL.out
            obtain rfl : R' = rIns R ⟨i, ps, g, r, t⟩ := by simpa using hl'
            clear hl' HL
            have g5 : (g == gj + 1) = true := by simpa using hgg
            clear hgg
            have hBB := bel_tr hB2 hBr
            obtain ⟨A4, k4, hblk, hrow, hA4, hk4⟩ := H.out
            have hxc := cell_bel hblk.one.1 hBB
            obtain ⟨m, hm⟩ : ∃ m, m = R.length := ⟨_, rfl⟩
            rw [← hm] at hxc hk4
            have HM := Lib.hid hm; clear hm
            have HBLK := Lib.hid (hblk.below hBB); clear hblk
            have HROW := Lib.hid (hrow.below hBB); clear hrow
            have HA4 := Lib.hid hA4; clear hA4
            have hm1 : m ≤ 100000 := by have := HRR.out; rw [HM.out]; exact this
            go_upto_block 2 with fail
            go_cut [11] from 49 to 70 (fun s11 wx => ∃ jj : Nat, jj ≤ m ∧ s11 = .int .i64 jj ∧ Hid (rPos R i = jj) ∧ Below wr.heap.size wr wx)
            case first =>
              go_wp2_with fail
              go_loopw [11] (fun v wq => ∃ jj : Nat, jj ≤ m ∧ v = .int .i64 jj ∧ Hid (∀ q c, q < jj → R[q]? = some c → c.id < i) ∧ Below wr.heap.size wr wq) (fun v _ => m - (intOf v).toNat)
              case atStart => exact ⟨0, Nat.zero_le _, rfl, fun q _ hq => absurd hq (Nat.not_lt_zero _), by (repeat (first | (with_reducible exact Below.refl _ _) | (with_reducible assumption) | (with_reducible refine bel_al0 ?_ _) | (with_reducible refine bel_set ?_ (by first | (simp; done) | (simp; omega)) _) | (with_reducible refine bel_dr ?_) | (with_reducible refine bel_drn ?_ _) | (with_reducible refine bel_tr ?_ (by assumption))))⟩
              case round =>
                obtain ⟨jj, hjj, rfl, hok, hBq⟩ := hrel
                replace hxc := cell_bel hxc hBq
                replace x0 := cell_bel x0 hBq
                replace x1 := cell_bel x1 hBq
                replace x2 := cell_bel x2 hBq
                replace x3 := cell_bel x3 hBq
                replace x4 := cell_bel x4 hBq
                by_cases hlt : jj < m
                · obtain ⟨c, hcj⟩ : ∃ c, R[jj]? = some c := ⟨_, List.getElem?_eq_getElem (by rw [← HM.out]; exact hlt)⟩
                  obtain ⟨b, off, A', k', rfl, c0, c1, c2, c3, c4, _⟩ := HROW.out.at_ hcj
                  replace c0 := cell_bel c0 hBq
                  have HC := Lib.hid hcj; clear hcj c1 c2 c3 c4
                  have hd1 : decide ((jj : Int) < (m : Int)) = true := by simp; omega
                  by_cases hci : c.id < i
                  · have hd2 : decide (c.id < i) = true := by simpa using hci
                    go_wp2
                    go_quiet (fail)
                    go_wp2
                    go_roundw
                    case rel =>
                      refine ⟨jj + 1, by omega, by go_num, fun q c' hq hq' => ?_, by (repeat (first | (with_reducible exact Below.refl _ _) | (with_reducible assumption) | (with_reducible refine bel_al0 ?_ _) | (with_reducible refine bel_set ?_ (by first | (simp; done) | (simp; omega)) _) | (with_reducible refine bel_dr ?_) | (with_reducible refine bel_drn ?_ _) | (with_reducible refine bel_tr ?_ (by assumption))))⟩
                      rcases Nat.lt_or_ge q jj with h' | h'
                      · exact hok.out q c' h' hq'
                      · obtain rfl : q = jj := by omega
                        rw [HC.out] at hq'; cases hq'; exact hci
                    case measure => simp [intOf]; omega
                  · have hd2 : decide (c.id < i) = false := by simpa using hci
                    have hpos := Lib.hid (rPos_stop (R := R) hok.out (by rw [← HM.out]; omega) (Or.inr ⟨c, HC.out, hci⟩))
                    clear hci
                    go_wp2
                    go_quiet (fail)
                    go_wp2
                    go_meet
                    exact ⟨jj, hjj, rfl, hpos, by (repeat (first | (with_reducible exact Below.refl _ _) | (with_reducible assumption) | (with_reducible refine bel_al0 ?_ _) | (with_reducible refine bel_set ?_ (by first | (simp; done) | (simp; omega)) _) | (with_reducible refine bel_dr ?_) | (with_reducible refine bel_drn ?_ _) | (with_reducible refine bel_tr ?_ (by assumption))))⟩
                · have hd1 : decide ((jj : Int) < (m : Int)) = false := by simp; omega
                  have hpos := Lib.hid (rPos_stop (R := R) hok.out (by rw [← HM.out]; omega) (Or.inl (by rw [← HM.out]; omega)))
                  go_wp2
                  go_quiet (fail)
                  go_wp2
                  go_meet
                  exact ⟨jj, hjj, rfl, hpos, by (repeat (first | (with_reducible exact Below.refl _ _) | (with_reducible assumption) | (with_reducible refine bel_al0 ?_ _) | (with_reducible refine bel_set ?_ (by first | (simp; done) | (simp; omega)) _) | (with_reducible refine bel_dr ?_) | (with_reducible refine bel_drn ?_ _) | (with_reducible refine bel_tr ?_ (by assumption))))⟩
            case rest =>
              obtain ⟨jj, hjj, rfl, hpos, hBq⟩ := hcut
              replace hxc := cell_bel hxc hBq
              replace x0 := cell_bel x0 hBq
              replace x1 := cell_bel x1 hBq
              replace x2 := cell_bel x2 hBq
              replace x3 := cell_bel x3 hBq
              replace x4 := cell_bel x4 hBq
              have hfz : wc.frozen? ⟨x, 0, none⟩ = false := (HBLK.out.below hBq).one.2 0
              have hxl := cell_lt hxc
              have hjk : jj ≤ k4 := by omega
              obtain ⟨A2, hA2, hA2'⟩ : ∃ A2, (if k4 = jj then A4 else Option.map (fun a => a.add (jj * 5)) A4) = A2 ∧ (∀ b off, A4 = some ⟨b, off, none⟩ → jj < R.length → A2 = some ⟨b, off + jj * 5, none⟩) := ⟨_, rfl, fun b off e hl => by
                rw [← HM.out] at hl
                rw [if_neg (by omega), e]
                simp [add_pl']⟩
              obtain ⟨u, w5, q5, q6, w6, r1, r2, r0, r3, r4, r5⟩ := ins_runs wc x R A4 k4 (HROW.out.below hBq) HA4.out jj (by rw [← HM.out]; exact hjj) HRR.out ⟨i, ps, g, r, t⟩ (.int .u64 i) (.slice A n k) (.int .u64 g) (.int .u64 r) (.string t) ⟨A, k, by rw [← HN.out], HF.out.below (bel_tr hBB hBq), HA.out⟩ A2 hA2'
              rw [← HM.out] at r1 r2 r5
              have hxc5 := cell_bel hxc r0; clear r0
              have hxc6 := cell_bel hxc r3
              have hfz6 : w6.frozen? ⟨x, 0, none⟩ = false := (r3.frozen (p := ⟨x, 0, none⟩) hxl).trans hfz
              have e : (rIns R ⟨i, ps, g, r, t⟩).length = m + 1 := by unfold rIns; rw [hpos.out]; simp [HM.out]; have := HM.out; omega
              have hblk6 := (HBLK.out.below hBq).below r3
              have hFIN : RAdded w x 0 (rIns R ⟨i, ps, g, r, t⟩) (.returned (.int .i64 0)) (w6.setCell ⟨x, 0, none⟩ (.slice (some ⟨q5, 0, none⟩) (m + 1) q6)) := by
                refine ⟨rfl, ⟨some ⟨q5, 0, none⟩, q6, ?_, CRow.but hblk6 (But.set _ _ _ _) ?_, (fun e => by cases e), ?_⟩, ?_⟩
                · have := hblk6.set 0 (.slice (some ⟨q5, 0, none⟩) (m + 1) q6)
                  rw [e]; exact this
                · unfold rIns; rw [hpos.out]; exact r4
                · rw [e]; exact r5
                · exact (But.of_below (bel_tr (bel_tr hBB hBq) r3)).trans (But.set _ _ _ _)
              have HFIN := Lib.hid hFIN
              have HR1 := Lib.hid r1
              have HR2 := Lib.hid r2
              clear hFIN r1 r2 r3 r4 r5 hblk6 e hpos hBB hBr hb1 hb2 hB1 hB2 hB hBq HN HF HA HP HM HBLK HROW HA4 HRR HS HR H HB1 HAT HIN hA2' hg ht
              go_wp2
              go_region_law (first | (refine step_append_run rfl (.tmp 80) (.tmp 86) 40 rfl _ _ rfl rfl HR1.out ?_) | (refine step_append_run rfl (.tmp 78) (.tmp 87) 40 rfl _ _ rfl rfl HR2.out ?_))
              all_goals (
                go_wp2
                go_ret
                exact HFIN.out)
          · rw [if_neg hgg] at hx
            subst hx
            have hl' := HL.out
            obtain rfl : R' = R := by simpa using hl'
            clear hl' HL
            have g5 : (g == gj + 1) = false := by simpa using hgg
            clear hgg
            go_wp2
            go_ret
            exact ⟨rfl, H.out.below (bel_tr hB2 hBr), But.of_below (bel_tr hB2 hBr)⟩
  · have hx := HX.out
    rw [if_neg he0] at hx
    subst hx
    have hl := HL.out
    rw [if_neg he0] at hl
    subst hl
    have g1 : (z == 0) = false := by simpa using he0
    have g2 : (!(z == 0)) = true := by simpa using he0
    clear he0
    go_wp2
    go_ret
    exact ⟨rfl, H.out.below hB, But.of_below hB⟩
end Go.Proofs.Ytehneliphhgegaa
