/- The document's table of refs: Make, and a new table: walked once. -/
import Derived.Test.YtehneliphhgegaaRMake
import Derived.Test.YtehneliphhgegaaRName
import Derived.Deep.CutBlock
import Derived.Deep.RegionLaw
set_option linter.unusedVariables false
set_option linter.unusedSimpArgs false
set_option maxRecDepth 100000
namespace Go.Proofs.Ytehneliphhgegaa
open Go.RowKit Go.Apo

def ltS (a b : ByteArray) : Bool := Op.bytesLess a.toList b.toList
def rmakeE (R : List RefD) (r : RefD) : Int := if nameB r.name then (if (rFindR R r.name).isSome then 112 else if 40 ≤ R.length then 4 else 0) else 110
/-- where a ref goes in -/
def rPosR (R : List RefD) (s : ByteArray) : Nat := (R.takeWhile fun c => ltS c.name s).length
def rInsR (R : List RefD) (c : RefD) : List RefD := R.take (rPosR R c.name) ++ [c] ++ R.drop (rPosR R c.name)
def rmakeL (R : List RefD) (r : RefD) : List RefD := if rmakeE R r = 0 then rInsR R r else R
theorem rPosR_le (R : List RefD) (s : ByteArray) : rPosR R s ≤ R.length := by
  unfold rPosR
  exact (List.takeWhile_sublist _).length_le
theorem rPosR_stop {R : List RefD} {s : ByteArray} : ∀ {j : Nat}, (∀ (q : Nat) (c : RefD), q < j → R[q]? = some c → ltS c.name s = true) → j ≤ R.length → (j = R.length ∨ ∃ c, R[j]? = some c ∧ ltS c.name s = false) → rPosR R s = j := by
  induction R with
  | nil => intro j _ h2 _; simp at h2; subst h2; rfl
  | cons a R ih =>
    intro j h1 h2 h3
    cases j with
    | zero =>
      rcases h3 with h3 | ⟨c, hc, hn⟩
      · simp at h3
      · simp at hc; subst hc
        unfold rPosR
        rw [List.takeWhile_cons_of_neg (by simpa using hn)]; rfl
    | succ j =>
      have ha : ltS a.name s = true := h1 0 a (by omega) rfl
      have := ih (j := j) (fun q c hq hc => h1 (q + 1) c (by omega) (by simpa using hc)) (by simp at h2; omega) (by
        rcases h3 with h3 | ⟨c, hc, hn⟩
        · left; simp at h3; omega
        · right; exact ⟨c, by simpa using hc, hn⟩)
      unfold rPosR at this ⊢
      rw [List.takeWhile_cons_of_pos (by simpa using ha)]
      simp [this]
theorem rFindR_isSome {R : List RefD} {s : ByteArray} : ((0 : Int) ≤ rAtR R s) ↔ (rFindR R s).isSome = true := by
  rcases rAtR_cases R s with ⟨h1, h2⟩ | ⟨k, c, h1, _, _, h4⟩
  · rw [h1, h2]; simp
  · rw [h1, h4]; simp
set_option maxHeartbeats 8000000 in
theorem tmake_calls (B : Nat) (w : World) (x : Nat) (R : List RefD) (h : RTab B w x R) (hBw : B ≤ w.heap.size) (hR : R.length ≤ 100000) (s : ByteArray) (hs : s.size ≤ 1000000) (t : Bool) (i : Int) :
    Calls Try.prog 33 #[.pointer (some ⟨x, 0, none⟩), .agg #[.string s, .bool t, .int .u64 i]] w (TDone B w x (rmakeE R ⟨s, t, i⟩) (rmakeL R ⟨s, t, i⟩)) := by
  obtain ⟨z, hz⟩ : ∃ z, z = rmakeE R ⟨s, t, i⟩ := ⟨_, rfl⟩
  obtain ⟨R', hR'⟩ : ∃ R', R' = rmakeL R ⟨s, t, i⟩ := ⟨_, rfl⟩
  rw [← hz, ← hR']
  have hL' : R' = if z = 0 then rInsR R ⟨s, t, i⟩ else R := by rw [hR', hz]; rfl
  clear hR'
  unfold rmakeE at hz
  simp only at hz
  have HNM := Lib.hid (fun W => rname_calls s hs W)
  have HAT := Lib.hid (fun W hW => tat_calls B W x R hW (by omega) s)
  have hfs := @rFindR_isSome R s
  have H := Lib.hid h
  obtain ⟨nb, hnb⟩ : ∃ nb, nb = nameB s := ⟨_, rfl⟩
  obtain ⟨ai, hai⟩ : ∃ ai, ai = rAtR R s := ⟨_, rfl⟩
  rw [← hnb] at HNM hz
  rw [← hai] at HAT hfs
  obtain ⟨A4, k4, hblk, hk4, hA4, hrow⟩ := h.ex
  have hxc0 := hblk.one.1
  have hxl0 := cell_lt hxc0
  obtain ⟨m, hm⟩ : ∃ m, m = R.length := ⟨_, rfl⟩
  rw [← hm] at hxc0 hk4 hz hR
  have HM := Lib.hid hm
  have HBL := Lib.hid hblk
  have HROW : Hid (RRow B w A4 R) := hrow
  have HA4 := Lib.hid hA4
  have HL := Lib.hid hL'
  have HZ := Lib.hid hz
  have HFS := Lib.hid hfs
  have hB1 := bel_al0 (Below.refl w.heap.size w) (.cells #[.string s, .bool t, .int .u64 i] 26)
  have HB1 := Lib.hid (blk_new w #[.string s, .bool t, .int .u64 i] 26)
  clear hnb hai hblk hrow hA4 hm hL' hz hfs h
  obtain ⟨y0, y1, y2, yf⟩ := HB1.out.three
  have hy0 := cell_lt y0
  clear yf
  cases nb with
  | false =>
    have hz := HZ.out
    simp only [Bool.false_eq_true, if_false] at hz
    subst hz
    have hl := HL.out
    obtain rfl : R' = R := by simpa using hl
    clear hl HL HZ HFS
    go_enter Try.func33, Try.ntmps33
    go_wp2_with (go_at_call 42; refine (HNM.out _).mono ?_; rintro e w2 ⟨rfl, rfl⟩)
    go_ret
    exact tdone_below H.out hBw hB1
  | true =>
    by_cases hin : (rFindR R s).isSome = true
    · have ha0 : (0 : Int) ≤ ai := HFS.out.2 hin
      have hz := HZ.out
      rw [if_pos rfl, if_pos hin] at hz
      subst hz
      have hl := HL.out
      obtain rfl : R' = R := by simpa using hl
      clear hl HL HZ HFS hin
      go_enter Try.func33, Try.ntmps33
      go_wp2_with (first
        | (go_at_call 42; refine (HNM.out _).mono ?_; rintro e w2 ⟨rfl, rfl⟩)
        | (go_at_call 80; refine (HAT.out _ (H.out.below hB1)).mono ?_; rintro e w2 ⟨rfl, hb2⟩))
      go_ret
      exact tdone_below H.out hBw (bel_tr hB1 hb2)
    · have ha0 : ¬ (0 : Int) ≤ ai := fun q => hin (HFS.out.1 q)
      have hz := HZ.out
      rw [if_pos rfl, if_neg hin] at hz
      clear HZ HFS
      have HIN := Lib.hid hin; clear hin
      by_cases h40 : 40 ≤ m
      · rw [if_pos h40] at hz
        subst hz
        have hl := HL.out
        obtain rfl : R' = R := by simpa using hl
        clear hl HL
        have g1 : decide ((40 : Int) ≤ (m : Int)) = true := by simp; omega
        go_enter Try.func33, Try.ntmps33
        go_wp2_with (first
          | (go_at_call 42; refine (HNM.out _).mono ?_; rintro e w2 ⟨rfl, rfl⟩)
          | (go_at_call 80; refine (HAT.out _ (H.out.below hB1)).mono ?_; rintro e w2 ⟨rfl, hb2⟩; have hx2 := cell_bel (cell_bel hxc0 hB1) hb2))
        go_ret
        exact tdone_below H.out hBw (bel_tr hB1 hb2)
      · rw [if_neg h40] at hz
        subst hz
        have hl := HL.out
        obtain rfl : R' = rInsR R ⟨s, t, i⟩ := by simpa using hl
        clear hl HL
        have g1 : decide ((40 : Int) ≤ (m : Int)) = false := by simp; omega
        go_enter Try.func33, Try.ntmps33
        go_upto_block 0 with (first
          | (go_at_call 42; refine (HNM.out _).mono ?_; rintro e w2 ⟨rfl, rfl⟩)
          | (go_at_call 80; refine (HAT.out _ (H.out.below hB1)).mono ?_; rintro e w2 ⟨rfl, hb2⟩; have hx2 := cell_bel (cell_bel hxc0 hB1) hb2))
        have hB2 := bel_tr hB1 hb2
        have v0 := cell_bel y0 hb2
        have v1 := cell_bel y1 hb2
        have v2 := cell_bel y2 hb2
        have HRW : Hid (RRow B w2 A4 R) := HROW.out.below hB2
        have HBK := Lib.hid (HBL.out.below hB2)
        have hvl := cell_lt v0
        clear y0 y1 y2 hy0 hxc0 HB1 HNM HAT HIN HROW HBL hb2 ha0 hB1
        obtain ⟨wr, rfl⟩ : ∃ wr : World, wr = w2 := ⟨_, rfl⟩
        go_cut [5] from 21 to 42 (fun s5 wx => ∃ jj : Nat, jj ≤ m ∧ s5 = .int .i64 jj ∧ Hid (rPosR R s = jj) ∧ Below wr.heap.size wr wx)
        case first =>
          go_wp2_with fail
          go_loopw [5] (fun v wq => ∃ jj : Nat, jj ≤ m ∧ v = .int .i64 jj ∧ Hid (∀ q c, q < jj → R[q]? = some c → ltS c.name s = true) ∧ Below wr.heap.size wr wq) (fun v _ => m - (intOf v).toNat)
          case atStart => exact ⟨0, Nat.zero_le _, rfl, fun q _ hq => absurd hq (Nat.not_lt_zero _), by (repeat (first | (with_reducible exact Below.refl _ _) | (with_reducible assumption) | (with_reducible refine bel_al0 ?_ _) | (with_reducible refine bel_set ?_ (by first | (simp; done) | (simp; omega)) _) | (with_reducible refine bel_dr ?_) | (with_reducible refine bel_drn ?_ _) | (with_reducible refine bel_tr ?_ (by assumption))))⟩
          case round =>
            obtain ⟨jj, hjj, rfl, hok, hBq⟩ := hrel
            replace hx2 := cell_bel hx2 hBq
            replace v0 := cell_bel v0 hBq
            replace v1 := cell_bel v1 hBq
            replace v2 := cell_bel v2 hBq
            by_cases hlt : jj < m
            · obtain ⟨c, hcj⟩ : ∃ c, R[jj]? = some c := ⟨_, List.getElem?_eq_getElem (by rw [← HM.out]; exact hlt)⟩
              obtain ⟨g, rfl, _, c0, c1, c2, _⟩ := RTab.at_ HRW.out hcj
              replace c0 := cell_bel c0 hBq
              have HC := Lib.hid hcj; clear hcj c1 c2
              have hd1 : decide ((jj : Int) < (m : Int)) = true := by simp; omega
              cases hci : ltS c.name s with
              | true =>
                have hd2 : Op.bytesLess c.name.toList s.toList = true := hci
                go_wp2
                go_quiet (fail)
                go_wp2
                go_roundw
                case rel =>
                  refine ⟨jj + 1, by omega, by go_num, fun q c' hq hq' => ?_, by (repeat (first | (with_reducible exact Below.refl _ _) | (with_reducible assumption) | (with_reducible refine bel_al0 ?_ _) | (with_reducible refine bel_set ?_ (by first | (simp; done) | (simp; omega)) _) | (with_reducible refine bel_dr ?_) | (with_reducible refine bel_drn ?_ _) | (with_reducible refine bel_tr ?_ (by assumption))))⟩
                  rcases Nat.lt_or_ge q jj with h' | h'
                  · exact hok.out q c' h' hq'
                  · obtain rfl : q = jj := by omega
                    rw [HC.out] at hq'; cases hq'; exact hci
                case measure => simp [intOf]; omega
              | false =>
                have hd2 : Op.bytesLess c.name.toList s.toList = false := hci
                have hpos := Lib.hid (rPosR_stop (R := R) hok.out (by rw [← HM.out]; omega) (Or.inr ⟨c, HC.out, hci⟩))
                clear hci
                go_wp2
                go_quiet (fail)
                go_wp2
                go_meet
                exact ⟨jj, hjj, rfl, hpos, by (repeat (first | (with_reducible exact Below.refl _ _) | (with_reducible assumption) | (with_reducible refine bel_al0 ?_ _) | (with_reducible refine bel_set ?_ (by first | (simp; done) | (simp; omega)) _) | (with_reducible refine bel_dr ?_) | (with_reducible refine bel_drn ?_ _) | (with_reducible refine bel_tr ?_ (by assumption))))⟩
            · have hd1 : decide ((jj : Int) < (m : Int)) = false := by simp; omega
              have hpos := Lib.hid (rPosR_stop (R := R) hok.out (by rw [← HM.out]; omega) (Or.inl (by rw [← HM.out]; omega)))
              go_wp2
              go_quiet (fail)
              go_wp2
              go_meet
              exact ⟨jj, hjj, rfl, hpos, by (repeat (first | (with_reducible exact Below.refl _ _) | (with_reducible assumption) | (with_reducible refine bel_al0 ?_ _) | (with_reducible refine bel_set ?_ (by first | (simp; done) | (simp; omega)) _) | (with_reducible refine bel_dr ?_) | (with_reducible refine bel_drn ?_ _) | (with_reducible refine bel_tr ?_ (by assumption))))⟩
        case rest =>
          obtain ⟨jj, hjj, rfl, hpos, hBq⟩ := hcut
          replace hx2 := cell_bel hx2 hBq
          replace v0 := cell_bel v0 hBq
          replace v1 := cell_bel v1 hBq
          replace v2 := cell_bel v2 hBq
          have hfz : wc.frozen? ⟨x, 0, none⟩ = false := (HBK.out.below hBq).one.2 0
          have hxl : x < wc.heap.size := cell_lt hx2
          have hjk : jj ≤ k4 := by omega
          obtain ⟨A2, hA2, hA2'⟩ : ∃ A2, (if k4 = jj then A4 else Option.map (fun a => a.add (jj * 3)) A4) = A2 ∧ (∀ b off, A4 = some ⟨b, off, none⟩ → jj < R.length → A2 = some ⟨b, off + jj * 3, none⟩) := ⟨_, rfl, fun b off e hl => by
            rw [← HM.out] at hl
            rw [if_neg (by omega), e]
            simp [add_pl']⟩
          obtain ⟨u, w5, q5, q6, w6, cs6, r1, r2, r0, r3, rg, rb, r4, r5⟩ := ins_runsR B wc R A4 k4 (HRW.out.below hBq) HA4.out jj (by rw [← HM.out]; exact hjj) (by rw [← HM.out]; omega) ⟨s, t, i⟩ A2 hA2'
          rw [← HM.out] at r1 r2 r5 r4
          have hx5 := cell_bel hx2 r0; clear r0
          have hx6 := cell_bel hx2 r3
          have hfz6 : w6.frozen? ⟨x, 0, none⟩ = false := (r3.frozen (p := ⟨x, 0, none⟩) hxl).trans hfz
          have e : (rInsR R ⟨s, t, i⟩).length = m + 1 := by unfold rInsR; rw [hpos.out]; simp [HM.out]; have := HM.out; omega
          have hblk6 := (HBK.out.below hBq).below r3
          have hB6 : Below w.heap.size w w6 := bel_tr (bel_tr hB2 hBq) r3
          have hgx : q5 ≠ x := by omega
          have hFIN : TDone B w x 0 (rInsR R ⟨s, t, i⟩) (.returned (.int .i64 0)) (w6.setCell ⟨x, 0, none⟩ (.slice (some ⟨q5, 0, none⟩) (m + 1) q6)) := by
            refine ⟨rfl, ⟨H.out.lo, some ⟨q5, 0, none⟩, q6, ?_, ?_, (fun e => by cases e), fun _ => ⟨q5, cs6, rfl, ?_, rb.other hgx _ _, ?_⟩⟩, (hB6.mono hBw).setCell (p := ⟨x, 0, none⟩) H.out.lo _, fun k hk hkx _ => ?_⟩
            · have := hblk6.set 0 (.slice (some ⟨q5, 0, none⟩) (m + 1) q6)
              rw [e]; exact this
            · rw [e]; exact r5
            · have := (bel_tr hB2 hBq).size; omega
            · rw [e, r4]; unfold rInsR; rw [hpos.out]
            · rw [Below.heap_setCell _ _ _ _ hkx]; exact hB6.block k hk
          have HFIN := Lib.hid hFIN
          have HR1 := Lib.hid r1
          have HR2 := Lib.hid r2
          clear hFIN r1 r2 r3 r4 r5 rg rb hblk6 e hpos hBq hB2 hB6 hgx HM HBK HRW HA4 H hA2'
          go_wp2
          go_region_law (first | (refine step_append_run rfl (.tmp 52) (.tmp 58) 22 rfl _ _ rfl rfl HR1.out ?_) | (refine step_append_run rfl (.tmp 50) (.tmp 59) 22 rfl _ _ rfl rfl HR2.out ?_))
          all_goals (
            go_wp2
            go_ret
            exact HFIN.out)
end Go.Proofs.Ytehneliphhgegaa
