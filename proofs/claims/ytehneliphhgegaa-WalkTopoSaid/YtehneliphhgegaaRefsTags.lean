/- A tag has the commit with which it was made, as long as it is there: the statement's own walk. -/
import Derived.Test.YtehneliphhgegaaRefsLawA
set_option linter.unusedVariables false
set_option linter.unusedSimpArgs false
set_option maxRecDepth 100000
namespace Go.Proofs.Ytehneliphhgegaa
open Go.RowKit Go.Apo

structure DeedD where
  kind : Int
  name : ByteArray
  tag : Bool
  id : Int
  old : Int
/-- a slice of deeds that is read -/
structure DeedRow (w : World) (A : Option Addr) (n : Nat) (l : List DeedD) : Prop where
  len : l.length = n
  le : n * 40 ≤ 140737488351232
  at_ : 0 < n → ∃ b off, A = some ⟨b, off, none⟩ ∧ ∀ j r, l[j]? = some r → w.cell? ⟨b, off + j * 5, none⟩ = some (.int .i64 r.kind) ∧ w.cell? ⟨b, off + j * 5 + 1, none⟩ = some (.string r.name) ∧ w.cell? ⟨b, off + j * 5 + 2, none⟩ = some (.bool r.tag) ∧ w.cell? ⟨b, off + j * 5 + 3, none⟩ = some (.int .u64 r.id) ∧ w.cell? ⟨b, off + j * 5 + 4, none⟩ = some (.int .u64 r.old)

theorem RefRow.below {w w' : World} {A : Option Addr} {n : Nat} {l : List RefD} (h : RefRow w A n l) (hb : Below w.heap.size w w') : RefRow w' A n l :=
  ⟨h.len, h.le, fun h0 => by
    obtain ⟨b, off, e, hc⟩ := h.at_ h0
    exact ⟨b, off, e, fun j r hj => by
      obtain ⟨c0, c1, c2⟩ := hc j r hj
      exact ⟨cell_bel c0 hb, cell_bel c1 hb, cell_bel c2 hb⟩⟩⟩
theorem TableAt.but {w w' : World} {p m k : Nat} {L : List (ByteArray × RefD)} (h : TableAt w p m L) (hb : But k w w') (hp : p ≠ k) (hm : m ≠ k) : TableAt w' p m L :=
  ⟨(hb.cell (p := ⟨p, 0, none⟩) (cell_lt h.1) hp).trans h.1, ⟨by
    obtain ⟨es, c, h1, h2, h3⟩ := h.2.ex
    exact ⟨es, c, (hb.block m h.2.lt hm).trans h1, h2, h3⟩⟩⟩
theorem makeL_ok {L : List (ByteArray × RefD)} {r : RefD} (h : makeE L r = 0) : makeL L r = mput L r.name r := by unfold makeL; rw [if_pos h]
theorem tag_make {L : List (ByteArray × RefD)} {n : ByteArray} {v : RefD} (h : mget L n = some v) (r : RefD) : mget (makeL L r) n = some v := by
  unfold makeL
  split
  · rename_i he
    rw [mget_mput]
    split
    · rename_i hn
      unfold makeE at he
      rw [← hn, h] at he
      split at he <;> simp at he
    · exact h
  · exact h
theorem tag_set {L : List (ByteArray × RefD)} {n : ByteArray} {v : RefD} (h : mget L n = some v) (ht : v.tag = true) (s : ByteArray) (old id : Int) : mget (setL L s old id) n = some v := by
  unfold setL
  split
  · rename_i he
    rw [mget_mput]
    split
    · rename_i hn
      subst hn
      unfold setE rGet at he
      rw [h] at he
      simp [ht] at he
    · exact h
  · exact h
theorem tag_set_ne {L : List (ByteArray × RefD)} {n : ByteArray} {v : RefD} (h : mget L n = some v) (ht : v.tag = true) (s : ByteArray) (old : Int) (he : setE L s old = 0) : s ≠ n := by
  intro e; subst e
  unfold setE rGet at he
  rw [h] at he
  simp [ht] at he

theorem refsTags_calls (w : World) (A : Option Addr) (n c : Nat) (l : List RefD) (h : RefRow w A n l) (D : Option Addr) (dn dc : Nat) (ds : List DeedD) (hd : DeedRow w D dn ds) (tn : ByteArray) (tt : Bool) (ti : Int) :
    Calls Try.prog 3 #[.slice A n c, .slice D dn dc, .agg #[.string tn, .bool tt, .int .u64 ti]] w fun e w' => e = .returned (.bool true) ∧ Below w.heap.size w w' := by
  have hdn := hd.le
  have HF := Lib.hid (fun W hW => few16_calls W A n c l hW)
  have H := Lib.hid h; clear h
  have HD := Lib.hid hd; clear hd
  obtain ⟨fb, hfb⟩ : ∃ fb, fb = fewB l := ⟨_, rfl⟩
  rw [← hfb] at HF
  clear hfb
  go_enter Try.func3, Try.ntmps3
  go_wp2_with fail
  refine (awake16_calls _).mono ?_
  rintro e w1 ⟨rfl, hb1⟩
  go_wp2_with fail
  have hB1 : Below w.heap.size w w1 := by (repeat (first | (with_reducible exact Below.refl _ _) | (with_reducible assumption) | (with_reducible refine bel_al0 ?_ _) | (with_reducible refine bel_set ?_ (by first | (simp; done) | (simp; omega)) _) | (with_reducible refine bel_dr ?_) | (with_reducible refine bel_drn ?_ _) | (with_reducible refine bel_tr ?_ (by assumption))))
  refine (HF.out _ (H.out.below hB1)).mono ?_
  rintro e w2 ⟨rfl, hb2⟩
  have hB2 : Below w.heap.size w w2 := bel_tr hB1 hb2
  cases fb with
  | false =>
    go_wp2
    go_ret
    exact ⟨rfl, hB2⟩
  | true =>
    by_cases h40 : 40 < dn
    · have g1 : decide ((40 : Int) < dn) = true := by simp; omega
      go_wp2
      go_ret
      exact ⟨rfl, hB2⟩
    · have g1 : decide ((40 : Int) < dn) = false := by simp; omega
      go_wp2_with fail
      clear g1
      refine (new_calls _ _ _ _ _ (H.out.below hB2)).mono ?_
      rintro e w3 ⟨p, m, rfl, ht3, hm3, hp3, hb3⟩
      have hB3 : Below w.heap.size w w3 := bel_tr hB2 hb3
      have hz1 : w.heap.size < w1.heap.size := by have := hb1.size; simp at this; omega
      have hz2 := hb2.size
      have hz3 := hb3.size
      obtain ⟨hc1, hf1⟩ := bcell hb1
      obtain ⟨hc2, hf2⟩ := bcell hb2
      obtain ⟨hc3, hf3⟩ := bcell hb3
      have c0 : w3.cell? ⟨w.heap.size, 0, none⟩ = some (.string tn) := by rw [hc3 _ _ (by omega), hc2 _ _ (by omega), hc1 _ _ (by simp)]; exact cell_at_new _ _ _ _ rfl
      have c1 : w3.cell? ⟨w.heap.size, 1, none⟩ = some (.bool tt) := by rw [hc3 _ _ (by omega), hc2 _ _ (by omega), hc1 _ _ (by simp)]; exact cell_at_new _ _ _ _ rfl
      have c2 : w3.cell? ⟨w.heap.size, 2, none⟩ = some (.int .u64 ti) := by rw [hc3 _ _ (by omega), hc2 _ _ (by omega), hc1 _ _ (by simp)]; exact cell_at_new _ _ _ _ rfl
      have f1 : w3.frozen? ⟨w.heap.size, 1, none⟩ = false := by rw [hf3 _ _ (by omega), hf2 _ _ (by omega), hf1 _ _ (by simp)]; exact frozen_at_new _ _ _ _
      clear hc1 hf1 hc2 hf2 hc3 hf3
      have HT3 := Lib.hid ht3; clear ht3
      go_wp2_with fail
      generalize hW : w3.setCell ⟨w.heap.size, 1, none⟩ (.bool true) = W
      have hbut : But w.heap.size w3 W := by rw [← hW]; exact But.set _ _ _ _
      have d0 : W.cell? ⟨w.heap.size, 0, none⟩ = some (.string tn) := by rw [← hW, World.cell?_setCell_other _ _ _ _ (by simp)]; exact c0
      have d1 : W.cell? ⟨w.heap.size, 1, none⟩ = some (.bool true) := by rw [← hW]; exact World.cell?_setCell_same _ _ _ c1
      have d2 : W.cell? ⟨w.heap.size, 2, none⟩ = some (.int .u64 ti) := by rw [← hW, World.cell?_setCell_other _ _ _ _ (by simp)]; exact c2
      have hBW : Below w.heap.size w W := hbut.below hB3 (Nat.le_refl _) (Nat.le_refl _)
      have hszW : W.heap.size = w3.heap.size := by rw [← hW]; simp [World.setCell]
      have hTW := HT3.out.but hbut (by omega) (by omega)
      have HTW := Lib.hid hTW; clear hTW
      clear hW hbut c0 c1 c2 f1 hszW
      obtain ⟨o, ho, hoc⟩ := HTW.out.2.notCells
      refine (make_calls _ _ _ _ HTW.out _ _ _).mono ?_
      rintro e w4 ⟨rfl, ht4, hb4⟩
      replace d0 := hb4.cell_keeps ho hoc d0
      replace d1 := hb4.cell_keeps ho hoc d1
      replace d2 := hb4.cell_keeps ho hoc d2
      have hB4 : Below w.heap.size w w4 := hb4.below hBW (Nat.le_refl _) (by omega)
      clear ho hoc hBW hb4
      obtain ⟨x, hx⟩ : ∃ x, x = makeE (l.foldl makeL []) ⟨tn, true, ti⟩ := ⟨_, rfl⟩
      rw [← hx]
      by_cases hx0 : x = 0
      · subst hx0
        obtain ⟨L4, hL4⟩ : ∃ L4, L4 = makeL (l.foldl makeL []) ⟨tn, true, ti⟩ := ⟨_, rfl⟩
        rw [← hL4] at ht4
        have hg4 : mget L4 tn = some ⟨tn, true, ti⟩ := by
          rw [hL4, makeL_ok hx.symm, mget_mput]; simp
        have HT4 := Lib.hid ht4; clear ht4
        have HG4 := Lib.hid hg4; clear hg4
        clear hx hL4 HTW HT3 HF
        have hmw : w.heap.size ≤ m := by omega
        have hdn40 : dn ≤ 40 := by omega
        clear hm3 hp3 hz1 hz2 hz3 hb1 hb2 hb3 hB1 hB2 hB3 h40
        go_wp2_with fail
        go_loopw [31, 9, 10, 11] (fun i _ _ _ wr => ∃ k : Nat, k ≤ dn ∧ i = .int .i64 k ∧ Hid (∃ L, TableAt wr p m L ∧ mget L tn = some ⟨tn, true, ti⟩) ∧ wr.cell? ⟨w.heap.size, 0, none⟩ = some (.string tn) ∧ wr.cell? ⟨w.heap.size, 1, none⟩ = some (.bool true) ∧ wr.cell? ⟨w.heap.size, 2, none⟩ = some (.int .u64 ti) ∧ Below w.heap.size w wr) (fun i _ _ _ _ => dn - (intOf i).toNat)
        case atStart => exact ⟨0, Nat.zero_le _, rfl, ⟨L4, HT4.out, HG4.out⟩, d0, d1, d2, hB4⟩
        case round =>
          clear d0 d1 d2 hB4 HT4 HG4
          obtain ⟨k, hk, rfl, ht, d0, d1, d2, hB⟩ := hrel
          obtain ⟨L, ht, hgl⟩ := ht.out
          have HT := Lib.hid ht; clear ht
          have HG := Lib.hid hgl; clear hgl
          by_cases hlt : k < dn
          · obtain ⟨b, off, rfl, hcell⟩ := HD.out.at_ (by omega)
            have hlk : ds[k]? = some (ds[k]'(by rw [HD.out.len]; exact hlt)) := List.getElem?_eq_getElem _
            obtain ⟨⟨dk, dm, dt, di, dold⟩, hlk⟩ : ∃ d, ds[k]? = some d := ⟨_, hlk⟩
            obtain ⟨e0, e1, e2, e3, e4⟩ := hcell k _ hlk
            clear hcell hlk
            simp only at e0 e1 e2 e3 e4
            replace e0 := cell_bel e0 hB
            replace e1 := cell_bel e1 hB
            replace e2 := cell_bel e2 hB
            replace e3 := cell_bel e3 hB
            replace e4 := cell_bel e4 hB
            have hz := hB.size
            have hlt0 := cell_lt d0
            by_cases h40 : 40 < dm.size
            · have g1 : decide ((40 : Int) < dm.size) = true := by simp; omega
              go_wp2
              go_ret
              exact ⟨rfl, by (repeat (first | (with_reducible exact Below.refl _ _) | (with_reducible assumption) | (with_reducible refine bel_al0 ?_ _) | (with_reducible refine bel_set ?_ (by first | (simp; done) | (simp; omega)) _) | (with_reducible refine bel_dr ?_) | (with_reducible refine bel_drn ?_ _) | (with_reducible refine bel_tr ?_ (by assumption))))⟩
            · have g1 : decide ((40 : Int) < dm.size) = false := by simp; omega
              clear h40
              by_cases hk0 : dk = 0
              · subst hk0
                go_wp2_with fail
                refine (make_calls _ _ _ _ (HT.out.below (bel_al0 (Below.refl _ _) _)) _ _ _).mono ?_
                rintro e w5 ⟨rfl, ht5, hb5⟩
                have hbut5 : But m wr w5 := (But.of_below (bel_al0 (Below.refl _ _) _)).trans hb5
                obtain ⟨o, ho, hoc⟩ := HT.out.2.notCells
                replace d0 := hbut5.cell_keeps ho hoc d0
                replace d1 := hbut5.cell_keeps ho hoc d1
                replace d2 := hbut5.cell_keeps ho hoc d2
                have hB5 : Below w.heap.size w w5 := hbut5.below hB (Nat.le_refl _) hmw
                have hg5 := tag_make HG.out (⟨dm, dt, di⟩ : RefD)
                have HT5 := Lib.hid ht5; clear ht5
                have HG5 := Lib.hid hg5; clear hg5

                clear hb5 hbut5 e0 e1 e2 e3 e4
                go_wp2_with fail
                refine (get_some p m _ _ HT5.out _ HG5.out).mono ?_
                rintro e w6 ⟨rfl, hb6⟩
                replace d0 := cell_bel d0 hb6
                replace d1 := cell_bel d1 hb6
                replace d2 := cell_bel d2 hb6
                have hB6 := bel_tr hB5 hb6
                have hlt6 := cell_lt d0
                have HT6 := Lib.hid (HT5.out.below hb6)
                go_wp2
                go_roundw
                case rel => exact ⟨k + 1, by omega, by go_num, ⟨_, HT6.out.below (bel_al0 (Below.refl _ _) _), HG5.out⟩, cell_al d0 _, cell_al d1 _, cell_al d2 _, bel_al0 hB6 _⟩
                case measure => simp [intOf]; omega

              · have g2 : (dk == 0) = false := by simpa using hk0
                clear hk0
                go_wp2_with fail
                refine (set_calls _ _ _ _ (HT.out.below (bel_al0 (Below.refl _ _) _)) _ _ _).mono ?_
                rintro e w5 ⟨rfl, ht5, hb5⟩
                have hbut5 : But m wr w5 := (But.of_below (bel_al0 (Below.refl _ _) _)).trans hb5
                have b1 : w5.cell? ⟨wr.heap.size, 1, none⟩ = some (.string dm) := by
                  obtain ⟨o, ho, hoc⟩ := (HT.out.below (bel_al0 (Below.refl _ wr) (.cells #[.int .i64 dk, .string dm, .bool dt, .int .u64 di, .int .u64 dold] 34))).2.notCells
                  exact hb5.cell_keeps ho hoc (cell_at_new _ _ _ _ rfl)
                obtain ⟨o, ho, hoc⟩ := HT.out.2.notCells
                replace d0 := hbut5.cell_keeps ho hoc d0
                replace d1 := hbut5.cell_keeps ho hoc d1
                replace d2 := hbut5.cell_keeps ho hoc d2
                have hB5 : Below w.heap.size w w5 := hbut5.below hB (Nat.le_refl _) hmw
                have hg5 := tag_set HG.out rfl dm dold di
                have HT5 := Lib.hid ht5; clear ht5
                have HG5 := Lib.hid hg5; clear hg5

                have hne5 := tag_set_ne HG.out rfl dm dold
                obtain ⟨x5, hx5⟩ : ∃ x5, x5 = setE L dm dold := ⟨_, rfl⟩
                rw [← hx5] at hne5 ⊢
                clear hb5 hbut5 e0 e1 e2 e3 e4 hx5
                by_cases hx0 : x5 = 0
                · subst hx0
                  have g3 := hne5 rfl
                  have g4 := text_ne g3
                  clear hne5 g3
                  go_wp2_with fail
                  refine (get_some p m _ _ HT5.out _ HG5.out).mono ?_
                  rintro e w6 ⟨rfl, hb6⟩
                  replace d0 := cell_bel d0 hb6
                  replace d1 := cell_bel d1 hb6
                  replace d2 := cell_bel d2 hb6
                  have hB6 := bel_tr hB5 hb6
                  have hlt6 := cell_lt d0
                  have HT6 := Lib.hid (HT5.out.below hb6)
                  go_wp2
                  go_roundw
                  case rel => exact ⟨k + 1, by omega, by go_num, ⟨_, HT6.out.below (bel_al0 (Below.refl _ _) _), HG5.out⟩, cell_al d0 _, cell_al d1 _, cell_al d2 _, bel_al0 hB6 _⟩
                  case measure => simp [intOf]; omega
                · have g3 : (x5 == 0) = false := by simpa using hx0
                  clear hne5 hx0
                  go_wp2_with fail
                  refine (get_some p m _ _ HT5.out _ HG5.out).mono ?_
                  rintro e w6 ⟨rfl, hb6⟩
                  replace d0 := cell_bel d0 hb6
                  replace d1 := cell_bel d1 hb6
                  replace d2 := cell_bel d2 hb6
                  have hB6 := bel_tr hB5 hb6
                  have hlt6 := cell_lt d0
                  have HT6 := Lib.hid (HT5.out.below hb6)
                  go_wp2
                  go_roundw
                  case rel => exact ⟨k + 1, by omega, by go_num, ⟨_, HT6.out.below (bel_al0 (Below.refl _ _) _), HG5.out⟩, cell_al d0 _, cell_al d1 _, cell_al d2 _, bel_al0 hB6 _⟩
                  case measure => simp [intOf]; omega

          · have hk' : k = dn := by omega
            subst hk'
            clear hlt
            go_wp2_with fail
            have D1 := drop_calls p m wr L HT.out tn
            rw [show dropE L tn = 0 from by unfold dropE; rw [HG.out]; rfl] at D1
            refine D1.mono ?_
            rintro e w5 ⟨rfl, ht5, hb5⟩
            obtain ⟨o, ho, hoc⟩ := HT.out.2.notCells
            replace d0 := hb5.cell_keeps ho hoc d0
            have hB5 : Below w.heap.size w w5 := hb5.below hB (Nat.le_refl _) hmw
            have D2 := drop_calls p m w5 _ ht5 tn
            rw [show dropE (mdel L tn) tn = 111 from by unfold dropE; rw [mget_mdel]; simp] at D2
            have HD2 := Lib.hid D2; clear D2 ht5 hb5 D1
            go_wp2_with fail
            refine HD2.out.mono ?_
            rintro e w6 ⟨rfl, ht6, hb6⟩
            have hB6 : Below w.heap.size w w6 := hb6.below hB5 (Nat.le_refl _) hmw
            clear ht6 hb6
            go_wp2
            go_ret
            exact ⟨rfl, hB6⟩
      · have g2 : (x == 0) = false := by simpa using hx0
        have g3 : (!(x == 0)) = true := by simpa using hx0
        clear hx hx0
        go_wp2
        go_ret
        exact ⟨rfl, hB4⟩
end Go.Proofs.Ytehneliphhgegaa
