/- Generations: walked. -/
import Derived.Test.YtehneliphhgegaaPlainGens
set_option linter.unusedVariables false
set_option linter.unusedSimpArgs false
set_option maxRecDepth 100000
namespace Go.Proofs.Ytehneliphhgegaa
open Go.RowKit Go.Apo

set_option maxHeartbeats 8000000 in
theorem graphGens_calls (w : World) (A : Option Addr) (n k : Nat) (l : List CommitD) (h : CIn w A n l) (a : Int) :
    Calls Try.prog 9 #[.slice A n k, .int .u64 a] w fun e w' => e = .returned (.bool true) ∧ Below w.heap.size w w' := by
  have HF := Lib.hid (fun W (hW : Below w.heap.size w W) => few15_calls W A n k l (h.below hW))
  by_cases hfew : few l = true
  · rw [hfew] at HF
    have HM := Lib.hid (fun W (hW : Below w.heap.size w W) => made_calls W A n k l (h.below hW) hfew)
    have hg2 := graph2 hfew
    have HNM := Lib.hid h.nums
    have HGE := Lib.hid (fun W p m (hW : GraphAt W p m (madeL l)) => gget_calls p m W _ hW)
    have HID := Lib.hid (fun W p m (hW : GraphAt W p m (madeL l)) => ids_calls W p m _ hW (by have := hg2.len; omega) HNM.out)
    have HIS := Lib.hid (fun W p m (hW : GraphAt W p m (madeL l)) => is_calls W p m _ hW hg2.lok (by have := hg2.len; omega))
    have hil : (sortI (mkeys (madeL l))).length ≤ 25 := by rw [sortI_len]; have := hg2.len; simpa [mkeys] using this
    have hin : Hid (∀ x ∈ sortI (mkeys (madeL l)), (mget (madeL l) x).isSome = true) := fun x hx => mem_keys.2 (mem_sortI.1 hx)
    have HSY := Lib.hid hg2.sync
    have HLEN := Lib.hid hg2.len
    obtain ⟨L, hL⟩ : ∃ L, L = madeL l := ⟨_, rfl⟩
    obtain ⟨R, hR⟩ : ∃ R, R = madeR l := ⟨_, rfl⟩
    rw [← hL] at HGE HID HIS hil hin HLEN
    rw [← hL, ← hR] at HSY
    unfold MadePost at HM
    rw [← hL] at HM
    obtain ⟨S, hS⟩ : ∃ S, S = sortI (mkeys L) := ⟨_, rfl⟩
    rw [← hS] at HID hil hin
    unfold NumsOwn at HID
    obtain ⟨ns, hns⟩ : ∃ ns, ns = S.length := ⟨_, rfl⟩
    rw [← hns] at HID hil
    have HNS := Lib.hid hns
    unfold GetOwn at HGE
    clear hns hS hL hR hg2 hfew h HNM
    go_enter Try.func9, Try.ntmps9
    go_wp2_with (first | (go_at_call 43; refine (awake15_calls _).mono ?_; rintro e w1 ⟨rfl, hb1⟩) | (go_at_call 25; refine (HF.out _ hb1).mono ?_; rintro e w2 ⟨rfl, hb2⟩) | (go_at_call 26; refine (HM.out _ (bel_tr hb1 hb2)).mono ?_; rintro e w3 ⟨p, m, x, rfl, hg3, _, hb3, _, _, _⟩; have HG := Lib.hid hg3; clear hg3) | (go_at_call 47; refine (HID.out _ p m HG.out).mono ?_; rintro e w4 ⟨v4, rfl, ho4, hb4⟩; obtain ⟨A4, k4, rfl, _⟩ := own_form ho4; have HF4 := Lib.hid (own_flat ho4); clear ho4))
    have HG4 := Lib.hid (HG.out.below hb4)
    have hbw4 : Below w.heap.size w w4 := bel_tr (bel_tr (bel_tr hb1 hb2) hb3) hb4
    clear HG hb4 hb3 hb2 hb1 HF HM HID
    go_loopw [35] (fun v wr => ∃ j : Nat, j ≤ ns ∧ v = .int .i64 j ∧ Below w4.heap.size w4 wr) (fun v _ => ns - (intOf v).toNat)
    case atStart => exact ⟨0, Nat.zero_le _, rfl, by (repeat (first | (with_reducible exact Below.refl _ _) | (with_reducible assumption) | (with_reducible refine bel_al0 ?_ _) | (with_reducible refine bel_set ?_ (by first | (simp; done) | (simp; omega)) _) | (with_reducible refine bel_dr ?_) | (with_reducible refine bel_drn ?_ _) | (with_reducible refine bel_tr ?_ (by assumption))))⟩
    case round =>
      obtain ⟨j, hj, rfl, hB⟩ := hrel
      obtain ⟨wo, rfl⟩ : ∃ wo : World, wo = wr := ⟨_, rfl⟩
      by_cases hlt : j < ns
      · obtain ⟨id, hid⟩ : ∃ id, S[j]? = some id := ⟨_, List.getElem?_eq_getElem (by rw [← HNS.out]; exact hlt)⟩
        obtain ⟨bb, off, rfl, cj⟩ := HF4.out.at_ (nums_at hid)
        replace cj := cell_bel cj hB
        have hbl := cell_lt cj
        have HGo := Lib.hid (HG4.out.below hB)
        have hsome := hin.out id (List.mem_of_getElem? hid)
        obtain ⟨c, hc⟩ := Option.isSome_iff_exists.1 hsome
        have HGEc := Lib.hid (HGE.out wo p m HGo.out id)
        rw [gGet_some hc] at HGEc
        have hpm := HSY.out.parMax hc
        have hgd := HSY.out.gens id c hc
        have hlt0 := (HSY.out.two id c hc).1
        have htw : c.gen ≤ 25 := by have := HLEN.out; omega
        have HAG : Hid (id ≠ a → isB L id a = true → c.gen < (gGet L a).gen) := fun h1 h2 => by have := HSY.out.is_gen h1 h2; rw [gGet_some hc] at this; exact this
        have HPM := Lib.hid hpm; clear hpm hc hsome hid hgd
        obtain ⟨np, hnp⟩ : ∃ np, np = c.par.length := ⟨_, rfl⟩
        rw [← hnp] at HGEc hlt0
        have HNP := Lib.hid hnp; clear hnp
        go_wp2_with (go_at_call 44; refine HGEc.out.mono ?_; rintro e w5 ⟨A5, k5, rfl, ho5, hb5⟩; have HF5 := Lib.hid (own_flat ho5); clear ho5)
        have B5 := blk_new w5 #[.int .u64 c.id, .slice A5 np k5, .int .u64 c.gen, .int .u64 c.root, .string c.text] 69
        have HB5 := Lib.hid B5; clear B5
        have hbx : Below (w5.heap.size + 1) (w5.alloc (.cells #[.int .u64 c.id, .slice A5 np k5, .int .u64 c.gen, .int .u64 c.root, .string c.text] 69)) (w5.alloc (.cells #[.int .u64 c.id, .slice A5 np k5, .int .u64 c.gen, .int .u64 c.root, .string c.text] 69)) := Below.refl _ _
        obtain ⟨w6, hw6⟩ : ∃ w6, w6 = w5.alloc (.cells #[.int .u64 c.id, .slice A5 np k5, .int .u64 c.gen, .int .u64 c.root, .string c.text] 69) := ⟨_, rfl⟩
        have hb56 : Below w5.heap.size w5 w6 := by rw [hw6]; exact bel_al0 (Below.refl _ _) _
        have hz6 : w6.heap.size = w5.heap.size + 1 := by rw [hw6]; simp
        rw [← hw6] at HB5 hbx ⊢
        clear hw6
        obtain ⟨bc, hbc⟩ : ∃ bc, bc = w5.heap.size := ⟨_, rfl⟩
        rw [← hbc] at HB5 hbx hz6 ⊢
        clear hbc
        go_loopw [48, 12] (fun v u wr => ∃ q : Nat, ∃ g : Int, q ≤ np ∧ v = .int .i64 q ∧ u = .int .u64 g ∧ Hid (g = parMax L (c.par.take q)) ∧ 0 ≤ g ∧ g ≤ 25 ∧ Below w6.heap.size w6 wr) (fun v _ _ => np - (intOf v).toNat)
        case atStart => exact ⟨0, 0, Nat.zero_le _, rfl, rfl, rfl, by omega, by omega, Below.refl _ _⟩
        case round =>
          obtain ⟨q, g, hq, rfl, rfl, hg, hg0, hg1, hBq⟩ := hrel
          have HBC := Lib.hid (HB5.out.below hBq)
          obtain ⟨x0, x1, x2, x3, x4, xf⟩ := HBC.out.five
          have hBo := bel_tr (bel_tr hb5 hb56) hBq
          by_cases hlq : q < np
          · obtain ⟨pq, hpq⟩ : ∃ pq, c.par[q]? = some pq := ⟨_, List.getElem?_eq_getElem (by rw [← HNP.out]; exact hlq)⟩
            obtain ⟨b2, off2, rfl, cq⟩ := HF5.out.at_ (nums_at hpq)
            replace cq := cell_bel cq (bel_tr hb56 hBq)
            have hbq := cell_lt cq
            have htk : c.par.take (q + 1) = c.par.take q ++ [pq] := by rw [List.take_add_one, hpq]; rfl
            have HGEp := Lib.hid (HGE.out wr p m (HGo.out.below hBo) pq)
            have hbd := HSY.out.gen_bd pq
            have hd25 : (gGet L pq).gen ≤ 25 := by have := HLEN.out; omega
            have hnew : Hid (max g (gGet L pq).gen = parMax L (c.par.take (q + 1))) := by
              show _ = _
              rw [htk, parMax_snoc, ← hg.out]
            have HTK := Lib.hid htk; clear htk hpq
            obtain ⟨d, hd⟩ : ∃ d, d = gGet L pq := ⟨_, rfl⟩
            rw [← hd] at HGEp hbd hd25 hnew
            clear hd
            go_wp2_with (go_at_call 44; refine HGEp.out.mono ?_; rintro e w7 ⟨A7, k7, rfl, ho7, hb7⟩; clear ho7)
            go_roundw
            case rel => exact ⟨q + 1, _, by omega, by go_num, rfl, hnew, by omega, by omega, bel_tr hBq (by (repeat (first | (with_reducible exact Below.refl _ _) | (with_reducible assumption) | (with_reducible refine bel_al0 ?_ _) | (with_reducible refine bel_set ?_ (by first | (simp; done) | (simp; omega)) _) | (with_reducible refine bel_dr ?_) | (with_reducible refine bel_drn ?_ _) | (with_reducible refine bel_tr ?_ (by assumption)))))⟩
            case measure => simp [intOf]; omega
          · have hq' : q = np := by omega
            have htk : c.par.take q = c.par := by rw [List.take_of_length_le]; have := HNP.out; omega
            have hgg := hg.out
            rw [htk] at hgg
            have hpm := HPM.out
            rw [← hgg] at hpm
            have g5 : (c.gen != g + 1) = false := by rw [← hpm]; simp
            clear hgg htk hg hq'
            have hltb : bc < wr.heap.size := by have := hBq.size; omega
            have HGEa := Lib.hid (HGE.out wr p m (HGo.out.below hBo) a)
            obtain ⟨d, hd⟩ : ∃ d, d = gGet L a := ⟨_, rfl⟩
            obtain ⟨tb, htb⟩ : ∃ tb, tb = (mget L a).isSome := ⟨_, rfl⟩
            rw [← hd, ← htb] at HGEa
            rw [← hd] at HAG
            clear hd htb
            cases tb with
            | false =>
              go_wp2_with (go_at_call 44; refine HGEa.out.mono ?_; rintro e w7 ⟨A7, k7, rfl, ho7, hb7⟩; clear ho7)
              go_roundw
              case rel => exact ⟨j + 1, by omega, by go_num, bel_tr hB (bel_tr hBo (by (repeat (first | (with_reducible exact Below.refl _ _) | (with_reducible assumption) | (with_reducible refine bel_al0 ?_ _) | (with_reducible refine bel_set ?_ (by first | (simp; done) | (simp; omega)) _) | (with_reducible refine bel_dr ?_) | (with_reducible refine bel_drn ?_ _) | (with_reducible refine bel_tr ?_ (by assumption))))))⟩
              case measure => simp [intOf]; omega
            | true =>
              by_cases hid : id = a
              · subst hid
                go_wp2_with (go_at_call 44; refine HGEa.out.mono ?_; rintro e w7 ⟨A7, k7, rfl, ho7, hb7⟩; clear ho7)
                go_roundw
                case rel => exact ⟨j + 1, by omega, by go_num, bel_tr hB (bel_tr hBo (by (repeat (first | (with_reducible exact Below.refl _ _) | (with_reducible assumption) | (with_reducible refine bel_al0 ?_ _) | (with_reducible refine bel_set ?_ (by first | (simp; done) | (simp; omega)) _) | (with_reducible refine bel_dr ?_) | (with_reducible refine bel_drn ?_ _) | (with_reducible refine bel_tr ?_ (by assumption))))))⟩
                case measure => simp [intOf]; omega
              · have g6 : (id != a) = true := by simpa using hid
                have HISa := Lib.hid (fun W (hW : Below wr.heap.size wr W) => HIS.out W p m ((HGo.out.below hBo).below hW) id a)
                obtain ⟨ib, hib⟩ : ∃ ib, ib = isB L id a := ⟨_, rfl⟩
                rw [← hib] at HISa
                cases ib with
                | false =>
                  clear hib
                  go_wp2_with (first | (go_at_call 44; refine HGEa.out.mono ?_; rintro e w7 ⟨A7, k7, rfl, ho7, hb7⟩; clear ho7) | (go_at_call 50; refine (HISa.out _ (by (repeat (first | (with_reducible exact Below.refl _ _) | (with_reducible assumption) | (with_reducible refine bel_al0 ?_ _) | (with_reducible refine bel_set ?_ (by first | (simp; done) | (simp; omega)) _) | (with_reducible refine bel_dr ?_) | (with_reducible refine bel_drn ?_ _) | (with_reducible refine bel_tr ?_ (by assumption)))))).mono ?_; rintro e w8 ⟨rfl, hb8⟩))
                  go_roundw
                  case rel => exact ⟨j + 1, by omega, by go_num, bel_tr hB (bel_tr hBo (by (repeat (first | (with_reducible exact Below.refl _ _) | (with_reducible assumption) | (with_reducible refine bel_al0 ?_ _) | (with_reducible refine bel_set ?_ (by first | (simp; done) | (simp; omega)) _) | (with_reducible refine bel_dr ?_) | (with_reducible refine bel_drn ?_ _) | (with_reducible refine bel_tr ?_ (by assumption))))))⟩
                  case measure => simp [intOf]; omega
                | true =>
                  have hlast := HAG.out hid hib.symm
                  clear hib
                  go_wp2_with (first | (go_at_call 44; refine HGEa.out.mono ?_; rintro e w7 ⟨A7, k7, rfl, ho7, hb7⟩; clear ho7; replace x2 := cell_bel x2 hb7; have hz7 : bc < w7.heap.size := Nat.lt_of_lt_of_le hltb hb7.size) | (go_at_call 50; refine (HISa.out _ (by (repeat (first | (with_reducible exact Below.refl _ _) | (with_reducible assumption) | (with_reducible refine bel_al0 ?_ _) | (with_reducible refine bel_set ?_ (by first | (simp; done) | (simp; omega)) _) | (with_reducible refine bel_dr ?_) | (with_reducible refine bel_drn ?_ _) | (with_reducible refine bel_tr ?_ (by assumption)))))).mono ?_; rintro e w8 ⟨rfl, hb8⟩; replace x2 := cell_bel (cell_al x2 _) hb8; have hz8 : bc < w8.heap.size := (by have := hb8.size; simp at this; omega); obtain ⟨y0, y1, y2, y3, y4, yf⟩ := ((blk_new w7 _ _).below hb8).five; have hz9 : w7.heap.size < w8.heap.size := (by have := hb8.size; simp at this; omega)))
                  go_roundw
                  case rel => exact ⟨j + 1, by omega, by go_num, bel_tr hB (bel_tr hBo (by (repeat (first | (with_reducible exact Below.refl _ _) | (with_reducible assumption) | (with_reducible refine bel_al0 ?_ _) | (with_reducible refine bel_set ?_ (by first | (simp; done) | (simp; omega)) _) | (with_reducible refine bel_dr ?_) | (with_reducible refine bel_drn ?_ _) | (with_reducible refine bel_tr ?_ (by assumption))))))⟩
                  case measure => simp [intOf]; omega
      · go_wp2_with fail
        go_ret
        exact ⟨rfl, by (repeat (first | (with_reducible exact Below.refl _ _) | (with_reducible assumption) | (with_reducible refine bel_al0 ?_ _) | (with_reducible refine bel_set ?_ (by first | (simp; done) | (simp; omega)) _) | (with_reducible refine bel_dr ?_) | (with_reducible refine bel_drn ?_ _) | (with_reducible refine bel_tr ?_ (by assumption))))⟩
  · have hfew' : few l = false := by simpa using hfew
    rw [hfew'] at HF
    clear hfew hfew' h
    go_enter Try.func9, Try.ntmps9
    go_wp2_with (first | (go_at_call 43; refine (awake15_calls _).mono ?_; rintro e w1 ⟨rfl, hb1⟩) | (go_at_call 25; refine (HF.out _ hb1).mono ?_; rintro e w2 ⟨rfl, hb2⟩))
    go_ret
    exact ⟨rfl, bel_tr hb1 hb2⟩
theorem graphGens_all (w : World) (A : Option Addr) (n k : Nat) (l : List CommitD) (h : CIn w A n l) (a : Int) (_ : (Lit.int .u64 a).wf = true) :
    Calls Try.prog 9 #[.slice A n k, .int .u64 a] w fun e w' => e = .returned (.bool true) ∧ Below w.heap.size w w' := graphGens_calls w A n k l h a
end Go.Proofs.Ytehneliphhgegaa
