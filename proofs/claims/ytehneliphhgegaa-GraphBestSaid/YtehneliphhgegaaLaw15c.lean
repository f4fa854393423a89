/- The merge base is the best common ancestor: walked. -/
import Derived.Test.YtehneliphhgegaaLaw15b
set_option linter.unusedVariables false
set_option linter.unusedSimpArgs false
set_option maxRecDepth 100000
namespace Go.Proofs.Ytehneliphhgegaa
open Go.RowKit Go.Apo

set_option maxHeartbeats 8000000 in
theorem graphBest_calls (w : World) (A : Option Addr) (n k : Nat) (l : List CommitD) (h : CIn w A n l) (a b : Int) :
    Calls Try.prog 8 #[.slice A n k, .int .u64 a, .int .u64 b] w fun e w' => e = .returned (.bool true) ∧ Below w.heap.size w w' := by
  have HF := Lib.hid (fun W (hW : Below w.heap.size w W) => few15_calls W A n k l (h.below hW))
  by_cases hfew : few l = true
  · rw [hfew] at HF
    have HM := Lib.hid (fun W (hW : Below w.heap.size w W) => made_calls W A n k l (h.below hW) hfew)
    have hg2 := graph2 hfew
    have HNM := Lib.hid h.nums
    have HGE := Lib.hid (fun W p m (hW : GraphAt W p m (madeL l)) => gget_calls p m W _ hW)
    have HID := Lib.hid (fun W p m (hW : GraphAt W p m (madeL l)) => ids_calls W p m _ hW (by have := hg2.len; omega) HNM.out)
    have HIS := Lib.hid (fun W p m (hW : GraphAt W p m (madeL l)) => is_calls W p m _ hW hg2.lok (by have := hg2.len; omega))
    have HBA := Lib.hid (fun W p m (hW : GraphAt W p m (madeL l)) => base_calls W p m _ hW hg2.lok (by have := hg2.len; omega) HNM.out a b)
    have HBB := Lib.hid (fun W p m (hW : GraphAt W p m (madeL l)) => base_calls W p m _ hW hg2.lok (by have := hg2.len; omega) HNM.out b a)
    rw [baseC_comm hg2.lok b a] at HBB
    have hil : (sortI (mkeys (madeL l))).length ≤ 25 := by rw [sortI_len]; have := hg2.len; simpa [mkeys] using this
    have hbt : Hid (∀ n, isB (madeL l) n a = true → isB (madeL l) n b = true → (baseC (madeL l) a b).id ≠ 0 ∧ (gGet (madeL l) n).gen ≤ (baseC (madeL l) a b).gen) := fun n => base_top hg2.sync (made_nz l) a b n
    have hbi : Hid ((baseC (madeL l) a b).id ≠ 0 → isB (madeL l) (baseC (madeL l) a b).id a = true ∧ isB (madeL l) (baseC (madeL l) a b).id b = true ∧ gGet (madeL l) (baseC (madeL l) a b).id = baseC (madeL l) a b) := base_is hg2.sync a b
    obtain ⟨L, hL⟩ : ∃ L, L = madeL l := ⟨_, rfl⟩
    rw [← hL] at HGE HID HIS hil HBA HBB hbt hbi
    unfold MadePost at HM
    rw [← hL] at HM
    obtain ⟨S, hS⟩ : ∃ S, S = sortI (mkeys L) := ⟨_, rfl⟩
    rw [← hS] at HID hil
    unfold NumsOwn at HID
    obtain ⟨ns, hns⟩ : ∃ ns, ns = S.length := ⟨_, rfl⟩
    rw [← hns] at HID hil
    have HNS := Lib.hid hns
    obtain ⟨C, hC⟩ : ∃ C, C = baseC L a b := ⟨_, rfl⟩
    rw [← hC] at HBA HBB hbt hbi
    unfold GetOwn at HGE
    clear hns hS hL hg2 hfew h HNM hC
    by_cases hz : C.id = 0
    · have ez : (!(C.id == 0)) = false := by simp [hz]
      rw [ez] at HBA HBB
      have HNO : Hid (∀ n, isB L n a = true → isB L n b = false) := fun n h1 => by
        cases h2 : isB L n b with
        | false => rfl
        | true => exact absurd hz (hbt.out n h1 h2).1
      clear hbt hbi ez hz
      obtain ⟨z, hz⟩ : ∃ z, z = C.id := ⟨_, rfl⟩
      rw [← hz] at HBA HBB
      clear hz
      obtain ⟨c, hc⟩ : ∃ c, c = gGet L z := ⟨_, rfl⟩
      have HGEz := Lib.hid (fun W p m (hW : GraphAt W p m L) => HGE.out W p m hW z)
      rw [← hc] at HGEz
      clear hc
      go_enter Try.func8, Try.ntmps8
      go_wp2_with (first | (go_at_call 43; refine (awake15_calls _).mono ?_; rintro e w1 ⟨rfl, hb1⟩) | (go_at_call 25; refine (HF.out _ hb1).mono ?_; rintro e w2 ⟨rfl, hb2⟩) | (go_at_call 26; refine (HM.out _ (bel_tr hb1 hb2)).mono ?_; rintro e w3 ⟨p, m, x, rfl, hg3, _, hb3, _, _, _⟩; have HG := Lib.hid hg3; clear hg3) | (go_at_call 49; refine (HBA.out _ p m HG.out).mono ?_; clear HBA; rintro e w4 ⟨rfl, hb4⟩) | (go_at_call 49; refine (HBB.out _ p m (HG.out.below hb4)).mono ?_; rintro e w5 ⟨rfl, hb5⟩; have hb35 := bel_tr hb4 hb5) | (go_at_call 44; refine (HGEz.out _ p m (HG.out.below hb35)).mono ?_; rintro e w6 ⟨A6, k6, rfl, ho6, hb6⟩; clear ho6; have HB6 := Lib.hid (blk_new w6 #[.int .u64 c.id, .slice A6 c.par.length k6, .int .u64 c.gen, .int .u64 c.root, .string c.text] 69); have hz6 : (w6.alloc (.cells #[.int .u64 c.id, .slice A6 c.par.length k6, .int .u64 c.gen, .int .u64 c.root, .string c.text] 69)).heap.size = w6.heap.size + 1 := (by simp); have hb7 : Below w3.heap.size w3 (w6.alloc (.cells #[.int .u64 c.id, .slice A6 c.par.length k6, .int .u64 c.gen, .int .u64 c.root, .string c.text] 69)) := bel_al0 (bel_tr hb35 hb6) _; obtain ⟨w7, hw7⟩ : ∃ w7, w7 = w6.alloc (.cells #[.int .u64 c.id, .slice A6 c.par.length k6, .int .u64 c.gen, .int .u64 c.root, .string c.text] 69) := ⟨_, rfl⟩; rw [← hw7] at HB6 hz6 hb7) | (go_at_call 50; refine (HIA.out _ p m (HG.out.below (bel_tr hb7 (by rw [hw7]; (repeat (first | (with_reducible exact Below.refl _ _) | (with_reducible assumption) | (with_reducible refine bel_al0 ?_ _) | (with_reducible refine bel_set ?_ (by first | (simp; done) | (simp; omega)) _) | (with_reducible refine bel_dr ?_) | (with_reducible refine bel_drn ?_ _) | (with_reducible refine bel_tr ?_ (by assumption)))))))).mono ?_; clear HIA; rintro e w8 ⟨rfl, hb8⟩) | (go_at_call 50; refine (HIB.out _ p m (HG.out.below (bel_tr hb7 (bel_tr (by rw [hw7]; exact hb8) (by (repeat (first | (with_reducible exact Below.refl _ _) | (with_reducible assumption) | (with_reducible refine bel_al0 ?_ _) | (with_reducible refine bel_set ?_ (by first | (simp; done) | (simp; omega)) _) | (with_reducible refine bel_dr ?_) | (with_reducible refine bel_drn ?_ _) | (with_reducible refine bel_tr ?_ (by assumption))))))))).mono ?_; rintro e w9 ⟨rfl, hb9⟩) | (go_at_call 47; refine (HID.out _ p m (HG.out.below (bel_tr hb7 (by rw [hw7]; (repeat (first | (with_reducible exact Below.refl _ _) | (with_reducible assumption) | (with_reducible refine bel_al0 ?_ _) | (with_reducible refine bel_set ?_ (by first | (simp; done) | (simp; omega)) _) | (with_reducible refine bel_dr ?_) | (with_reducible refine bel_drn ?_ _) | (with_reducible refine bel_tr ?_ (by assumption)))))))).mono ?_; rintro e wI ⟨vI, rfl, hoI, hbI⟩; obtain ⟨AI, kI, rfl, _⟩ := own_form hoI; have HFI := Lib.hid (own_flat hoI); clear hoI))
      have hbI7 : Below w7.heap.size w7 wI := by rw [hw7]; exact hbI
      clear HF HM HID HBB HGEz
      have hbw3 : Below w.heap.size w w3 := bel_tr (bel_tr hb1 hb2) hb3
      clear hb1 hb2 hb3 hb4 hb5 hb35
      have HC := Lib.hid (HB6.out.below hbI7)
      have hbT := bel_tr hb7 hbI7
      have HGI := Lib.hid (HG.out.below hbT)
      have hzI : w6.heap.size < wI.heap.size := by have := hbI7.size; omega
      have hbwI : Below w.heap.size w wI := bel_tr hbw3 hbT
      clear hb6 hb7 hw7 hbI7 hbT hz6 HB6 HG hbw3
      obtain ⟨bc, hbc⟩ : ∃ bc, bc = w6.heap.size := ⟨_, rfl⟩
      rw [← hbc] at HC hzI ⊢
      clear hbc
      go_loopw [81] (fun v wr => ∃ j : Nat, j ≤ ns ∧ v = .int .i64 j ∧ Below wI.heap.size wI wr) (fun v _ => ns - (intOf v).toNat)
      case atStart => exact ⟨0, Nat.zero_le _, rfl, by (repeat (first | (with_reducible exact Below.refl _ _) | (with_reducible assumption) | (with_reducible refine bel_al0 ?_ _) | (with_reducible refine bel_set ?_ (by first | (simp; done) | (simp; omega)) _) | (with_reducible refine bel_dr ?_) | (with_reducible refine bel_drn ?_ _) | (with_reducible refine bel_tr ?_ (by assumption))))⟩
      case round =>
        obtain ⟨j, hj, rfl, hB⟩ := hrel
        by_cases hlt : j < ns
        · obtain ⟨id, hid⟩ : ∃ id, S[j]? = some id := ⟨_, List.getElem?_eq_getElem (by rw [← HNS.out]; exact hlt)⟩
          obtain ⟨bb, off, rfl, cj⟩ := HFI.out.at_ (nums_at hid)
          replace cj := cell_bel cj hB
          have hbl := cell_lt cj
          clear hid
          have HGr := Lib.hid (HGI.out.below hB)
          have HGEd := Lib.hid (HGE.out wr p m HGr.out id)
          have HISa := Lib.hid (fun W (hW : Below wr.heap.size wr W) => HIS.out W p m (HGr.out.below hW) id a)
          have HISb := Lib.hid (fun W (hW : Below wr.heap.size wr W) => HIS.out W p m (HGr.out.below hW) id b)
          have HTid := Lib.hid (HNO.out id)
          obtain ⟨d, hd⟩ : ∃ d, d = gGet L id := ⟨_, rfl⟩
          rw [← hd] at HGEd
          obtain ⟨tb, htb⟩ : ∃ tb, tb = (mget L id).isSome := ⟨_, rfl⟩
          rw [← htb] at HGEd
          obtain ⟨ia, hia⟩ : ∃ ia, ia = isB L id a := ⟨_, rfl⟩
          obtain ⟨ib, hib⟩ : ∃ ib, ib = isB L id b := ⟨_, rfl⟩
          rw [← hia] at HISa HTid
          rw [← hib] at HISb HTid
          clear hd htb hia hib
          cases ia with
          | false =>
            go_wp2_with (first | (go_at_call 44; refine HGEd.out.mono ?_; rintro e w10 ⟨A10, k10, rfl, ho10, hb10⟩; clear ho10) | (go_at_call 50; refine (HISa.out _ (by (repeat (first | (with_reducible exact Below.refl _ _) | (with_reducible assumption) | (with_reducible refine bel_al0 ?_ _) | (with_reducible refine bel_set ?_ (by first | (simp; done) | (simp; omega)) _) | (with_reducible refine bel_dr ?_) | (with_reducible refine bel_drn ?_ _) | (with_reducible refine bel_tr ?_ (by assumption)))))).mono ?_; rintro e w11 ⟨rfl, hb11⟩))
            go_roundw
            case rel => exact ⟨j + 1, by omega, by go_num, by (repeat (first | (with_reducible exact Below.refl _ _) | (with_reducible assumption) | (with_reducible refine bel_al0 ?_ _) | (with_reducible refine bel_set ?_ (by first | (simp; done) | (simp; omega)) _) | (with_reducible refine bel_dr ?_) | (with_reducible refine bel_drn ?_ _) | (with_reducible refine bel_tr ?_ (by assumption))))⟩
            case measure => simp [intOf]; omega
          | true =>
            have HT2 := Lib.hid (HTid.out rfl); clear HTid
            cases ib with
            | false =>
              go_wp2_with (first | (go_at_call 44; refine HGEd.out.mono ?_; rintro e w10 ⟨A10, k10, rfl, ho10, hb10⟩; clear ho10) | (go_at_call 50; refine (HISa.out _ (by (repeat (first | (with_reducible exact Below.refl _ _) | (with_reducible assumption) | (with_reducible refine bel_al0 ?_ _) | (with_reducible refine bel_set ?_ (by first | (simp; done) | (simp; omega)) _) | (with_reducible refine bel_dr ?_) | (with_reducible refine bel_drn ?_ _) | (with_reducible refine bel_tr ?_ (by assumption)))))).mono ?_; clear HISa; rintro e w11 ⟨rfl, hb11⟩) | (go_at_call 50; refine (HISb.out _ (by (repeat (first | (with_reducible exact Below.refl _ _) | (with_reducible assumption) | (with_reducible refine bel_al0 ?_ _) | (with_reducible refine bel_set ?_ (by first | (simp; done) | (simp; omega)) _) | (with_reducible refine bel_dr ?_) | (with_reducible refine bel_drn ?_ _) | (with_reducible refine bel_tr ?_ (by assumption)))))).mono ?_; rintro e w12 ⟨rfl, hb12⟩))
              go_roundw
              case rel => exact ⟨j + 1, by omega, by go_num, by (repeat (first | (with_reducible exact Below.refl _ _) | (with_reducible assumption) | (with_reducible refine bel_al0 ?_ _) | (with_reducible refine bel_set ?_ (by first | (simp; done) | (simp; omega)) _) | (with_reducible refine bel_dr ?_) | (with_reducible refine bel_drn ?_ _) | (with_reducible refine bel_tr ?_ (by assumption))))⟩
              case measure => simp [intOf]; omega
            | true =>
              cases HT2.out
        · go_wp2_with fail
          go_ret
          exact ⟨rfl, bel_tr hbwI hB⟩
    · have ez : (!(C.id == 0)) = true := by simp [hz]
      rw [ez] at HBA HBB
      obtain ⟨i1, i2, i3⟩ := hbi.out hz
      have HTOP : Hid (∀ n, isB L n a = true → isB L n b = true → (gGet L n).gen ≤ C.gen) := fun n h1 h2 => (hbt.out n h1 h2).2
      have HIA := Lib.hid (fun W p m (hW : GraphAt W p m L) => HIS.out W p m hW C.id a)
      have HIB := Lib.hid (fun W p m (hW : GraphAt W p m L) => HIS.out W p m hW C.id b)
      rw [i1] at HIA
      rw [i2] at HIB
      have HGEz := Lib.hid (fun W p m (hW : GraphAt W p m L) => HGE.out W p m hW C.id)
      rw [i3] at HGEz
      clear hbt hbi ez hz i1 i2 i3
      obtain ⟨c, hc⟩ : ∃ c, c = C := ⟨_, rfl⟩
      rw [← hc] at HBA HBB HTOP HIA HIB HGEz
      clear hc C
      go_enter Try.func8, Try.ntmps8
      go_wp2_with (first | (go_at_call 43; refine (awake15_calls _).mono ?_; rintro e w1 ⟨rfl, hb1⟩) | (go_at_call 25; refine (HF.out _ hb1).mono ?_; rintro e w2 ⟨rfl, hb2⟩) | (go_at_call 26; refine (HM.out _ (bel_tr hb1 hb2)).mono ?_; rintro e w3 ⟨p, m, x, rfl, hg3, _, hb3, _, _, _⟩; have HG := Lib.hid hg3; clear hg3) | (go_at_call 49; refine (HBA.out _ p m HG.out).mono ?_; clear HBA; rintro e w4 ⟨rfl, hb4⟩) | (go_at_call 49; refine (HBB.out _ p m (HG.out.below hb4)).mono ?_; rintro e w5 ⟨rfl, hb5⟩; have hb35 := bel_tr hb4 hb5) | (go_at_call 44; refine (HGEz.out _ p m (HG.out.below hb35)).mono ?_; rintro e w6 ⟨A6, k6, rfl, ho6, hb6⟩; clear ho6; have HB6 := Lib.hid (blk_new w6 #[.int .u64 c.id, .slice A6 c.par.length k6, .int .u64 c.gen, .int .u64 c.root, .string c.text] 69); have hz6 : (w6.alloc (.cells #[.int .u64 c.id, .slice A6 c.par.length k6, .int .u64 c.gen, .int .u64 c.root, .string c.text] 69)).heap.size = w6.heap.size + 1 := (by simp); have hb7 : Below w3.heap.size w3 (w6.alloc (.cells #[.int .u64 c.id, .slice A6 c.par.length k6, .int .u64 c.gen, .int .u64 c.root, .string c.text] 69)) := bel_al0 (bel_tr hb35 hb6) _; obtain ⟨w7, hw7⟩ : ∃ w7, w7 = w6.alloc (.cells #[.int .u64 c.id, .slice A6 c.par.length k6, .int .u64 c.gen, .int .u64 c.root, .string c.text] 69) := ⟨_, rfl⟩; rw [← hw7] at HB6 hz6 hb7) | (go_at_call 50; refine (HIA.out _ p m (HG.out.below (bel_tr hb7 (by rw [hw7]; (repeat (first | (with_reducible exact Below.refl _ _) | (with_reducible assumption) | (with_reducible refine bel_al0 ?_ _) | (with_reducible refine bel_set ?_ (by first | (simp; done) | (simp; omega)) _) | (with_reducible refine bel_dr ?_) | (with_reducible refine bel_drn ?_ _) | (with_reducible refine bel_tr ?_ (by assumption)))))))).mono ?_; clear HIA; rintro e w8 ⟨rfl, hb8⟩) | (go_at_call 50; refine (HIB.out _ p m (HG.out.below (bel_tr hb7 (bel_tr (by rw [hw7]; exact hb8) (by (repeat (first | (with_reducible exact Below.refl _ _) | (with_reducible assumption) | (with_reducible refine bel_al0 ?_ _) | (with_reducible refine bel_set ?_ (by first | (simp; done) | (simp; omega)) _) | (with_reducible refine bel_dr ?_) | (with_reducible refine bel_drn ?_ _) | (with_reducible refine bel_tr ?_ (by assumption))))))))).mono ?_; rintro e w9 ⟨rfl, hb9⟩) | (go_at_call 47; refine (HID.out _ p m (HG.out.below (bel_tr hb7 (by rw [hw7]; (repeat (first | (with_reducible exact Below.refl _ _) | (with_reducible assumption) | (with_reducible refine bel_al0 ?_ _) | (with_reducible refine bel_set ?_ (by first | (simp; done) | (simp; omega)) _) | (with_reducible refine bel_dr ?_) | (with_reducible refine bel_drn ?_ _) | (with_reducible refine bel_tr ?_ (by assumption)))))))).mono ?_; rintro e wI ⟨vI, rfl, hoI, hbI⟩; obtain ⟨AI, kI, rfl, _⟩ := own_form hoI; have HFI := Lib.hid (own_flat hoI); clear hoI))
      have hbI7 : Below w7.heap.size w7 wI := bel_tr (bel_tr (by rw [hw7]; exact hb8) hb9) hbI
      clear HF HM HID HBB HGEz HIB
      have hbw3 : Below w.heap.size w w3 := bel_tr (bel_tr hb1 hb2) hb3
      clear hb1 hb2 hb3 hb4 hb5 hb35
      have HC := Lib.hid (HB6.out.below hbI7)
      have hbT := bel_tr hb7 hbI7
      have HGI := Lib.hid (HG.out.below hbT)
      have hzI : w6.heap.size < wI.heap.size := by have := hbI7.size; omega
      have hbwI : Below w.heap.size w wI := bel_tr hbw3 hbT
      clear hb6 hb7 hw7 hbI7 hbT hz6 HB6 HG hbw3
      obtain ⟨bc, hbc⟩ : ∃ bc, bc = w6.heap.size := ⟨_, rfl⟩
      rw [← hbc] at HC hzI ⊢
      clear hbc
      go_loopw [81] (fun v wr => ∃ j : Nat, j ≤ ns ∧ v = .int .i64 j ∧ Below wI.heap.size wI wr) (fun v _ => ns - (intOf v).toNat)
      case atStart => exact ⟨0, Nat.zero_le _, rfl, by (repeat (first | (with_reducible exact Below.refl _ _) | (with_reducible assumption) | (with_reducible refine bel_al0 ?_ _) | (with_reducible refine bel_set ?_ (by first | (simp; done) | (simp; omega)) _) | (with_reducible refine bel_dr ?_) | (with_reducible refine bel_drn ?_ _) | (with_reducible refine bel_tr ?_ (by assumption))))⟩
      case round =>
        obtain ⟨j, hj, rfl, hB⟩ := hrel
        by_cases hlt : j < ns
        · obtain ⟨id, hid⟩ : ∃ id, S[j]? = some id := ⟨_, List.getElem?_eq_getElem (by rw [← HNS.out]; exact hlt)⟩
          obtain ⟨bb, off, rfl, cj⟩ := HFI.out.at_ (nums_at hid)
          replace cj := cell_bel cj hB
          have hbl := cell_lt cj
          clear hid
          have HGr := Lib.hid (HGI.out.below hB)
          have HGEd := Lib.hid (HGE.out wr p m HGr.out id)
          have HISa := Lib.hid (fun W (hW : Below wr.heap.size wr W) => HIS.out W p m (HGr.out.below hW) id a)
          have HISb := Lib.hid (fun W (hW : Below wr.heap.size wr W) => HIS.out W p m (HGr.out.below hW) id b)
          have HTid := Lib.hid (HTOP.out id)
          obtain ⟨d, hd⟩ : ∃ d, d = gGet L id := ⟨_, rfl⟩
          rw [← hd] at HGEd HTid
          obtain ⟨tb, htb⟩ : ∃ tb, tb = (mget L id).isSome := ⟨_, rfl⟩
          rw [← htb] at HGEd
          obtain ⟨ia, hia⟩ : ∃ ia, ia = isB L id a := ⟨_, rfl⟩
          obtain ⟨ib, hib⟩ : ∃ ib, ib = isB L id b := ⟨_, rfl⟩
          rw [← hia] at HISa HTid
          rw [← hib] at HISb HTid
          clear hd htb hia hib
          cases ia with
          | false =>
            go_wp2_with (first | (go_at_call 44; refine HGEd.out.mono ?_; rintro e w10 ⟨A10, k10, rfl, ho10, hb10⟩; clear ho10) | (go_at_call 50; refine (HISa.out _ (by (repeat (first | (with_reducible exact Below.refl _ _) | (with_reducible assumption) | (with_reducible refine bel_al0 ?_ _) | (with_reducible refine bel_set ?_ (by first | (simp; done) | (simp; omega)) _) | (with_reducible refine bel_dr ?_) | (with_reducible refine bel_drn ?_ _) | (with_reducible refine bel_tr ?_ (by assumption)))))).mono ?_; rintro e w11 ⟨rfl, hb11⟩))
            go_roundw
            case rel => exact ⟨j + 1, by omega, by go_num, by (repeat (first | (with_reducible exact Below.refl _ _) | (with_reducible assumption) | (with_reducible refine bel_al0 ?_ _) | (with_reducible refine bel_set ?_ (by first | (simp; done) | (simp; omega)) _) | (with_reducible refine bel_dr ?_) | (with_reducible refine bel_drn ?_ _) | (with_reducible refine bel_tr ?_ (by assumption))))⟩
            case measure => simp [intOf]; omega
          | true =>
            have HT2 := Lib.hid (HTid.out rfl); clear HTid
            cases ib with
            | false =>
              go_wp2_with (first | (go_at_call 44; refine HGEd.out.mono ?_; rintro e w10 ⟨A10, k10, rfl, ho10, hb10⟩; clear ho10) | (go_at_call 50; refine (HISa.out _ (by (repeat (first | (with_reducible exact Below.refl _ _) | (with_reducible assumption) | (with_reducible refine bel_al0 ?_ _) | (with_reducible refine bel_set ?_ (by first | (simp; done) | (simp; omega)) _) | (with_reducible refine bel_dr ?_) | (with_reducible refine bel_drn ?_ _) | (with_reducible refine bel_tr ?_ (by assumption)))))).mono ?_; clear HISa; rintro e w11 ⟨rfl, hb11⟩) | (go_at_call 50; refine (HISb.out _ (by (repeat (first | (with_reducible exact Below.refl _ _) | (with_reducible assumption) | (with_reducible refine bel_al0 ?_ _) | (with_reducible refine bel_set ?_ (by first | (simp; done) | (simp; omega)) _) | (with_reducible refine bel_dr ?_) | (with_reducible refine bel_drn ?_ _) | (with_reducible refine bel_tr ?_ (by assumption)))))).mono ?_; rintro e w12 ⟨rfl, hb12⟩))
              go_roundw
              case rel => exact ⟨j + 1, by omega, by go_num, by (repeat (first | (with_reducible exact Below.refl _ _) | (with_reducible assumption) | (with_reducible refine bel_al0 ?_ _) | (with_reducible refine bel_set ?_ (by first | (simp; done) | (simp; omega)) _) | (with_reducible refine bel_dr ?_) | (with_reducible refine bel_drn ?_ _) | (with_reducible refine bel_tr ?_ (by assumption))))⟩
              case measure => simp [intOf]; omega
            | true =>
              have hlast : d.gen ≤ c.gen := HT2.out rfl
              clear HT2
              obtain ⟨x0, x1, x2, x3, x4, xf⟩ := (HC.out.below hB).five
              have hzr : bc < wr.heap.size := Nat.lt_of_lt_of_le hzI hB.size
              clear x0 x1 x3 x4
              go_wp2_with (first | (go_at_call 44; refine HGEd.out.mono ?_; rintro e w10 ⟨A10, k10, rfl, ho10, hb10⟩; clear ho10; replace x2 := cell_bel x2 hb10; have hz10 : bc < w10.heap.size := Nat.lt_of_lt_of_le hzr hb10.size) | (go_at_call 50; refine (HISa.out _ (by (repeat (first | (with_reducible exact Below.refl _ _) | (with_reducible assumption) | (with_reducible refine bel_al0 ?_ _) | (with_reducible refine bel_set ?_ (by first | (simp; done) | (simp; omega)) _) | (with_reducible refine bel_dr ?_) | (with_reducible refine bel_drn ?_ _) | (with_reducible refine bel_tr ?_ (by assumption)))))).mono ?_; clear HISa; rintro e w11 ⟨rfl, hb11⟩; replace x2 := cell_bel (cell_al x2 _) hb11; have hz11 : bc < w11.heap.size := (by have := hb11.size; simp at this; omega); have HBD := Lib.hid ((blk_new w10 #[.int .u64 d.id, .slice A10 d.par.length k10, .int .u64 d.gen, .int .u64 d.root, .string d.text] 69).below hb11); have hz12 : w10.heap.size < w11.heap.size := (by have := hb11.size; simp at this; omega)) | (go_at_call 50; refine (HISb.out _ (by (repeat (first | (with_reducible exact Below.refl _ _) | (with_reducible assumption) | (with_reducible refine bel_al0 ?_ _) | (with_reducible refine bel_set ?_ (by first | (simp; done) | (simp; omega)) _) | (with_reducible refine bel_dr ?_) | (with_reducible refine bel_drn ?_ _) | (with_reducible refine bel_tr ?_ (by assumption)))))).mono ?_; rintro e w12 ⟨rfl, hb12⟩; replace x2 := cell_bel x2 hb12; obtain ⟨y0, y1, y2, y3, y4, yf⟩ := (HBD.out.below hb12).five; clear y0 y1 y3 y4; have hz13 : bc < w12.heap.size := Nat.lt_of_lt_of_le hz11 hb12.size; have hz14 : w10.heap.size < w12.heap.size := Nat.lt_of_lt_of_le hz12 hb12.size))
              go_roundw
              case rel => exact ⟨j + 1, by omega, by go_num, by (repeat (first | (with_reducible exact Below.refl _ _) | (with_reducible assumption) | (with_reducible refine bel_al0 ?_ _) | (with_reducible refine bel_set ?_ (by first | (simp; done) | (simp; omega)) _) | (with_reducible refine bel_dr ?_) | (with_reducible refine bel_drn ?_ _) | (with_reducible refine bel_tr ?_ (by assumption))))⟩
              case measure => simp [intOf]; omega
        · go_wp2_with fail
          go_ret
          exact ⟨rfl, bel_tr hbwI hB⟩
  · have hfew' : few l = false := by simpa using hfew
    rw [hfew'] at HF
    clear hfew hfew' h
    go_enter Try.func8, Try.ntmps8
    go_wp2_with (first | (go_at_call 43; refine (awake15_calls _).mono ?_; rintro e w1 ⟨rfl, hb1⟩) | (go_at_call 25; refine (HF.out _ hb1).mono ?_; rintro e w2 ⟨rfl, hb2⟩))
    go_ret
    exact ⟨rfl, bel_tr hb1 hb2⟩
theorem graphBest_all (w : World) (A : Option Addr) (n k : Nat) (l : List CommitD) (h : CIn w A n l) (a : Int) (_ : (Lit.int .u64 a).wf = true) (b : Int) (_ : (Lit.int .u64 b).wf = true) :
    Calls Try.prog 8 #[.slice A n k, .int .u64 a, .int .u64 b] w fun e w' => e = .returned (.bool true) ∧ Below w.heap.size w w' := graphBest_calls w A n k l h a b
end Go.Proofs.Ytehneliphhgegaa
