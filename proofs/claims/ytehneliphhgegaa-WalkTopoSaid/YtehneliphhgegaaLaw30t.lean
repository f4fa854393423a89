/- The law WalkTopo: walked. -/
import Derived.Test.YtehneliphhgegaaTopoAll
import Derived.Test.YtehneliphhgegaaLaw15a
import Derived.Test.YtehneliphhgegaaWalkPaths
import Derived.Test.YtehneliphhgegaaReadCommits
set_option linter.unusedVariables false
set_option linter.unusedSimpArgs false
set_option maxRecDepth 100000
namespace Go.Proofs.Ytehneliphhgegaa
open Go.RowKit Go.Apo

structure UIn (w : World) (A : Option Addr) (n : Nat) (l : List Int) : Prop where
  len : l.length = n
  flat : Flat w A (nums l)
  nil : A = none → l = []
theorem u64Row_of {H : Type} {enc : TypeId × Value → H} {w : World} {A : Option Addr} {n c : Nat} (h : G enc Try.prog w 50 [.slice A n c]) (hs : n * 8 ≤ 140737488351232) : ∃ l, UIn w A n l := by
  obtain ⟨l, h1, h2, h3, _⟩ := u64s_of h
  exact ⟨l, h1, h2, h3⟩
set_option maxHeartbeats 8000000 in
theorem walkTopo_calls (w : World) (A : Option Addr) (n k : Nat) (l : List CommitD) (h : CIn w A n l) (B : Option Addr) (nb kb : Nat) (st : List Int) (hst : UIn w B nb st) :
    Calls Try.prog 13 #[.slice A n k, .slice B nb kb] w fun e w' => e = .returned (.bool true) ∧ Below w.heap.size w w' := by
  have HF := Lib.hid (fun W (hW : Below w.heap.size w W) => few15_calls W A n k l (h.below hW))
  by_cases hfew : few l = true
  · rw [hfew] at HF
    by_cases hb20 : nb ≤ 20
    · have HM := Lib.hid (fun W (hW : Below w.heap.size w W) => made_calls W A n k l (h.below hW) hfew)
      have hg2 := graph2 hfew
      have hsy := hg2.sync
      have hlen := hg2.len
      have HNM := Lib.hid h.nums
      have HGE := Lib.hid (fun W p m (hW : GraphAt W p m (madeL l)) => gget_calls p m W _ hW)
      have HTO := Lib.hid (fun W p m (hW : GraphAt W p m (madeL l)) (hb : Below w.heap.size w W) => topo_calls W (some ⟨p, 0, none⟩) _ hW.gp hg2.lok (by omega) HNM.out B nb kb st hst.len (hst.flat.below hb) hst.nil (by omega))
      have hpr : ∀ c ∈ madeR l, c.par.length ≤ 2 := fun c hc => by
        have h1 := rFind_self hsy.sorted c hc
        rw [hsy.same] at h1
        exact (hsy.two c.id c h1).1
      have hrp : ∀ i, (rPar (madeR l) i).length ≤ 2 := fun i => (hsy.rclosed i).1
      have HRR := Lib.hid (fun W x (hW : RGraphAt W x (madeR l)) (hb : Below w.heap.size w W) => rreach_calls W x _ hW (by have := hg2.rlen; omega) hrp hpr B nb kb st hst.len (hst.flat.below hb) (by omega))
      rw [hsy.reach hg2.lok] at HRR
      have HTI := Lib.hid (fun cs hp hr => topo_is hsy hg2.lok st (cs := cs) hp hr)
      have hrl := reachL_len hg2.lok st
      have HTWO : Hid (∀ i, (gGet (madeL l) i).par.length ≤ 2) := fun i => by
        unfold gGet
        cases hq : mget (madeL l) i with
        | none => simp [CommitD.zero]
        | some c => exact (hsy.two i c hq).1
      unfold MadePost at HM
      unfold GetOwn at HGE
      unfold NumsOwn at HRR
      unfold TopoPost at HTO
      obtain ⟨L, hL⟩ : ∃ L, L = madeL l := ⟨_, rfl⟩
      obtain ⟨R, hR⟩ : ∃ R, R = madeR l := ⟨_, rfl⟩
      rw [← hL, ← hR] at HM
      rw [← hL] at HGE HTO HTI HTWO hrl
      rw [← hL] at HRR
      rw [← hR] at HRR
      obtain ⟨S, hS⟩ : ∃ S, S = reachL L st := ⟨_, rfl⟩
      rw [← hS] at HTO HRR HTI hrl
      have hs25 : S.length ≤ 25 := by rw [hL] at hrl; omega
      clear hL hR hS hg2 hsy hlen hfew h HNM hpr hrp hrl
      go_enter Try.func13, Try.ntmps13
      go_wp2_with (first | (go_at_call 24; refine (awake30_calls _).mono ?_; rintro e w1 ⟨rfl, hb1⟩) | (go_at_call 25; refine (HF.out _ hb1).mono ?_; rintro e w2 ⟨rfl, hb2⟩) | (go_at_call 26; refine (HM.out _ (bel_tr hb1 hb2)).mono ?_; rintro e w3 ⟨p, m, x, rfl, hg3, hr3, hb3, _, _, _⟩; have HG := Lib.hid hg3; clear hg3; have HRG := Lib.hid hr3; clear hr3; have hbw3 : Below w.heap.size w w3 := bel_tr (bel_tr hb1 hb2) hb3) | (go_at_call 64; refine (HTO.out _ p m HG.out hbw3).mono ?_; rintro e w4 ⟨v4, cs, rfl, ho4, hp4, hr4, hb4⟩; obtain ⟨A4, k4, rfl, hk4⟩ := own_form ho4; have HF4 := Lib.hid (own_flat ho4); clear ho4; have HP4 := Lib.hid hp4; clear hp4; have HR4 := Lib.hid hr4; clear hr4))
      have hcl : cs.length = S.length := by have := HP4.out.length_eq; simpa using this
      have hto := HTI.out cs HP4.out HR4.out
      obtain ⟨ord, hord⟩ : ∃ ord, ord = cs.map CommitD.id := ⟨_, rfl⟩
      have hol : ord.length = cs.length := by rw [hord]; simp
      rw [← hord] at HF4 hto
      obtain ⟨N, hN⟩ : ∃ N, N = cs.length := ⟨_, rfl⟩
      rw [← hN] at hol hk4 hcl ⊢
      have HTI2 := Lib.hid hto; clear hto
      have hN25 : N ≤ 25 := by omega
      have HOL := Lib.hid hol; clear hol
      have HCL := Lib.hid hcl; clear hcl
      have HG4 := Lib.hid (HG.out.below hb4)
      have HRG4 := Lib.hid (HRG.out.below hb4)
      have hbw4 : Below w.heap.size w w4 := bel_tr hbw3 hb4
      clear hord hN HP4 HR4 HG HRG hb4 hbw3 hb1 hb2 hb3 HTI HTO HM HF
      go_loopw [39] (fun v wr => ∃ i : Nat, i ≤ N ∧ v = .int .i64 i ∧ Below w4.heap.size w4 wr) (fun v _ => N - (intOf v).toNat)
      case atStart => exact ⟨0, Nat.zero_le _, rfl, Below.refl _ _⟩
      case round =>
        obtain ⟨i, hi, rfl, hB⟩ := hrel
        obtain ⟨wo, rfl⟩ : ∃ wo : World, wo = wr := ⟨_, rfl⟩
        have hbwo := bel_tr hbw4 hB
        by_cases hlt : i < N
        · obtain ⟨id, hid⟩ : ∃ id, ord[i]? = some id := ⟨_, List.getElem?_eq_getElem (by rw [HOL.out]; exact hlt)⟩
          have HFo := Lib.hid (HF4.out.below hB)
          obtain ⟨bo, oo, rfl, cid⟩ := HFo.out.at_ (nums_at hid)
          have hbl := cell_lt cid
          have HGi := Lib.hid (HGE.out wo p m (HG4.out.below hB) id)
          rw [HTI2.out.there i id hid] at HGi
          have hbeh := HTI2.out.behind i id hid
          have HON : Hid (∀ q y, q < i → ord[q]? = some y → y ≠ id) := fun q y hq hy => HTI2.out.once i q id y hq hid hy
          have h2 := HTWO.out id
          obtain ⟨c, hc⟩ : ∃ c, c = gGet L id := ⟨_, rfl⟩
          rw [← hc] at HGi hbeh h2
          obtain ⟨np, hnp⟩ : ∃ np, np = c.par.length := ⟨_, rfl⟩
          rw [← hnp] at HGi h2 hbeh
          have HNP := Lib.hid hnp
          have HBE := Lib.hid hbeh
          clear hnp hbeh hc hid
          go_wp2_with (go_at_call 44; refine HGi.out.mono ?_; rintro e w7 ⟨A7, k7, rfl, ho7, hb7⟩; have HF7 := Lib.hid (own_flat ho7); clear ho7; have hik : i ≤ k4 := (by omega))
          obtain ⟨w8, hw8⟩ : ∃ w8, w8 = w7.alloc (.cells #[.int .u64 c.id, .slice A7 np k7, .int .u64 c.gen, .int .u64 c.root, .string c.text] 69) := ⟨_, rfl⟩
          have hb8 : Below wo.heap.size wo w8 := by rw [hw8]; exact bel_al0 hb7 _
          have HF8 : Hid (Flat w8 A7 (nums c.par)) := by show Flat _ _ _; rw [hw8]; exact HF7.out.below (bel_al0 (Below.refl _ _) _)
          have HFO8 := Lib.hid (HFo.out.below hb8)
          have hbk : Blk w8 w7.heap.size #[.int .u64 c.id, .slice A7 np k7, .int .u64 c.gen, .int .u64 c.root, .string c.text] 69 := by rw [hw8]; exact blk_new w7 _ _
          have HBK := Lib.hid hbk; clear hbk
          rw [← hw8]
          clear hw8
          obtain ⟨bc, hbc⟩ : ∃ bc, bc = w7.heap.size := ⟨_, rfl⟩
          rw [← hbc] at HBK ⊢
          clear hbc
          go_loopw [56, 13] (fun v s wr => ∃ q : Nat, ∃ a : Nat, q ≤ i ∧ v = .int .i64 q ∧ s = .int .i64 a ∧ Hid (a = ahead (ord.take q) c.par) ∧ a ≤ q * 2 ∧ Below w8.heap.size w8 wr) (fun v _ _ => i - (intOf v).toNat)
          case atStart => exact ⟨0, 0, Nat.zero_le _, rfl, rfl, rfl, by omega, Below.refl _ _⟩
          case round =>
            obtain ⟨q, a, hq, rfl, rfl, ha, ha2, hBq⟩ := hrel
            obtain ⟨wq, rfl⟩ : ∃ wq : World, wq = wr := ⟨_, rfl⟩
            obtain ⟨x0, x1, x2, x3, x4, xf⟩ := (HBK.out.below hBq).five
            clear x0 x2 x3 x4 xf
            have hbcl : bc < wq.heap.size := cell_lt x1
            by_cases hlq : q < i
            · obtain ⟨y, hy⟩ : ∃ y, ord[q]? = some y := ⟨_, List.getElem?_eq_getElem (by rw [HOL.out]; omega)⟩
              obtain ⟨b1, o1, e1, cy⟩ := HFO8.out.at_ (nums_at hy)
              cases e1
              replace cy := cell_bel cy hBq
              have hcyl := cell_lt cy
              have hne := HON.out q y hlq hy
              have g1 : (y == id) = false := by simpa using hne
              have htk : Hid (ahead (ord.take (q + 1)) c.par = ahead (ord.take q) c.par + hits c.par y) := by show _ = _; rw [List.take_add_one, hy]; exact ahead_snoc _ _ _
              clear hy hne
              go_wp2
              go_loopw [66, 13] (fun v s w' => ∃ t : Nat, ∃ b : Nat, t ≤ np ∧ v = .int .i64 t ∧ s = .int .i64 b ∧ Hid (b = a + hits (c.par.take t) y) ∧ b ≤ a + t ∧ Below wq.heap.size wq w') (fun v _ _ => np - (intOf v).toNat)
              case atStart => exact ⟨0, a, Nat.zero_le _, rfl, rfl, rfl, by omega, Below.refl _ _⟩
              case round =>
                obtain ⟨t, b, ht, rfl, rfl, hb, hb2, hBt⟩ := hrel
                by_cases hlt2 : t < np
                · obtain ⟨pt, hpt⟩ : ∃ pt, c.par[t]? = some pt := ⟨_, List.getElem?_eq_getElem (by rw [← HNP.out]; exact hlt2)⟩
                  obtain ⟨b7, o7, rfl, cp⟩ := HF8.out.at_ (nums_at hpt)
                  replace cp := cell_bel cp (bel_tr hBq hBt)
                  have hcpl := cell_lt cp
                  have hnew : hits (c.par.take (t + 1)) y = if pt == y then hits (c.par.take t) y + 1 else hits (c.par.take t) y := by
                    rw [List.take_add_one, hpt]; exact hits_snoc _ _ _
                  have HNEW := Lib.hid hnew; clear hnew hpt
                  by_cases he : pt = y
                  · have g2 : (pt == y) = true := by simpa using he
                    have HN2 : Hid (b + 1 = a + hits (c.par.take (t + 1)) y) := by show _ = _; rw [HNEW.out, if_pos g2, hb.out]; omega
                    subst he
                    clear g2
                    go_wp2
                    go_roundw
                    case rel => exact ⟨t + 1, b + 1, by omega, by go_num, by go_num, HN2, by omega, by (repeat (first | (with_reducible exact Below.refl _ _) | (with_reducible assumption) | (with_reducible refine bel_al0 ?_ _) | (with_reducible refine bel_set ?_ (by first | (simp; done) | (simp; omega)) _) | (with_reducible refine bel_dr ?_) | (with_reducible refine bel_drn ?_ _) | (with_reducible refine bel_tr ?_ (by assumption))))⟩
                    case measure => simp [intOf]; omega
                  · have g2 : (pt == y) = false := by simpa using he
                    have HN2 : Hid (b = a + hits (c.par.take (t + 1)) y) := by show _ = _; rw [HNEW.out, g2, if_neg (by simp), hb.out]
                    go_wp2
                    go_roundw
                    case rel => exact ⟨t + 1, b, by omega, by go_num, rfl, HN2, by omega, by (repeat (first | (with_reducible exact Below.refl _ _) | (with_reducible assumption) | (with_reducible refine bel_al0 ?_ _) | (with_reducible refine bel_set ?_ (by first | (simp; done) | (simp; omega)) _) | (with_reducible refine bel_dr ?_) | (with_reducible refine bel_drn ?_ _) | (with_reducible refine bel_tr ?_ (by assumption))))⟩
                    case measure => simp [intOf]; omega
                · have hpt : c.par.take t = c.par := by rw [List.take_of_length_le]; have := HNP.out; omega
                  have HN3 : Hid (b = ahead (ord.take (q + 1)) c.par) := by show _ = _; rw [htk.out, hb.out, hpt, ha.out]
                  clear hpt
                  go_wp2
                  go_roundw
                  case rel => exact ⟨q + 1, b, by omega, by go_num, rfl, HN3, by omega, by (repeat (first | (with_reducible exact Below.refl _ _) | (with_reducible assumption) | (with_reducible refine bel_al0 ?_ _) | (with_reducible refine bel_set ?_ (by first | (simp; done) | (simp; omega)) _) | (with_reducible refine bel_dr ?_) | (with_reducible refine bel_drn ?_ _) | (with_reducible refine bel_tr ?_ (by assumption))))⟩
                  case measure => simp [intOf]; omega
            · have hqi : q = i := by omega
              have han : a = np := by rw [ha.out, hqi]; exact HBE.out
              subst han
              clear hqi ha
              go_wp2
              go_roundw
              case rel => exact ⟨i + 1, by omega, by go_num, bel_tr hB (bel_tr hb8 (by (repeat (first | (with_reducible exact Below.refl _ _) | (with_reducible assumption) | (with_reducible refine bel_al0 ?_ _) | (with_reducible refine bel_set ?_ (by first | (simp; done) | (simp; omega)) _) | (with_reducible refine bel_dr ?_) | (with_reducible refine bel_drn ?_ _) | (with_reducible refine bel_tr ?_ (by assumption))))))⟩
              case measure => simp [intOf]; omega
        · have hiN : i = N := by omega
          have HRRo := Lib.hid (HRR.out wo x (HRG4.out.below hB) hbwo)
          rw [← HCL.out] at HRRo
          clear hiN
          go_wp2_with (go_at_call 60; refine HRRo.out.mono ?_; rintro e w9 ⟨v9, rfl, ho9, hb9⟩; obtain ⟨A9, k9, rfl, _⟩ := own_form ho9; clear ho9)
          go_ret
          exact ⟨rfl, bel_tr hbwo (by (repeat (first | (with_reducible exact Below.refl _ _) | (with_reducible assumption) | (with_reducible refine bel_al0 ?_ _) | (with_reducible refine bel_set ?_ (by first | (simp; done) | (simp; omega)) _) | (with_reducible refine bel_dr ?_) | (with_reducible refine bel_drn ?_ _) | (with_reducible refine bel_tr ?_ (by assumption)))))⟩
    · have hgt : (20 : Int) < nb := by omega
      clear hfew h hst
      go_enter Try.func13, Try.ntmps13
      go_wp2_with (first | (go_at_call 24; refine (awake30_calls _).mono ?_; rintro e w1 ⟨rfl, hb1⟩) | (go_at_call 25; refine (HF.out _ hb1).mono ?_; rintro e w2 ⟨rfl, hb2⟩))
      go_ret
      exact ⟨rfl, bel_tr hb1 hb2⟩
  · have hfew' : few l = false := by simpa using hfew
    rw [hfew'] at HF
    clear hfew hfew' h hst
    go_enter Try.func13, Try.ntmps13
    go_wp2_with (first | (go_at_call 24; refine (awake30_calls _).mono ?_; rintro e w1 ⟨rfl, hb1⟩) | (go_at_call 25; refine (HF.out _ hb1).mono ?_; rintro e w2 ⟨rfl, hb2⟩))
    go_ret
    exact ⟨rfl, bel_tr hb1 hb2⟩
theorem walkTopo_all (w : World) (A : Option Addr) (n k : Nat) (l : List CommitD) (h : CIn w A n l) (B : Option Addr) (nb kb : Nat) (st : List Int) (hst : UIn w B nb st) :
    Calls Try.prog 13 #[.slice A n k, .slice B nb kb] w fun e w' => e = .returned (.bool true) ∧ Below w.heap.size w w' := walkTopo_calls w A n k l h B nb kb st hst
end Go.Proofs.Ytehneliphhgegaa
