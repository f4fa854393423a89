/- The law GraphKeeps: walked. -/
import Derived.Test.YtehneliphhgegaaKeep
import Derived.Test.YtehneliphhgegaaNilKeep
import Derived.Test.YtehneliphhgegaaRefKeep
import Derived.Test.YtehneliphhgegaaLogAll
import Derived.Test.YtehneliphhgegaaLaw15a
import Derived.Test.YtehneliphhgegaaReadCommits
set_option linter.unusedVariables false
set_option linter.unusedSimpArgs false
set_option maxRecDepth 100000
namespace Go.Proofs.Ytehneliphhgegaa
open Go.RowKit Go.Apo

structure UIn15 (w : World) (A : Option Addr) (n : Nat) (l : List Int) : Prop where
  len : l.length = n
  flat : Flat w A (nums l)
  nil : A = none → l = []
theorem u64Row15_of {H : Type} {enc : TypeId × Value → H} {w : World} {A : Option Addr} {n c : Nat} (h : G enc Try.prog w 50 [.slice A n c]) (hs : n * 8 ≤ 140737488351232) : ∃ l, UIn15 w A n l := by
  obtain ⟨l, h1, h2, h3, _⟩ := u64s_of h
  exact ⟨l, h1, h2, h3⟩
def MIn (w : World) (c : CommitD) (cs : Array Value) : Prop := ∃ A k, cs = #[.int .u64 c.id, .slice A c.par.length k, .int .u64 c.gen, .int .u64 c.root, .string c.text] ∧ Flat w A (nums c.par)
theorem commit_cells {H : Type} {enc : TypeId × Value → H} {w : World} {cs : Array Value} (h : G enc Try.prog w 69 cs.toList) : ∃ c, MIn w c cs := by
  obtain ⟨c, v0, v1, v2, v3, v4, e, ⟨A, k, e2, hf, _⟩, _⟩ := commit_cells' h
  refine ⟨c, A, k, ?_, hf⟩
  simp only [Value.agg.injEq] at e2
  rw [← e2]
  cases cs; simp_all

theorem keep_same {L L' : List (Int × CommitD)} {R : List CommitD} (h : Sync L R) (hO : LOk L) (ids : List Int) (hp : L'.Perm (L.filter fun q => (mget (reachS L ids) q.1).isSome)) :
    sortI (mkeys L') = (rkeep R ids).map CommitD.id ∧ (R.length : Int) - ((rkeep R ids).length : Int) = (L.length : Int) - (L'.length : Int) := by
  have hg : ∀ x, (mget (reachS L ids) x).isSome = decide (x ∈ rreach R ids) := fun x => by
    rw [Bool.eq_iff_iff, decide_eq_true_iff, h.reach hO, mem_keys]
    unfold reachL
    rw [mem_sortI]
  have e1 : mkeys (L.filter fun q => (mget (reachS L ids) q.1).isSome) = (mkeys L).filter fun x => decide (x ∈ rreach R ids) := by
    unfold mkeys
    rw [List.filter_map]
    congr 1
    exact List.filter_congr fun q _ => hg q.1
  have e2 : (rkeep R ids).map CommitD.id = (R.map CommitD.id).filter fun x => decide (x ∈ rreach R ids) := by
    unfold rkeep
    rw [List.filter_map]
    rfl
  have e3 : sortI (mkeys L') = (rkeep R ids).map CommitD.id := by
    have hk : (mkeys L').Perm ((mkeys L).filter fun x => decide (x ∈ rreach R ids)) := by rw [← e1]; exact hp.map _
    rw [sortI_of_perm hk, e2]
    refine pw_eq (sortI_lt (h.nodup.filter _)) ((List.pairwise_map.2 h.sorted).filter _) (fun x => ?_)
    rw [mem_sortI, List.mem_filter, List.mem_filter, ← sync_ids h, mem_sortI]
  refine ⟨e3, ?_⟩
  have h1 : (rkeep R ids).length = L'.length := by
    have := congrArg List.length e3
    rw [sortI_len, List.length_map] at this
    simpa [mkeys] using this.symm
  rw [h1, h.len]
theorem lok_nil : LOk [] := ⟨fun _ _ h => (by cases h), fun _ _ h => (by cases h)⟩
theorem nums_nil : numsIn (mkeys ([] : List (Int × CommitD))) := fun k hk => by simp [mkeys] at hk
theorem base_nil : (baseC [] 1 2).id = 0 := by decide +kernel
theorem is_nil : isB [] 1 1 = false := by decide +kernel
theorem reach_nil : reachL [] [1] = [] := by simp [reachL, reachS, reachRun, mget_nil, mkeys, sortI]
theorem log_nil {cs : List CommitD} (h : O.LogIs [] 1 9 cs) : cs = [] := by
  cases cs with
  | nil => rfl
  | cons c cs =>
    have := (h.mem c List.mem_cons_self).1.of
    rw [mget_nil] at this
    cases this

set_option maxHeartbeats 8000000 in
theorem graphKeeps_calls (w : World) (A : Option Addr) (n k : Nat) (l : List CommitD) (h : CIn w A n l) (B : Option Addr) (nb kb : Nat) (st : List Int) (hst : UIn15 w B nb st) (i g r : Int) (t : ByteArray) (C : Option Addr) (nc kc : Nat) (ps : List Int) (hps : ps.length = nc) (hpf : Flat w C (nums ps)) :
    Calls Try.prog 14 #[.slice A n k, .slice B nb kb, .agg #[.int .u64 i, .slice C nc kc, .int .u64 g, .int .u64 r, .string t]] w fun e w' => e = .returned (.bool true) ∧ Below w.heap.size w w' := by
  have HF := Lib.hid (fun W (hW : Below w.heap.size w W) => few15_calls W A n k l (h.below hW))
  have hW0 := bel_al0 (Below.refl w.heap.size w) (.cells #[.int .u64 i, .slice C nc kc, .int .u64 g, .int .u64 r, .string t] 69)
  have HBX := Lib.hid (blk_new w #[.int .u64 i, .slice C nc kc, .int .u64 g, .int .u64 r, .string t] 69)
  by_cases hfew : few l = true
  · rw [hfew] at HF
    have HLI := Lib.hid (fun W => light_calls W i g r t C nc kc)
    obtain ⟨lb, hlb⟩ : ∃ lb, lb = (decide (nc ≤ 5) && decide (t.size ≤ 100)) := ⟨_, rfl⟩
    rw [← hlb] at HLI
    clear hlb
    by_cases hb20 : nb ≤ 20
    · cases lb with
      | false =>
        clear hfew h hst hpf hps
        go_enter Try.func14, Try.ntmps14
        go_wp2_with (first | (go_at_call 43; refine (awake15_calls _).mono ?_; rintro e w1 ⟨rfl, hb1⟩) | (go_at_call 25; refine (HF.out _ (bel_tr hW0 hb1)).mono ?_; rintro e w2 ⟨rfl, hb2⟩; obtain ⟨x0, x1, x2, x3, x4, xf⟩ := (HBX.out.below (bel_tr hb1 hb2)).five; have hbl := cell_lt x0) | (go_at_call 65; refine (HLI.out _).mono ?_; rintro e w3 ⟨rfl, hb3⟩))
        go_ret
        exact ⟨rfl, bel_tr (bel_tr (bel_tr hW0 hb1) hb2) hb3⟩
      | true =>
        have HM := Lib.hid (fun W (hW : Below w.heap.size w W) => made_calls W A n k l (h.below hW) hfew)
        have hg2 := graph2 hfew
        have hsy := hg2.sync
        have hlen := hg2.len
        have hrlen := hg2.rlen
        have HNM := Lib.hid h.nums
        have hpr : ∀ c ∈ madeR l, c.par.length ≤ 2 := fun c hc => by
          have h1 := rFind_self hsy.sorted c hc
          rw [hsy.same] at h1
          exact (hsy.two c.id c h1).1
        have hrp : ∀ i, (rPar (madeR l) i).length ≤ 2 := fun i => (hsy.rclosed i).1
        have HKE := Lib.hid (fun W p m (hW : GraphAt W p m (madeL l)) (hb : Below w.heap.size w W) => keep_calls W p m _ hW hg2.lok (by omega) HNM.out B nb kb st hst.len (hst.flat.below hb) hst.nil (by omega))
        have HRK := Lib.hid (fun W x (hW : RGraphAt W x (madeR l)) (hb : Below w.heap.size w W) => rkeep_calls W x _ hW (by omega) hrp hpr B nb kb st hst.len (hst.flat.below hb) (by omega))
        have HSM := Lib.hid (fun L' hp => keep_same (L' := L') hsy hg2.lok st hp)
        have HAD := Lib.hid (fun W (hW : Below w.heap.size w W) => add_nil W i g r t C nc kc ps hps (hpf.below hW))
        have HGN := Lib.hid (fun W => gget_nil W 1)
        unfold GetOwn at HGN
        have HBN := Lib.hid (fun W => N.base_calls W none [] (GP.nil W) lok_nil (Nat.zero_le _) nums_nil 1 2)
        rw [base_nil] at HBN
        have HIN := Lib.hid (fun W => N.is_calls W none [] (GP.nil W) lok_nil (Nat.zero_le _) 1 1)
        rw [is_nil] at HIN
        have HLN := Lib.hid (fun W => O.log_calls W none [] [] (GP.nil W) Sync.nil (Nat.zero_le _) 1 9)
        unfold O.LogPost at HLN
        have HRN := Lib.hid (fun W : World => N.Reach_calls (W.alloc (.cells #[.int .u64 1] 24)) none [] (GP.nil _) lok_nil (Nat.zero_le _) nums_nil (some ⟨W.heap.size, 0, none⟩) 1 1 [1] rfl (flat_one W 1) (fun e => by cases e) (by omega))
        rw [reach_nil] at HRN
        unfold NumsOwn at HRN
        have HKN := Lib.hid (fun W => keep_nil W B nb kb)
        have HDN := Lib.hid (fun W => ids_gp W none [] (GP.nil W) (Nat.zero_le _) nums_nil)
        unfold NumsOwn at HDN
        have hnl : (sortI (mkeys ([] : List (Int × CommitD)))) = [] := by simp [mkeys, sortI]
        rw [hnl] at HDN
        have HID := Lib.hid (fun W p m L' (hW : GraphAt W p m L') (hl : L'.length ≤ 25) (hw : numsIn (mkeys L')) => ids_gp W (some ⟨p, 0, none⟩) L' hW.gp (by omega) hw)
        unfold NumsOwn at HID
        have HRI := Lib.hid (fun W x R' (hW : RGraphAt W x R') (hl : R'.length ≤ 25) => rids_calls W x R' hW (by omega))
        unfold NumsOwn at HRI
        have HSN := Lib.hid (fun W A B k k' (ids : List Int) n (hn : ids.length = n) (hl : n ≤ 25) (h1 : Flat W A (nums ids)) (h2 : Flat W B (nums ids)) => same_calls W A B n n k k' ids ids hn hn h1 h2 (by omega) (by omega))
        have HDT := Lib.hid (fun (ids : List Int) => (show decide (ids = ids) = true by simp))
        unfold MadePost at HM
        unfold KeepPost at HKE
        have HSUB := Lib.hid (fun (L' : List (Int × CommitD)) (hp : L'.Perm ((madeL l).filter fun q => (mget (reachS (madeL l) st) q.1).isSome)) => (show L'.length ≤ 25 ∧ numsIn (mkeys L') from ⟨by rw [hp.length_eq]; exact Nat.le_trans (List.length_filter_le _ _) hlen, fun k hk => by
          obtain ⟨q, hq, rfl⟩ := List.mem_map.1 hk
          exact HNM.out _ (List.mem_map.2 ⟨q, (List.mem_filter.1 (hp.mem_iff.1 hq)).1, rfl⟩)⟩))
        have hrk : (rkeep (madeR l) st).length ≤ 25 := Nat.le_trans (List.length_filter_le _ _) hrlen
        obtain ⟨R', hR'⟩ : ∃ R', R' = rkeep (madeR l) st := ⟨_, rfl⟩
        rw [← hR'] at HRK HSM hrk
        obtain ⟨L, hL⟩ : ∃ L, L = madeL l := ⟨_, rfl⟩
        obtain ⟨R, hR⟩ : ∃ R, R = madeR l := ⟨_, rfl⟩
        rw [← hL, ← hR] at HM HSM
        rw [← hL] at HKE HSUB
        rw [← hR] at HRK
        have HRK25 := Lib.hid hrk
        clear hL hR hR' hg2 hsy hlen hrlen hfew h HNM hpr hrp hpf hps hst hnl hrk
        go_enter Try.func14, Try.ntmps14
        go_upto_region 11 with (first
          | (go_at_call 43; refine (awake15_calls _).mono ?_; rintro e w1 ⟨rfl, hb1⟩)
          | (go_at_call 25; refine (HF.out _ (bel_tr hW0 hb1)).mono ?_; rintro e w2 ⟨rfl, hb2⟩; obtain ⟨x0, x1, x2, x3, x4, xf⟩ := (HBX.out.below (bel_tr hb1 hb2)).five; have hbl := cell_lt x0)
          | (go_at_call 65; refine (HLI.out _).mono ?_; rintro e w3 ⟨rfl, hb3⟩; clear x0 x1 x2 x3 x4 xf hbl; have hc3 := bel_tr (bel_tr hb1 hb2) hb3)
          | (go_at_call 26; refine (HM.out _ (bel_tr hW0 hc3)).mono ?_; rintro e w4 ⟨p, m, x, rfl, hg4, hr4, hb4, hp, hm, hx⟩; have HG4 := Lib.hid hg4; clear hg4; have HR4 := Lib.hid hr4; clear hr4; have hc4 := bel_tr hc3 hb4; clear HM; have hm0 := Nat.le_trans hc3.size hm; have hx0 := Nat.le_trans hc3.size hx)
          | (go_at_call 66; refine (HKE.out _ p m HG4.out (bel_tr hW0 hc4)).mono ?_; clear HKE; rintro e w5 ⟨L', rfl, hg5, hp5, hb5⟩; have HR5 := Lib.hid (RGraphAt.but HR4.out HG4.out hb5); have HG5 := Lib.hid hg5; clear hg5; obtain ⟨s1, s2⟩ := HSM.out L' hp5; obtain ⟨t1, t2⟩ := HSUB.out L' hp5; have hc5 := But.below hc4 (Nat.le_refl _) hm0 hb5; obtain ⟨d5, hd5⟩ : ∃ d5, d5 = (L.length : Int) - (L'.length : Int) := ⟨_, rfl⟩; rw [← hd5] at s2 ⊢; have HS1 := Lib.hid s1; have HS2 := Lib.hid s2; have HT1 := Lib.hid t1; have HT2 := Lib.hid t2; clear s1 s2 t1 t2 hp5 hd5)
          | (go_at_call 67; refine (HRK.out _ x HR5.out (bel_tr hW0 hc5)).mono ?_; clear HRK; rw [HS2.out]; rintro e w6 ⟨rfl, hr6, hb6⟩; have HG6 := Lib.hid (GraphAt.but HG5.out HR5.out hb6); have HR6 := Lib.hid hr6; clear hr6; have hc6 := But.below hc5 (Nat.le_refl _) hx0 hb6; have HW6 := Lib.hid (bel_tr hW0 hc6))
          | (go_at_call 44; refine (HGN.out _).mono ?_; rintro e w7 ⟨A7, k7, rfl, ho7, hb7⟩; clear ho7)
          | (go_at_call 49; refine (HBN.out _).mono ?_; rintro e w8 ⟨rfl, hb8⟩; have hb68 : Below w6.heap.size w6 w8 := bel_tr (bel_al0 hb7 _) hb8; obtain ⟨x0, x1, x2, x3, x4, xf⟩ := (HBX.out.below (bel_tr hc6 hb68)).five; have hbl := cell_lt x0)
          | (go_at_call 68; refine (HAD.out _ (bel_tr HW6.out hb68)).mono ?_; rintro e w9 ⟨z9, rfl, z90, hb9⟩; have z91 : ¬ z9 = 0 := (by simpa using z90); have z92 : (!(z9 == 0)) = true := (by rw [z90]; rfl); have z93 : decide (z9 = 0) = false := (by simpa using z90); have z94 : (z9 != 0) = true := (by simpa using z90); clear x0 x1 x2 x3 x4 xf hbl; have hb69 : Below w6.heap.size w6 w9 := bel_tr hb68 hb9))
        clear HF HBX HLI HAD HGN HBN HSM HSUB hb5 hb6 hc6 HG4 HR4 HR5 HG5 HS2 hb7 hb8
        obtain ⟨I5, hI5⟩ : ∃ I5, I5 = sortI (mkeys L') := ⟨_, rfl⟩
        have HI := Lib.hid (HID.out w9 p m L' (HG6.out.below hb69) HT1.out HT2.out)
        have HJ := Lib.hid (fun W (hW : Below w6.heap.size w6 W) => HRI.out W x R' (HR6.out.below hW) HRK25.out)
        have hI6 := HS1.out
        rw [← hI5] at HI hI6
        rw [← hI6] at HJ
        have hIl : I5.length ≤ 25 := by rw [hI5, sortI_len]; have := HT1.out; simpa [mkeys] using this
        obtain ⟨nI, hnI⟩ : ∃ nI, nI = I5.length := ⟨_, rfl⟩
        rw [← hnI] at HI HJ hIl
        have HNI := Lib.hid hnI.symm
        have HSN2 := Lib.hid (fun W A B k k' h1 h2 => HSN.out W A B k k' I5 nI HNI.out hIl h1 h2)
        rw [HDT.out I5] at HSN2
        have hl0 : ([] : List Int).length = 0 := rfl
        rw [hl0] at HRN HDN
        clear hI5 hI6 hnI HID HRI HSN HDT HG6 HR6 HT1 HT2 HS1 HRK25 hl0
        go_wp2_with (first
          | (go_at_call 47; refine HI.out.mono ?_; clear HI; rintro e w10 ⟨v10, rfl, o10, b10⟩; obtain ⟨A10, k10, rfl, _⟩ := own_form o10; have G10 := Lib.hid (own_flat o10); clear o10)
          | (go_at_call 48; refine (HJ.out _ (bel_tr hb69 b10)).mono ?_; rintro e w11 ⟨v11, rfl, o11, b11⟩; obtain ⟨A11, k11, rfl, _⟩ := own_form o11; have G11 := Lib.hid (own_flat o11); clear o11)
          | (go_at_call 29; refine (HSN2.out _ A10 A11 k10 k11 (G10.out.below b11) G11.out).mono ?_; rintro e w12 ⟨rfl, b12⟩)
          | (go_at_call 50; refine (HIN.out _).mono ?_; rintro e w13 ⟨rfl, b13⟩)
          | (go_at_call 62; refine (HLN.out _).mono ?_; rintro e w14 ⟨A14, k14, cs, rfl, _, _, l14, b14⟩; obtain rfl := log_nil l14)
          | (go_at_call 59; refine (HRN.out w14).mono ?_; rintro e w15 ⟨v15, rfl, o15, b15⟩; obtain ⟨A15, k15, rfl, _⟩ := own_form o15; clear o15)
          | (go_at_call 66; refine (HKN.out _).mono ?_; rintro e w16 ⟨rfl, b16⟩)
          | (go_at_call 47; refine (HDN.out _).mono ?_; rintro e w17 ⟨v17, rfl, o17, b17⟩; obtain ⟨A17, k17, rfl, _⟩ := own_form o17; clear o17))
        go_ret
        have hb7 : Below w6.heap.size w6 w17 := by (repeat (first | (with_reducible exact Below.refl _ _) | (with_reducible assumption) | (with_reducible refine bel_al0 ?_ _) | (with_reducible refine bel_set ?_ (by first | (simp; done) | (simp; omega)) _) | (with_reducible refine bel_dr ?_) | (with_reducible refine bel_drn ?_ _) | (with_reducible refine bel_tr ?_ (by assumption))))
        exact ⟨rfl, bel_tr HW6.out hb7⟩
    · clear HLI
      clear hfew h hst hpf hps
      go_enter Try.func14, Try.ntmps14
      go_wp2_with (first | (go_at_call 43; refine (awake15_calls _).mono ?_; rintro e w1 ⟨rfl, hb1⟩) | (go_at_call 25; refine (HF.out _ (bel_tr hW0 hb1)).mono ?_; rintro e w2 ⟨rfl, hb2⟩))
      go_ret
      exact ⟨rfl, bel_tr (bel_tr hW0 hb1) hb2⟩
  · have hfew' : few l = false := by simpa using hfew
    rw [hfew'] at HF
    clear hfew hfew' h hst hpf hps
    go_enter Try.func14, Try.ntmps14
    go_wp2_with (first | (go_at_call 43; refine (awake15_calls _).mono ?_; rintro e w1 ⟨rfl, hb1⟩) | (go_at_call 25; refine (HF.out _ (bel_tr hW0 hb1)).mono ?_; rintro e w2 ⟨rfl, hb2⟩))
    go_ret
    exact ⟨rfl, bel_tr (bel_tr hW0 hb1) hb2⟩
theorem graphKeeps_all (w : World) (A : Option Addr) (n k : Nat) (l : List CommitD) (h : CIn w A n l) (B : Option Addr) (nb kb : Nat) (st : List Int) (hst : UIn15 w B nb st) (c : CommitD) (cs : Array Value) (hc : MIn w c cs) :
    Calls Try.prog 14 #[.slice A n k, .slice B nb kb, .agg cs] w fun e w' => e = .returned (.bool true) ∧ Below w.heap.size w w' := by
  obtain ⟨C, kc, rfl, hf⟩ := hc
  exact graphKeeps_calls w A n k l h B nb kb st hst _ _ _ _ _ _ _ _ rfl hf
end Go.Proofs.Ytehneliphhgegaa
