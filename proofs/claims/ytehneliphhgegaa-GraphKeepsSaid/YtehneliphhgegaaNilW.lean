/- Far: for a graph that somebody made, or nobody. Written by nilport.py out of XFar. · FarPath: for a graph that somebody made, or nobody. Written by nilport.py out of XFarPath. · Collect: for a graph that somebody made, or nobody. Written by nilport.py out of XCollect. · Kids: for a graph that somebody made, or nobody. Written by nilport.py out of XKids. · Heads: for a graph that somebody made, or nobody. Written by nilport.py out of XHeads. · Roots: for a graph that somebody made, or nobody. Written by nilport.py out of XRoots. -/
import Derived.Test.YtehneliphhgegaaNilG
import Derived.Test.YtehneliphhgegaaFar
import Derived.Test.YtehneliphhgegaaFarPath
import Derived.Test.YtehneliphhgegaaKidsAll
section
set_option linter.unusedVariables false
set_option linter.unusedSimpArgs false
set_option maxRecDepth 100000
namespace Go.Proofs.Ytehneliphhgegaa.N
open Go.RowKit Go.Apo Go.Shelf
attribute [local go_sem] Oper.semAt_some
set_option maxHeartbeats 4000000 in
theorem far_calls (w : World) (gq : Option Addr) (L : List (Int × CommitD)) (h : GP w gq L) (hC : Closed L) (hL : L.length ≤ 100000) (late : Int) :
    Calls Try.prog 77 #[.pointer gq, .int .u64 late] w (FarPost w (farM L late)) := by
  obtain ⟨RES, hRES⟩ : ∃ RES, RES = farM L late := ⟨_, rfl⟩
  rw [← hRES]
  have hmm := @run_makeMap Try.prog
  have HG := Lib.hid (fun W (hW : GP W gq L) i => gp_get gq W L hW i)
  have H := Lib.hid h; clear h
  have HC := Lib.hid hC; clear hC
  have HLL := Lib.hid hL; clear hL
  unfold farM at hRES
  go_enter Try.func77, Try.ntmps77
  have hB0 : Below w.heap.size w (w.alloc (.map #[] 0)) := by (repeat (first | (with_reducible exact Below.refl _ _) | (with_reducible assumption) | (with_reducible refine bel_al0 ?_ _) | (with_reducible refine bel_set ?_ (by first | (simp; done) | (simp; omega)) _) | (with_reducible refine bel_dr ?_) | (with_reducible refine bel_drn ?_ _) | (with_reducible refine bel_tr ?_ (by assumption))))
  have hm0 := Lib.hid (mapIs_made (Value.int .u64) intIs w)
  cases hlt : mget L late with
  | none =>
    rw [hlt] at hRES
    obtain rfl : RES = [] := by simpa using hRES
    clear hRES
    have hg := HG.out _ (H.out.below hB0) late
    rw [hlt] at hg
    clear hlt
    have HG' := Lib.hid hg; clear hg
    go_wp2_with (go_at_call 44; refine HG'.out.mono ?_; rintro e w1 ⟨A1, k1, rfl, ho1, hb1⟩; clear ho1)
    go_ret
    refine ⟨w.heap.size, rfl, hm0.out.below ints_onCells ?_, ?_, Nat.le_refl _⟩
    · exact bel_al0 hb1 _
    · (repeat (first | (with_reducible exact Below.refl _ _) | (with_reducible assumption) | (with_reducible refine bel_al0 ?_ _) | (with_reducible refine bel_set ?_ (by first | (simp; done) | (simp; omega)) _) | (with_reducible refine bel_dr ?_) | (with_reducible refine bel_drn ?_ _) | (with_reducible refine bel_tr ?_ (by assumption))))
  | some c0 =>
    rw [hlt] at hRES
    have hRES2 : RES = farRun L (2 * L.length + 1) [(late, 0)] [late] := by simpa using hRES
    clear hRES
    have hg := HG.out _ (H.out.below hB0) late
    have hsome : (mget L late).isSome = true := by rw [hlt]; rfl
    have hok : FarOk L [(late, 0)] [late] := by
      refine ⟨fun k d hk => ?_, fun y hy => ?_, by simp [mkeys]⟩
      · rw [mget_cons] at hk
        by_cases he : late = k
        · rw [if_pos he] at hk; cases hk; subst he; exact ⟨by simp, by simp, hsome⟩
        · rw [if_neg he] at hk; cases hk
      · rw [List.mem_singleton] at hy; subst hy; rw [mget_cons, if_pos rfl]; rfl
    rw [hlt] at hg
    have HG' := Lib.hid hg; clear hg
    have HOK := Lib.hid hok; clear hok
    have HR2 := Lib.hid hRES2; clear hRES2
    clear hlt hsome
    obtain ⟨m, hm⟩ : ∃ m, m = w.heap.size := ⟨_, rfl⟩
    have hlate : (Value.int .u64 late).oneCell' = true := rfl
    go_wp2_with (first | (go_at_call 44; refine HG'.out.mono ?_; rintro e w1 ⟨A1, k1, rfl, ho1, hb1⟩; clear ho1) | (at_mapUpdate; refine wpl_store (R := intIs) rfl _ _ _ 102 3 rfl keyU ints_onCells Try.underlying102 rfl late rfl _ rfl ((hm0.out.below ints_onCells hb1).below ints_onCells (bel_al0 (Below.refl _ _) _)) (v := 0) rfl ?_; intro w3 hm3 hg3 hz3))
    rw [← hm] at hm3 hg3
    have hB3 : Below w.heap.size w w3 := by
      refine But.below (m := m) ?_ (Nat.le_refl _) (by omega) (But.of_grown hg3)
      exact bel_al0 (bel_tr hB0 hb1) _
    have hsz3 : m < w3.heap.size := hm3.lt
    have hmp : mput ([] : List (Int × Int)) late 0 = [(late, 0)] := rfl
    rw [hmp] at hm3
    have hM0 := Lib.hid (hm3.below ints_onCells (bel_al0 (Below.refl _ w3) (.cells #[.int .u64 late] 24)))
    have hQ0 := Lib.hid (Que.new (base := w.heap.size + 1) w3 #[.int .u64 late] 24 (by omega) (by unfold maxLen; simp))
    have hB4 : Below w.heap.size w (w3.alloc (.cells #[.int .u64 late] 24)) := by (repeat (first | (with_reducible exact Below.refl _ _) | (with_reducible assumption) | (with_reducible refine bel_al0 ?_ _) | (with_reducible refine bel_set ?_ (by first | (simp; done) | (simp; omega)) _) | (with_reducible refine bel_dr ?_) | (with_reducible refine bel_drn ?_ _) | (with_reducible refine bel_tr ?_ (by assumption))))
    obtain ⟨w4, hw4⟩ : ∃ w4, w4 = w3.alloc (.cells #[.int .u64 late] 24) := ⟨_, rfl⟩
    rw [← hw4] at hM0 hQ0 hB4 ⊢
    have hz4 : w1.heap.size + 1 = w3.heap.size := by rw [hz3]; simp
    rw [hz4, ← hm]
    have hmw : w.heap.size ≤ m := by omega
    rw [← hm] at hQ0
    have HMM := Lib.hid hm; clear hm
    clear hz4 hw4 hm3 hg3 hz3 hB3 hb1 HG' hm0 hmm hB0 hlate
    have hL := HLL.out
    go_loopg [8, 9, 10, 12, 13, 14] (2 * L.length + 1) (fun k v8 _ _ _ _ _ wr => ∃ (g off n cap : Nat) (l : List Int) (M : List (Int × Int)), v8 = .slice (some ⟨g, off, none⟩) n cap ∧ k ≤ 200001 ∧ Hid (l.length = n) ∧ Hid (Que wr (m + 1) 24 g off n cap (nums l)) ∧ Hid (MapIs (Value.int .u64) intIs wr m M) ∧ Hid (FarOk L M l) ∧ Hid (farLeft L M l ≤ k) ∧ Hid (RES = farRun L k M l) ∧ Below w.heap.size w wr)
    case atStart => exact ⟨w3.heap.size, 0, 1, 1, [late], [(late, 0)], rfl, by omega, rfl, hQ0, hM0, HOK, (by show farLeft L [(late, 0)] [late] ≤ _; unfold farLeft; simp; omega), HR2, hB4⟩
    case round =>
      obtain ⟨g, off, n, cap, l, M, rfl, hn, hl, hQ, hM, hOK, hK, hR, hB⟩ := hrel
      cases l with
      | nil =>
        obtain rfl : n = 0 := hl.out.symm
        have hR2 : RES = M := by
          rw [hR.out]; cases gk <;> rfl
        subst hR2
        go_wp2
        go_ret
        exact ⟨m, rfl, hM.out, hB, by omega⟩
      | cons hd t =>
        obtain ⟨n', rfl⟩ : ∃ n', n = n' + 1 := ⟨t.length, hl.out.symm⟩
        have hk1 : 1 ≤ gk := by have := hK.out; unfold farLeft at this; simp at this; omega
        obtain ⟨f, rfl⟩ : ∃ f, gk = f + 1 := ⟨gk - 1, by omega⟩
        have c0 := hQ.out.cell (j := 0) (u := .int .u64 hd) rfl
        rw [Nat.add_zero] at c0
        have hgl := hQ.out.lt
        have hgm : m < g := by have := hQ.out.base; omega
        have HG2 := Lib.hid (HG.out _ (H.out.below hB) hd)
        have hpar : Hid ((gGet L hd).par.length ≤ 2 ∧ ∀ q ∈ (gGet L hd).par, (mget L q).isSome) := by
          show _ ∧ _
          unfold gGet
          cases hq : mget L hd with
          | none => exact ⟨by simp [CommitD.zero], fun q hq => by cases hq⟩
          | some c => exact HC.out hd c hq
        have hRun : Hid (RES = farRun L f (((gGet L hd).par).foldl (farStep hd) (M, hd :: t)).1 (((gGet L hd).par).foldl (farStep hd) (M, hd :: t)).2.tail) := hR.out
        clear hR
        obtain ⟨ps, hps⟩ : ∃ ps, ps = (gGet L hd).par := ⟨_, rfl⟩
        unfold GetOwn at HG2
        rw [← hps] at HG2 hpar hRun
        clear hps
        obtain ⟨np, hnp⟩ : ∃ np, np = ps.length := ⟨_, rfl⟩
        rw [← hnp] at HG2
        have HNP := Lib.hid hnp; clear hnp
        have hnp2 : np ≤ 2 := by rw [HNP.out]; exact hpar.out.1
        have hcap1 : n' + 1 ≤ cap := hQ.out.le
        go_wp2_with (go_at_call 44; refine HG2.out.mono ?_; rintro e w5 ⟨A1, k1, rfl, ho1, hb1⟩)
        have hb6 : Below wr.heap.size wr (w5.alloc (.cells #[.int .u64 (gGet L hd).id, .slice A1 np k1, .int .u64 (gGet L hd).gen, .int .u64 (gGet L hd).root, .string (gGet L hd).text] 69)) := by (repeat (first | (with_reducible exact Below.refl _ _) | (with_reducible assumption) | (with_reducible refine bel_al0 ?_ _) | (with_reducible refine bel_set ?_ (by first | (simp; done) | (simp; omega)) _) | (with_reducible refine bel_dr ?_) | (with_reducible refine bel_drn ?_ _) | (with_reducible refine bel_tr ?_ (by assumption))))
        have hF6 := Lib.hid ((own_flat ho1).below (bel_al0 (Below.refl _ w5) (.cells #[.int .u64 (gGet L hd).id, .slice A1 np k1, .int .u64 (gGet L hd).gen, .int .u64 (gGet L hd).root, .string (gGet L hd).text] 69)))
        have hO6 : Hid (∀ b off, A1 = some ⟨b, off, none⟩ → b ≠ g) := by
          show ∀ b off, A1 = some ⟨b, off, none⟩ → b ≠ g
          intro b off e
          subst e
          have := own_block ho1
          omega
        clear ho1 hb1
        have hQ6 := Lib.hid (hQ.out.below hb6)
        have hM6 := Lib.hid (hM.out.below ints_onCells hb6)
        have hBB : Below w.heap.size w (w5.alloc (.cells #[.int .u64 (gGet L hd).id, .slice A1 np k1, .int .u64 (gGet L hd).gen, .int .u64 (gGet L hd).root, .string (gGet L hd).text] 69)) := bel_tr hB hb6
        have hnn : n' + 1 ≤ 200001 := by have := hK.out; have := hl.out; unfold farLeft at *; omega
        obtain ⟨w6, hw6⟩ : ∃ w6, w6 = w5.alloc (.cells #[.int .u64 (gGet L hd).id, .slice A1 np k1, .int .u64 (gGet L hd).gen, .int .u64 (gGet L hd).root, .string (gGet L hd).text] 69) := ⟨_, rfl⟩
        rw [← hw6] at hF6 hQ6 hM6 hBB ⊢
        clear hw6 hb6 HG2
        go_loopw [45, 8, 12, 13, 14] (fun v v8 _ _ _ wq => ∃ (i g' off' n2 cap' : Nat) (l' : List Int) (M' : List (Int × Int)), i ≤ np ∧ v = .int .i64 i ∧ v8 = .slice (some ⟨g', off', none⟩) n2 cap' ∧ 1 ≤ n2 ∧ n2 ≤ cap' ∧ m ≠ g' ∧ Hid (l'.length = n2) ∧ Hid (Que wq (m + 1) 24 g' off' n2 cap' (nums l')) ∧ Hid (MapIs (Value.int .u64) intIs wq m M') ∧ Hid (FarOk L M' l') ∧ Hid (farLeft L M' l' ≤ f + 1) ∧ Hid ((ps.take i).foldl (farStep hd) (M, hd :: t) = (M', l')) ∧ Hid (∃ t', l' = hd :: t') ∧ Hid (Flat wq A1 (nums ps)) ∧ Hid (∀ b off, A1 = some ⟨b, off, none⟩ → b ≠ g') ∧ Below w.heap.size w wq) (fun v _ _ _ _ _ => np - (intOf v).toNat)
        case atStart => exact ⟨0, g, off, n' + 1, cap, hd :: t, M, Nat.zero_le _, rfl, rfl, by omega, hcap1, by omega, hl, hQ6, hM6, hOK, hK, rfl, ⟨t, rfl⟩, hF6, hO6, hBB⟩
        case round =>
          obtain ⟨i, g', off', n2, cap', l', M', hi, rfl, rfl, hn2, hcap2, hmg, hl', hQ', hM', hOK', hK', hfold, hhd, hF', hO', hB'⟩ := hrel
          by_cases hlt : i < np
          · obtain ⟨q, hq⟩ : ∃ q, ps[i]? = some q := ⟨_, List.getElem?_eq_getElem (by rw [← HNP.out]; exact hlt)⟩
            obtain ⟨b, ob, rfl, cj⟩ := hF'.out.at_ (nums_at hq)
            have htk : ps.take (i + 1) = ps.take i ++ [q] := by rw [List.take_add_one, hq]; rfl
            have hqL := hpar.out.2 q (List.mem_of_getElem? hq)
            have hnew : Hid ((ps.take (i + 1)).foldl (farStep hd) (M, hd :: t) = farStep hd (M', l') q) := by
              show _ = _
              rw [htk, List.foldl_append, hfold.out]; rfl
            obtain ⟨t', ht'⟩ := hhd.out
            have hmem : hd ∈ l' := by rw [ht']; exact List.mem_cons_self
            have hst := hOK'.out.step hqL hmem
            have hlf := farStep_left hOK'.out hqL hmem
            have hrw := hOK'.out.row hd hmem
            have HQ := Lib.hid hq; clear hq htk hmem
            cases hmq : mget M' q with
            | some d =>
              have e : farStep hd (M', l') q = (M', l') := by unfold farStep; simp [hmq]
              rw [e] at hnew hst hlf
              have HMQ := Lib.hid hmq; clear hmq hrw ht' e
              go_wp2_with (at_lookup; refine wpl_look_some rfl true _ _ 102 3 rfl keyU Try.underlying102 rfl q rfl hM'.out HMQ.out ?_; intro u hu; unfold intIs at hu; subst hu)
              go_roundw
              case rel => exact ⟨i + 1, g', off', n2, cap', l', M', by omega, by go_num, rfl, hn2, hcap2, hmg, hl', hQ', hM', hOK', hK', hnew, hhd, hF', hO', hB'⟩
              case measure => simp [intOf]; omega
            | none =>
              obtain ⟨dh, hdh⟩ := Option.isSome_iff_exists.1 hrw
              have hdv := hOK'.out.vals hd dh hdh
              have hml := hOK'.out.le
              have hd0 : 0 ≤ dh := hdv.1
              have hd1 : dh < 100001 := by omega
              have e : farStep hd (M', l') q = (mput M' q (dh + 1), l' ++ [q]) := by unfold farStep; simp [hmq, hdh]
              rw [e] at hnew hst hlf
              have ch := hQ'.out.cell (j := 0) (u := .int .u64 hd) (by rw [ht']; rfl)
              rw [Nat.add_zero] at ch
              have hl2 : n2 ≤ 200001 := by have h1 := hK'.out; have h2 := hl'.out; unfold farLeft at h1; omega
              have HMQ := Lib.hid hmq; clear hmq hrw hdv hml
              have HDH := Lib.hid hdh; clear hdh
              have HST := Lib.hid hst; clear hst
              have HLF := Lib.hid hlf; clear hlf
              have HT' := Lib.hid ht'; clear ht' e
              have hbl := cell_lt cj
              have hog := hO'.out b ob rfl
              have hgs := hQ'.out.lt
              go_wp2_with (first | (at_lookup; refine wpl_look_none rfl true _ _ 102 3 rfl keyU Try.underlying102 _ (fun W => zeroInt W) rfl q rfl hM'.out HMQ.out ?_) | (at_lookup; refine wpl_look_some rfl false _ _ 102 3 rfl keyU Try.underlying102 rfl hd rfl hM'.out HDH.out ?_; intro u hu; unfold intIs at hu; subst hu) | (at_mapUpdate; refine wpl_store (R := intIs) rfl _ _ _ 102 3 rfl keyU ints_onCells Try.underlying102 rfl q rfl _ rfl hM'.out (v := dh + 1) rfl ?_; intro w7 hm7 hg7 hz7; have HM7 := Lib.hid hm7; clear hm7; have HB7 := Lib.hid (But.of_grown hg7); clear hg7; have HQ7 := Lib.hid (hQ'.out.but HB7.out (Ne.symm hmg)); have HZ7 := Lib.hid hz7; clear hz7; have hms : m < w7.heap.size := HM7.out.lt) | (at_builtin; refine wpl_que_append rfl _ _ 50 rfl _ 8 Try.underlying50 infoU64 rfl rfl (HQ7.out.below (bel_al0 (Below.refl _ w7) _)) ⟨w7.heap.size, 0, none⟩ 1 (.int .u64 q) rfl (by rw [add_pl']; exact cell_at_new w7 _ _ 0 rfl) rfl (by unfold maxLen; omega) (by omega) (by simp; omega) ?_; intro g8 off8 cap8 w8 hQ8 hb8 hg8))
              have hB8 : Below w.heap.size w w8 := by
                have h1 : Below w.heap.size w w7 := But.below hB' (Nat.le_refl _) hmw HB7.out
                have h2 := bel_al0 h1 (.cells #[.int .u64 q] 24)
                exact But.below h2 (Nat.le_refl _) (by have := hQ'.out.base; omega) hb8
              have hal : Below w7.heap.size w7 (w7.alloc (.cells #[.int .u64 q] 24)) := by (repeat (first | (with_reducible exact Below.refl _ _) | (with_reducible assumption) | (with_reducible refine bel_al0 ?_ _) | (with_reducible refine bel_set ?_ (by first | (simp; done) | (simp; omega)) _) | (with_reducible refine bel_dr ?_) | (with_reducible refine bel_drn ?_ _) | (with_reducible refine bel_tr ?_ (by assumption))))
              have hM8 : Hid (MapIs (Value.int .u64) intIs w8 m (mput M' q (dh + 1))) := MapIs.but_ints (HM7.out.below ints_onCells hal) hmg hb8
              have hQ9 : Hid (Que w8 (m + 1) 24 g8 off8 (n2 + 1) cap8 (nums (l' ++ [q]))) := by
                show Que _ _ _ _ _ _ _ _
                rw [nums_app]; exact hQ8
              have hF8 : Hid (Flat w8 (some ⟨b, ob, none⟩) (nums ps)) := by
                obtain ⟨o9, ho9, hoc9⟩ := hM'.out.notCells
                exact flat_butb ((hF'.out.cells (HB7.out.cells ho9 hoc9)).below hal) hog hb8
              have hO8 : Hid (∀ b' off', some (⟨b, ob, none⟩ : Addr) = some ⟨b', off', none⟩ → b' ≠ g8) := by
                show ∀ b' off', some (⟨b, ob, none⟩ : Addr) = some ⟨b', off', none⟩ → b' ≠ g8
                intro b' off9 e
                simp only [Option.some.injEq, Addr.mk.injEq, and_true] at e
                rw [← e.1]
                have h3 := hal.size
                have h4 := HB7.out.size
                have h5 : b < wr.heap.size := hbl
                rcases hg8 with h | h
                · rw [h]; exact hog
                · omega
              have hmg8 : m ≠ g8 := by have := hQ8.base; omega
              have hcap8 := hQ8.le
              have hK8 : Hid (farLeft L (mput M' q (dh + 1)) (l' ++ [q]) ≤ f + 1) := Nat.le_trans HLF.out hK'.out
              have hl8 : Hid ((l' ++ [q]).length = n2 + 1) := by show _ = _; rw [List.length_append, hl'.out]; rfl
              have hh8 : Hid (∃ t', l' ++ [q] = hd :: t') := ⟨t' ++ [q], by rw [HT'.out]; rfl⟩
              have hST8 : Hid (FarOk L (mput M' q (dh + 1)) (l' ++ [q])) := HST.out
              clear hQ8 hb8 hg8
              go_roundw
              case rel => exact ⟨i + 1, g8, off8, n2 + 1, cap8, l' ++ [q], mput M' q (dh + 1), by omega, by go_num, rfl, by omega, hcap8, hmg8, hl8, hQ9, hM8, hST8, hK8, hnew, hh8, hF8, hO8, hB8⟩
              case measure => simp [intOf]; omega
          · have hin : i = np := by omega
            have htk : ps.take i = ps := by rw [List.take_of_length_le]; rw [← HNP.out]; omega
            have hfo := hfold.out
            rw [htk] at hfo
            have hRun' := hRun.out
            rw [hfo] at hRun'
            obtain ⟨t', ht'⟩ := hhd.out
            subst ht'
            obtain ⟨n3, rfl⟩ : ∃ n3, n2 = n3 + 1 := ⟨n2 - 1, by omega⟩
            have HQT := Lib.hid (hQ'.out.tail (x := .int .u64 hd) (xs := nums t'))
            have HOKT : Hid (FarOk L M' t') := ⟨hOK'.out.vals, fun y hy => hOK'.out.row y (List.mem_cons_of_mem _ hy), hOK'.out.nodup⟩
            have HLT : Hid (t'.length = n3) := by have := hl'.out; show _ = _; simp at this; exact this
            have HKT : Hid (farLeft L M' t' ≤ f) := by have := hK'.out; show _ ≤ _; unfold farLeft at *; simp at this; omega
            have HRT : Hid (RES = farRun L f M' t') := hRun'
            clear hfo hRun' htk
            by_cases hc1 : cap' = 1
            · rw [if_pos hc1] at HQT
              obtain rfl : n3 = 0 := by omega
              subst hc1
              go_wp2
              go_roundg f
              case rel => exact ⟨g', off', 0, 0, t', M', rfl, by omega, HLT, HQT, hM', HOKT, HKT, HRT, hB'⟩
              case measure => omega
            · rw [if_neg hc1] at HQT
              go_wp2
              go_roundg f
              case rel => exact ⟨g', off' + 1, n3, cap' - 1, t', M', rfl, by omega, HLT, HQT, hM', HOKT, HKT, HRT, hB'⟩
              case measure => omega
end Go.Proofs.Ytehneliphhgegaa.N
end
section
set_option linter.unusedVariables false
set_option linter.unusedSimpArgs false
set_option maxRecDepth 100000
namespace Go.Proofs.Ytehneliphhgegaa.N
open Go.RowKit Go.Apo Go.Shelf
attribute [local go_sem] Oper.semAt_some
theorem Far_calls (w : World) (gq : Option Addr) (L : List (Int × CommitD)) (h : GP w gq L) (hC : Closed L) (hL : L.length ≤ 100000) (old late : Int) :
    Calls Try.prog 27 #[.pointer gq, .int .u64 old, .int .u64 late] w fun e w' => e = .returned (.tuple #[.int .i64 ((codeFar L old late).getD 0), .bool (codeFar L old late).isSome]) ∧ Below w.heap.size w w' := by
  have HF := Lib.hid (far_calls w gq L h hC hL late)
  clear h
  unfold codeFar
  cases hq : mget (farM L late) old with
  | none =>
    have HQ := Lib.hid hq; clear hq
    go_enter Try.func27, Try.ntmps27
    go_wp2_with (first | (go_at_call 77; refine HF.out.mono ?_; rintro e w1 ⟨m, rfl, hm1, hb1, hle1⟩; have HM := Lib.hid hm1; clear hm1) | (at_lookup; refine wpl_look_none rfl true _ _ 102 3 rfl keyU Try.underlying102 _ (fun W => zeroInt W) rfl old rfl HM.out HQ.out ?_))
    go_ret2
    exact ⟨rfl, hb1⟩
  | some d =>
    have HQ := Lib.hid hq; clear hq
    go_enter Try.func27, Try.ntmps27
    go_wp2_with (first | (go_at_call 77; refine HF.out.mono ?_; rintro e w1 ⟨m, rfl, hm1, hb1, hle1⟩; have HM := Lib.hid hm1; clear hm1) | (at_lookup; refine wpl_look_some rfl true _ _ 102 3 rfl keyU Try.underlying102 rfl old rfl HM.out HQ.out ?_; intro u hu; unfold intIs at hu; subst hu))
    go_ret2
    exact ⟨rfl, hb1⟩
set_option maxHeartbeats 4000000 in
theorem path_calls (w : World) (gq : Option Addr) (L : List (Int × CommitD)) (h : GP w gq L) (hC : Closed L) (hL : L.length ≤ 100000) (old late : Int) :
    Calls Try.prog 30 #[.pointer gq, .int .u64 old, .int .u64 late] w (NumsPost w (codePath L old late)) := by
  obtain ⟨RES, hRES⟩ : ∃ RES, RES = codePath L old late := ⟨_, rfl⟩
  rw [← hRES]
  have HG := Lib.hid (fun W (hW : GP W gq L) i => gp_get gq W L hW i)
  have HFA := Lib.hid (fun W (hW : GP W gq L) l => Far_calls W gq L hW hC hL old l)
  have hbd := fun d h => codeFar_bound hC (old := old) (late := late) (d := d) h
  have HC := Lib.hid hC; clear hC
  have HF0 := Lib.hid (HFA.out w h late)
  have H := Lib.hid h; clear h
  unfold codePath at hRES
  cases hq : codeFar L old late with
  | none =>
    rw [hq] at hRES HF0
    simp only at hRES
    subst hRES
    clear hq hbd
    go_enter Try.func30, Try.ntmps30
    go_wp2_with (go_at_call 27; refine HF0.out.mono ?_; rintro e w1 ⟨rfl, hb1⟩)
    go_ret
    exact ⟨none, 0, rfl, Flat.nil _ _, hb1⟩
  | some d =>
    have hd := hbd d hq
    rw [hq] at hRES HF0
    simp only at hRES
    clear hq hbd
    obtain ⟨kk, rfl⟩ : ∃ kk : Nat, d = kk := ⟨d.toNat, by omega⟩
    have hkk : kk ≤ 100000 := by omega
    clear hd
    rw [Int.toNat_natCast] at hRES
    have HR := Lib.hid hRES; clear hRES
    go_enter Try.func30, Try.ntmps30
    go_wp2_with (go_at_call 27; refine HF0.out.mono ?_; rintro e w1 ⟨rfl, hb1⟩)
    have hown := Lib.hid (World.ownsRow_lit (base := w.heap.size) (e := 24) (size := 1) w1 #[.int .u64 late] 1 hb1.size (by unfold maxLen; omega) rfl)
    have hB1 : Below w.heap.size w (w1.alloc (.cells #[.int .u64 late] 24)) := by (repeat (first | (with_reducible exact Below.refl _ _) | (with_reducible assumption) | (with_reducible refine bel_al0 ?_ _) | (with_reducible refine bel_set ?_ (by first | (simp; done) | (simp; omega)) _) | (with_reducible refine bel_dr ?_) | (with_reducible refine bel_drn ?_ _) | (with_reducible refine bel_tr ?_ (by assumption))))
    obtain ⟨w2, hw2⟩ : ∃ w2, w2 = w1.alloc (.cells #[.int .u64 late] 24) := ⟨_, rfl⟩
    rw [← hw2] at hown hB1 ⊢
    clear hw2 hb1
    go_loopw [7, 9, 10, 11, 13, 14, 15] (fun v7 v9 _ _ _ _ _ wr => ∃ (k n c : Nat) (A : Option Addr) (out : List Int), v7 = .int .i64 k ∧ v9 = .slice A (n + 1) c ∧ Hid (out.length = n + 1) ∧ n + k ≤ 100000 ∧ Hid (wr.ownsRow w.heap.size 24 1 (.slice A (n + 1) c) (n + 1) (nums out)) ∧ Hid (RES = pathRun L old k out) ∧ Below w.heap.size w wr) (fun v _ _ _ _ _ _ _ => (intOf v).toNat)
    case atStart => exact ⟨kk, 0, 1, some ⟨w1.heap.size, 0, none⟩, [late], rfl, rfl, rfl, by omega, hown, HR, hB1⟩
    case round =>
      obtain ⟨k, n, c, A, out, rfl, rfl, hol, hnk, how, hR, hB⟩ := hrel
      cases k with
      | zero =>
        have hr := hR.out
        simp only [pathRun] at hr
        subst hr
        have hfl := own_flat how.out
        have HL := Lib.hid hol.out
        have HW := Lib.hid hfl; clear hfl
        go_wp2
        go_ret
        exact ⟨A, c, by rw [HL.out]; rfl, HW.out, hB⟩
      | succ k =>
        obtain ⟨x, hx, hlast⟩ := getLastD_at hol.out
        have hr := hR.out
        simp only [pathRun, hlast] at hr
        have HR2 := Lib.hid hr; clear hr hR
        obtain ⟨b, off, rfl, cx⟩ := (own_flat how.out).at_ (nums_at hx)
        obtain rfl : off = 0 := by
          rcases how.out.2 with ⟨h1, _⟩ | ⟨g, cap, cur, h1, _⟩
          · cases h1
          · simp only [Value.slice.injEq, Option.some.injEq, Addr.mk.injEq] at h1; exact h1.1.2.1
        rw [Nat.zero_add] at cx
        have hbase := own_block how.out
        have HX := Lib.hid hx; clear hx hlast
        have HG2 := Lib.hid (HG.out _ (H.out.below hB) x)
        obtain ⟨ps, hps⟩ : ∃ ps, ps = (gGet L x).par := ⟨_, rfl⟩
        have hps2 : ps.length ≤ 2 := by
          rw [hps]; unfold gGet
          cases hq : mget L x with
          | none => simp [CommitD.zero]
          | some c => exact (HC.out x c hq).1
        unfold GetOwn at HG2
        rw [← hps] at HG2 HR2
        clear hps
        obtain ⟨np, hnp⟩ : ∃ np, np = ps.length := ⟨_, rfl⟩
        rw [← hnp] at HG2 hps2
        have HNP := Lib.hid hnp; clear hnp
        have hcn : n + 1 ≤ c := by obtain ⟨_, c', e, hle⟩ := own_form how.out; cases e; exact hle
        go_wp2_with (go_at_call 44; refine HG2.out.mono ?_; rintro e w5 ⟨A1, k1, rfl, ho1, hb1⟩)
        have hb6 : Below wr.heap.size wr (w5.alloc (.cells #[.int .u64 (gGet L x).id, .slice A1 np k1, .int .u64 (gGet L x).gen, .int .u64 (gGet L x).root, .string (gGet L x).text] 69)) := by (repeat (first | (with_reducible exact Below.refl _ _) | (with_reducible assumption) | (with_reducible refine bel_al0 ?_ _) | (with_reducible refine bel_set ?_ (by first | (simp; done) | (simp; omega)) _) | (with_reducible refine bel_dr ?_) | (with_reducible refine bel_drn ?_ _) | (with_reducible refine bel_tr ?_ (by assumption))))
        have hF6 := Lib.hid ((own_flat ho1).below (bel_al0 (Below.refl _ w5) (.cells #[.int .u64 (gGet L x).id, .slice A1 np k1, .int .u64 (gGet L x).gen, .int .u64 (gGet L x).root, .string (gGet L x).text] 69)))
        clear ho1 hb1
        have how6 := Lib.hid (own_below how.out hb6)
        have hBB : Below w.heap.size w (w5.alloc (.cells #[.int .u64 (gGet L x).id, .slice A1 np k1, .int .u64 (gGet L x).gen, .int .u64 (gGet L x).root, .string (gGet L x).text] 69)) := bel_tr hB hb6
        obtain ⟨w6, hw6⟩ : ∃ w6, w6 = w5.alloc (.cells #[.int .u64 (gGet L x).id, .slice A1 np k1, .int .u64 (gGet L x).gen, .int .u64 (gGet L x).root, .string (gGet L x).text] 69) := ⟨_, rfl⟩
        rw [← hw6] at hF6 how6 hBB ⊢
        clear hw6 hb6 HG2
        go_loopw [45, 9, 13, 14, 15] (fun v v9 _ _ _ wq => ∃ i : Nat, i ≤ np ∧ v = .int .i64 i ∧ v9 = .slice (some ⟨b, 0, none⟩) (n + 1) c ∧ Hid (∀ j q, j < i → ps[j]? = some q → (codeFar L old q == some (k : Int)) = false) ∧ Below w6.heap.size w6 wq) (fun v _ _ _ _ _ => np - (intOf v).toNat)
        case atStart => exact ⟨0, Nat.zero_le _, rfl, rfl, fun j _ hj => absurd hj (Nat.not_lt_zero _), by (repeat (first | (with_reducible exact Below.refl _ _) | (with_reducible assumption) | (with_reducible refine bel_al0 ?_ _) | (with_reducible refine bel_set ?_ (by first | (simp; done) | (simp; omega)) _) | (with_reducible refine bel_dr ?_) | (with_reducible refine bel_drn ?_ _) | (with_reducible refine bel_tr ?_ (by assumption))))⟩
        case round =>
          obtain ⟨i, hi, rfl, rfl, hno, hBq⟩ := hrel
          have hB' : Below w.heap.size w wr := bel_tr hBB hBq
          by_cases hlt : i < np
          · obtain ⟨q, hq⟩ : ∃ q, ps[i]? = some q := ⟨_, List.getElem?_eq_getElem (by rw [← HNP.out]; exact hlt)⟩
            obtain ⟨b1, ob, rfl, cj⟩ := hF6.out.at_ (nums_at hq)
            replace cj := cell_bel cj hBq
            have HFQ := Lib.hid (HFA.out _ (H.out.below hB') q)
            have HQ := Lib.hid hq; clear hq
            have step : (codeFar L old q == some (k : Int)) = false → Hid (∀ j q, j < i + 1 → ps[j]? = some q → (codeFar L old q == some (k : Int)) = false) := by
              intro hf
              show ∀ j q, j < i + 1 → ps[j]? = some q → (codeFar L old q == some (k : Int)) = false
              intro j q' hj hj2
              rcases Nat.lt_or_ge j i with h' | h'
              · exact hno.out j q' h' hj2
              · obtain rfl : j = i := by omega
                rw [HQ.out] at hj2; cases hj2; exact hf
            have fin : (codeFar L old q == some (k : Int)) = true → RES = pathRun L old k (out ++ [q]) := by
              intro hf
              have := HR2.out
              rw [find_first (t := fun p => codeFar L old p == some (k : Int)) hno.out HQ.out hf] at this
              exact this
            cases hfq : codeFar L old q with
            | none =>
              rw [hfq] at HFQ
              have hst := step (by rw [hfq]; rfl)
              clear step fin hfq
              go_wp2_with (go_at_call 27; refine HFQ.out.mono ?_; rintro e w7 ⟨rfl, hb7⟩)
              go_roundw
              case rel => exact ⟨i + 1, by omega, by go_num, rfl, hst, by (repeat (first | (with_reducible exact Below.refl _ _) | (with_reducible assumption) | (with_reducible refine bel_al0 ?_ _) | (with_reducible refine bel_set ?_ (by first | (simp; done) | (simp; omega)) _) | (with_reducible refine bel_dr ?_) | (with_reducible refine bel_drn ?_ _) | (with_reducible refine bel_tr ?_ (by assumption))))⟩
              case measure => simp [intOf]; omega
            | some d =>
              rw [hfq] at HFQ
              by_cases hdk : d = k
              · subst hdk
                have hfin := Lib.hid (fin (by rw [hfq]; simp))
                clear step fin hfq
                go_wp2_with (first | (go_at_call 27; refine HFQ.out.mono ?_; rintro e w7 ⟨rfl, hb7⟩; have how7 := Lib.hid (own_below (own_below how6.out hBq) hb7); have hB7 := bel_tr hB' hb7) | (at_builtin; refine wpl_append rfl _ _ 50 rfl w.heap.size 24 _ 1 8 Try.underlying50 infoU64 rfl (by decide) _ (n + 1) (nums out) rfl (own_below how7.out (bel_al0 (Below.refl _ _) _)) (some ⟨w7.heap.size, 0, none⟩) 1 1 [.int .u64 q] rfl rfl (fun _ => ⟨w7.heap.size, 0, rfl, fun j u hj => by cases j with | zero => simp only [List.getElem?_cons_zero, Option.some.injEq] at hj; subst hj; exact cell_at_new w7 _ _ 0 rfl | succ j => simp at hj⟩) (by intro u hu; rw [List.mem_singleton] at hu; subst hu; rfl) (by unfold maxLen; omega) (by omega) (by have := hB7.size; simp; omega) ?_; intro v' w8 ho8 hg8 hat8))
                obtain ⟨A8, c8, rfl, hc8⟩ := own_form ho8
                have hB8 : Below w.heap.size w w8 := (bel_al0 hB7 (.cells #[.int .u64 q] 24)).grown hg8 (by have := hB7.size; simp; omega) (fun kk' hk' => (how7.out.lt kk' hk').1)
                have ho9 : Hid (w8.ownsRow w.heap.size 24 1 (.slice A8 (n + 1 + 1) c8) (n + 1 + 1) (nums (out ++ [q]))) := by
                  show w8.ownsRow _ _ _ _ _ _
                  rw [nums_app]; exact ho8
                have hol9 : Hid ((out ++ [q]).length = n + 1 + 1) := by show _ = _; rw [List.length_append, hol.out]; rfl
                clear ho8 hg8 hat8
                go_roundw
                case rel => exact ⟨k, n + 1, c8, A8, out ++ [q], rfl, rfl, hol9, by omega, ho9, hfin, hB8⟩
                case measure => simp [intOf]
              · have hst := step (by rw [hfq]; simpa using hdk)
                have hdk' : (d == (k : Int)) = false := by simpa using hdk
                clear step fin hfq hdk
                go_wp2_with (go_at_call 27; refine HFQ.out.mono ?_; rintro e w7 ⟨rfl, hb7⟩)
                go_roundw
                case rel => exact ⟨i + 1, by omega, by go_num, rfl, hst, by (repeat (first | (with_reducible exact Below.refl _ _) | (with_reducible assumption) | (with_reducible refine bel_al0 ?_ _) | (with_reducible refine bel_set ?_ (by first | (simp; done) | (simp; omega)) _) | (with_reducible refine bel_dr ?_) | (with_reducible refine bel_drn ?_ _) | (with_reducible refine bel_tr ?_ (by assumption))))⟩
                case measure => simp [intOf]; omega
          · have hin : i = np := by omega
            have hr := HR2.out
            rw [find_nothing (t := fun p => codeFar L old p == some (k : Int)) (fun j p' hj => hno.out j p' (by have := HNP.out; omega))] at hr
            have HR3 := Lib.hid hr; clear hr
            have how7 := Lib.hid (own_below how6.out hBq)
            go_wp2
            go_roundw
            case rel => exact ⟨k, n, c, some ⟨b, 0, none⟩, out, rfl, rfl, hol, by omega, how7, HR3, hB'⟩
            case measure => simp [intOf]
end Go.Proofs.Ytehneliphhgegaa.N
end
section
set_option linter.unusedVariables false
set_option linter.unusedSimpArgs false
set_option maxRecDepth 100000
namespace Go.Proofs.Ytehneliphhgegaa.N
open Go.RowKit Go.Apo Go.Shelf
attribute [local go_sem] Oper.semAt_some
set_option maxHeartbeats 4000000 in
theorem appendSeq_calls (w : World) (Bg : Nat) (gq : Option Addr) (L : List (Int × CommitD)) (hc : w.cell? ⟨Bg, 0, none⟩ = some (.pointer gq)) (h : GP w gq L) (hL : L.length ≤ 1000000) (hw : numsIn (mkeys L)) :
    Calls Try.prog 114 #[.slice none 0 0, .func (.func 110) #[] #[.pointer (some ⟨Bg, 0, none⟩)]] w (NumsOwn w (sortI (mkeys L))) := by
  refine (callsIn_wide (n := 4)).1 ?_
  obtain ⟨i0, hi, hz0, hz1, hz2⟩ := info_parts infoU64
  refine callsIn_of_wp_marks Try.func114 rfl trivial ?_ rfl
  simp only [Try.ntmps114, List.size_toArray, List.length_cons, List.length_nil, Nat.reduceAdd, Nat.reduceSub, Array.replicate_succ, Array.replicate_zero, List.push_toArray, List.append_toArray, List.nil_append, List.cons_append]
  gi_wp2
  have bO := Boxed.new w 50 (.slice none 0 0)
  have hB0 : Below w.heap.size w (w.alloc (.cells #[.slice none 0 0] 50)) := by (repeat (first | (with_reducible exact Below.refl _ _) | (with_reducible assumption) | (with_reducible refine bel_al0 ?_ _) | (with_reducible refine bel_set ?_ (by first | (simp; done) | (simp; omega)) _) | (with_reducible refine bel_dr ?_) | (with_reducible refine bel_drn ?_ _) | (with_reducible refine bel_tr ?_ (by assumption))))
  refine wpIn_rangeFunc_fresh rfl (by omega) (gf := 110) (lb := #[.pointer (some ⟨Bg, 0, none⟩)]) rfl trivial (enters_of Try.func110 (by kernel_rfl) rfl)
    (ids1_fresh 3 (by omega) _ Bg gq L (cell_bel hc hB0) (h.below hB0) hL hw) (Below.refl _ _) (fun _ => rfl)
    (fun G pre W => (∃ v, Boxed W w.heap.size 50 v ∧ W.ownsRow G 24 1 v pre.length (nums pre) ∧ w.heap.size ≤ G) ∧ Below w.heap.size w W)
    (fun _ _ _ _ => False)
    (fun G => OwnFrom.and (Own.from (holdsRow_own G w.heap.size 50 24 1 (fun pre : List Int => pre.length) (fun pre => nums pre) (fun _ _ => w.heap.size ≤ G)) _) (ownFrom_below (Nat.le_refl _) (by simp)))
    (fun _ _ _ _ _ _ hs _ _ => hs)
    (fun G hG => ⟨⟨_, bO, World.ownsRow_nil _ _ _ _, by simp at hG; omega⟩, hB0⟩)
    (fun x => { tmps := #[.slice none 0 0, .func (.func 110) #[] #[.pointer (some ⟨Bg, 0, none⟩)], .pointer (some ⟨w.heap.size, 0, none⟩), undef, .slice none 0 0, .int .u64 x, .func (.func 110) #[] #[.pointer (some ⟨Bg, 0, none⟩)], .int .u64 x, undef, undef, undef, undef, undef], defers := [] }) ?assign ?body ?done ?stop
  case assign =>
    intro l x W K hK
    gi_wp2
    exact hK
  case body =>
    rintro G l pre x W hG hGW ⟨⟨v, hv, hrow, hnG⟩, hB⟩ hlt
    have hc := hv.cell
    have hsz := hB.size
    simp at hG
    gi_wp2_with (gi_at_builtin; refine wpListIn_append_own _ rfl _ _ 50 rfl G 24 i0 (.int .u64 0) 1 8 Try.underlying50 hi hz0 hz1 hz2 rfl (by decide) _ _ _ rfl (hrow.alloc _) ⟨W.heap.size, 0, none⟩ 1 1 [.int .u64 x] rfl rfl (cell_one_new _ _ _) (by simp [Value.oneCell']) (by unfold maxLen; omega) (by omega) (by simp; omega) ?_; intro v' w1 hown' hgrow _; obtain ⟨g', cap', rfl⟩ := ownsRow_succ hown'; obtain ⟨hv1, hv2, hr2, hk2, hb2, hs2⟩ := boxed_step (C := w.heap.size + 3) hv (by decide) hrow hsz (by omega) (Nat.le_refl _) (by omega) hGW hown' hgrow; have hc1 := hv1.cell; have hf1 := hv1.frozen)
    exact ⟨hk2.from _, by simpa using hs2, ⟨_, hv2, hr2, hnG⟩, hB.trans hb2⟩
  case done =>
    rintro D G ys W hD rfl ⟨⟨v, hv, hrow, hnG⟩, hB⟩ hK
    have hc := hv.cell
    gi_wp2
    refine ⟨by simp, .inl ⟨_, _, rfl, run_takeDeferred hK, ?_⟩⟩
    refine ⟨_, results_tmp rfl _ _ _, v, rfl, ownsRow_putObj (own_mono hrow hnG) _ hK rfl, hB.trans (belowK_b (w := w) (Nat.le_refl _) W D _ _ (by simp at hD; omega) hK rfl rfl)⟩
  case stop =>
    rintro D G c pre W _ _ h _
    exact h.elim
theorem collect_calls (w : World) (Bg : Nat) (gq : Option Addr) (L : List (Int × CommitD)) (hc : w.cell? ⟨Bg, 0, none⟩ = some (.pointer gq)) (h : GP w gq L) (hL : L.length ≤ 1000000) (hw : numsIn (mkeys L)) :
    Calls Try.prog 88 #[.func (.func 110) #[] #[.pointer (some ⟨Bg, 0, none⟩)]] w (NumsOwn w (sortI (mkeys L))) := by
  have HA := Lib.hid (appendSeq_calls w Bg gq L hc h hL hw)
  clear hc h
  go_enter Try.func88, Try.ntmps88
  go_wp2_with (go_at_call 114; refine HA.out.mono ?_; rintro e w1 ⟨v, rfl, ho, hb⟩)
  go_ret
  exact ⟨v, rfl, ho, hb⟩
end Go.Proofs.Ytehneliphhgegaa.N
end
section
set_option linter.unusedVariables false
set_option linter.unusedSimpArgs false
set_option maxRecDepth 100000
namespace Go.Proofs.Ytehneliphhgegaa.N
open Go.RowKit Go.Apo Go.Shelf
attribute [local go_sem] Oper.semAt_some
set_option maxHeartbeats 8000000 in
theorem kids_calls (w : World) (gq : Option Addr) (L : List (Int × CommitD)) (h : GP w gq L) (hO : LOk L) (hL : L.length ≤ 100000) (hw : numsIn (mkeys L)) (x : Int) :
    Calls Try.prog 52 #[.pointer gq, .int .u64 x] w (NumsOwn w (kidsL L x)) := by
  refine (callsIn_wide (n := 4)).1 ?_
  obtain ⟨i0, hi, hz0, hz1, hz2⟩ := info_parts infoU64
  have f1 : Fence.wide.fn 84 := trivial
  have HP := Lib.hid (fun k => (show (gGet L k).par.length ≤ 2 by
    unfold gGet
    cases hq : mget L k with
    | none => simp [CommitD.zero]
    | some c => exact hO.two k c hq))
  refine callsIn_of_wp_marks Try.func52 rfl trivial ?_ rfl
  simp only [Try.ntmps52, List.size_toArray, List.length_cons, List.length_nil, Nat.reduceAdd, Nat.reduceSub, Array.replicate_succ, Array.replicate_zero, List.push_toArray, List.append_toArray, List.nil_append, List.cons_append]
  gi_wp2_with (gi_at_call 84; refine (callsIn_wide.2 (idsF_calls _ _)).mono ?_; rintro e w' ⟨rfl, rfl⟩)
  obtain ⟨z, hz⟩ : ∃ z, z = w.heap.size := ⟨_, rfl⟩
  obtain ⟨W4, hW4⟩ : ∃ W4, W4 = (((w.alloc (.cells #[.pointer gq] 42)).alloc (.cells #[.int .u64 x] 24)).alloc (.cells #[.slice none 0 0] 50)).alloc (.cells #[.pointer gq] 42) := ⟨_, rfl⟩
  have hz4 : W4.heap.size = z + 4 := by rw [hW4, hz]; simp
  have hBw : Below w.heap.size w W4 := by rw [hW4]; (repeat (first | (with_reducible exact Below.refl _ _) | (with_reducible assumption) | (with_reducible refine bel_al0 ?_ _) | (with_reducible refine bel_set ?_ (by first | (simp; done) | (simp; omega)) _) | (with_reducible refine bel_dr ?_) | (with_reducible refine bel_drn ?_ _) | (with_reducible refine bel_tr ?_ (by assumption))))
  have c0 : W4.cell? ⟨z, 0, none⟩ = some (.pointer gq) := by
    rw [hW4, hz]; exact cell_al (cell_al (cell_al (cell_at_new w _ _ 0 rfl) _) _) _
  have c1 : W4.cell? ⟨z + 1, 0, none⟩ = some (.int .u64 x) := by
    rw [hW4, hz]
    have := cell_at_new (w.alloc (.cells #[.pointer gq] 42)) #[.int .u64 x] 24 0 (v := .int .u64 x) rfl
    rw [World.size_alloc] at this
    exact cell_al (cell_al this _) _
  have bO : Boxed W4 (z + 1 + 1) 50 (.slice none 0 0) := by
    have := Boxed.new ((w.alloc (.cells #[.pointer gq] 42)).alloc (.cells #[.int .u64 x] 24)) 50 (.slice none 0 0)
    rw [World.size_alloc, World.size_alloc] at this
    rw [hW4, hz]; exact this.alloc _
  have c3 : W4.cell? ⟨z + 1 + 1 + 1, 0, none⟩ = some (.pointer gq) := by
    rw [hW4, hz]
    have := cell_at_new (((w.alloc (.cells #[.pointer gq] 42)).alloc (.cells #[.int .u64 x] 24)).alloc (.cells #[.slice none 0 0] 50)) #[.pointer gq] 42 0 (v := .pointer gq) rfl
    rw [World.size_alloc, World.size_alloc, World.size_alloc] at this
    exact this
  rw [← hW4, ← hz]
  clear hW4
  have hG4 := h.below hBw
  have hBZ : Below (z + 2) W4 W4 := Below.refl _ _
  have HG4 := Lib.hid (fun W (hW : Below (z + 2) W4 W) => h.below (hBw.trans (hW.mono (by omega))))
  have HZ := Lib.hid hz
  clear h hz
  refine wpIn_rangeFunc_fresh rfl (by omega) (gf := 110) (lb := #[.pointer (some ⟨z + 1 + 1 + 1, 0, none⟩)]) rfl trivial (enters_of Try.func110 (by kernel_rfl) rfl)
    (ids1_fresh 3 (by omega) W4 (z + 1 + 1 + 1) gq L c3 hG4 (by omega) hw) (Below.refl _ _) (fun _ => rfl)
    (fun G pre W => (∃ v, Boxed W (z + 1 + 1) 50 v ∧ W.ownsRow G 24 1 v (kidsIn L x pre).length (nums (kidsIn L x pre)) ∧ z + 2 ≤ G) ∧ Below (z + 2) W4 W)
    (fun _ _ _ _ => False)
    (fun G => OwnFrom.and (Own.from (holdsRow_own G (z + 1 + 1) 50 24 1 (fun pre : List Int => (kidsIn L x pre).length) (fun pre => nums (kidsIn L x pre)) (fun _ _ => z + 2 ≤ G)) _) (ownFrom_below (by omega) (by omega)))
    (fun _ _ _ _ _ _ hs _ _ => hs)
    (fun G hG => ⟨⟨_, bO, World.ownsRow_nil _ _ _ _, by omega⟩, hBZ⟩)
    (fun k => { tmps := #[.pointer gq, .int .u64 x, .pointer (some ⟨z, 0, none⟩), .pointer (some ⟨z + 1, 0, none⟩), .slice none 0 0, .pointer (some ⟨z + 1 + 1, 0, none⟩), .int .u64 k, undef, undef, .pointer gq, .func (.func 110) #[] #[.pointer (some ⟨z + 1 + 1 + 1, 0, none⟩)], .int .u64 k, undef, undef, undef, undef, undef, undef, undef, undef, undef, undef, undef, undef, undef, undef, undef], defers := [] }) ?assign ?body ?done ?stop
  case assign =>
    intro l k W K hK
    gi_wp2
    exact hK
  case body =>
    rintro G l pre k W hG hGW ⟨⟨v, hv, hrow, hnG⟩, hB⟩ hlt
    have q0 := (hB.cell (p := ⟨z, 0, none⟩) (by show z < z + 2; omega)).trans c0
    have q1 := (hB.cell (p := ⟨z + 1, 0, none⟩) (by show z + 1 < z + 2; omega)).trans c1
    have hzW : z + 4 ≤ W.heap.size := by have := hB.size; omega
    have f2 : Fence.wide.fn 44 := trivial
    have f3 : Fence.wide.fn 86 := trivial
    have HGE := Lib.hid (gp_get gq W L (HG4.out W hB) k)
    have hp2 := HP.out k
    have HIN := Lib.hid (kidsIn_snoc L x pre k)
    have HLE := kidsIn_len L x pre
    obtain ⟨c, hc⟩ : ∃ c, c = gGet L k := ⟨_, rfl⟩
    unfold GetOwn at HGE
    rw [← hc] at HGE hp2 HIN
    clear hc
    obtain ⟨kk, hkk⟩ : ∃ kk, kk = kidsIn L x pre := ⟨_, rfl⟩
    rw [← hkk] at hrow HIN HLE
    clear hkk
    obtain ⟨np, hnp⟩ : ∃ np, np = c.par.length := ⟨_, rfl⟩
    rw [← hnp] at HGE hp2
    have HNP := Lib.hid hnp.symm; clear hnp
    obtain ⟨y, hy⟩ : ∃ y, y = hasB c.par x := ⟨_, rfl⟩
    rw [← hy] at HIN
    have HY := Lib.hid hy; clear hy
    have HV := Lib.hid hv; clear hv
    have HROW := Lib.hid hrow; clear hrow
    cases y with
    | false =>
      gi_wp2_with (first | (gi_at_call 44; refine ((callsIn_wide.2 HGE.out).inRound l).mono ?_; rintro e w5 ⟨A5, k5, rfl, ho5, hb5⟩; have hf5 := Lib.hid (own_flat ho5); clear ho5; replace q1 := cell_bel q1 hb5; have hz5 := hb5.size; have hz6 : z + 1 < w5.heap.size := (by omega)) | (gi_at_call 86; refine ((callsIn_wide.2 (contains_calls _ A5 np k5 c.par HNP.out (hf5.out.below (by (repeat (first | (with_reducible exact Below.refl _ _) | (with_reducible assumption) | (with_reducible refine bel_al0 ?_ _) | (with_reducible refine bel_set ?_ (by first | (simp; done) | (simp; omega)) _) | (with_reducible refine bel_dr ?_) | (with_reducible refine bel_drn ?_ _) | (with_reducible refine bel_tr ?_ (by assumption)))))) (by omega) x)).inRound l).mono ?_; rw [← HY.out]; rintro e w7 ⟨rfl, hb7⟩; have hbW : Below W.heap.size W w7 := (by (repeat (first | (with_reducible exact Below.refl _ _) | (with_reducible assumption) | (with_reducible refine bel_al0 ?_ _) | (with_reducible refine bel_set ?_ (by first | (simp; done) | (simp; omega)) _) | (with_reducible refine bel_dr ?_) | (with_reducible refine bel_drn ?_ _) | (with_reducible refine bel_tr ?_ (by assumption)))))))
      have hin := HIN.out
      simp only [Bool.false_eq_true, if_false] at hin
      refine ⟨(keepsO_below hbW).from _, keepsS_below hbW hGW, ⟨v, boxed_bel HV.out hbW, ?_, hnG⟩, hB.trans (hbW.mono (by omega))⟩
      rw [hin]
      exact own_below HROW.out hbW
    | true =>
      have hLk : kk.length ≤ 100000 := by omega
      gi_wp2_with (first | (gi_at_call 44; refine ((callsIn_wide.2 HGE.out).inRound l).mono ?_; rintro e w5 ⟨A5, k5, rfl, ho5, hb5⟩; have hf5 := Lib.hid (own_flat ho5); clear ho5; replace q1 := cell_bel q1 hb5; have hz5 := hb5.size; have hz6 : z + 1 < w5.heap.size := (by omega)) | (gi_at_call 86; refine ((callsIn_wide.2 (contains_calls _ A5 np k5 c.par HNP.out (hf5.out.below (by (repeat (first | (with_reducible exact Below.refl _ _) | (with_reducible assumption) | (with_reducible refine bel_al0 ?_ _) | (with_reducible refine bel_set ?_ (by first | (simp; done) | (simp; omega)) _) | (with_reducible refine bel_dr ?_) | (with_reducible refine bel_drn ?_ _) | (with_reducible refine bel_tr ?_ (by assumption)))))) (by omega) x)).inRound l).mono ?_; rw [← HY.out]; rintro e w7 ⟨rfl, hb7⟩; have hbW : Below W.heap.size W w7 := (by (repeat (first | (with_reducible exact Below.refl _ _) | (with_reducible assumption) | (with_reducible refine bel_al0 ?_ _) | (with_reducible refine bel_set ?_ (by first | (simp; done) | (simp; omega)) _) | (with_reducible refine bel_dr ?_) | (with_reducible refine bel_drn ?_ _) | (with_reducible refine bel_tr ?_ (by assumption))))); have hv := boxed_bel HV.out hbW; have hrow := own_below HROW.out hbW; have hsz := hbW.size; have hc7 := hv.cell) | (gi_at_builtin; refine wpListIn_append_own _ rfl _ _ 50 rfl G 24 i0 (.int .u64 0) 1 8 Try.underlying50 hi hz0 hz1 hz2 rfl (by decide) _ _ _ rfl (hrow.alloc _) ⟨w7.heap.size, 0, none⟩ 1 1 [.int .u64 k] rfl rfl (cell_one_new _ _ _) (by simp [Value.oneCell']) (by unfold maxLen; omega) (by omega) (by simp; omega) ?_; intro v' w1 hown' hgrow _; obtain ⟨g', cap', rfl⟩ := ownsRow_succ hown'; obtain ⟨hv1, hv2, hr2, hk2, hb2, hs2⟩ := boxed_step (n₀ := z + 2) (C := z + 6) hv (by decide) hrow (by omega) hnG (by omega) (by omega) (by omega) hown' hgrow; have hc1 := hv1.cell; have hf1 := hv1.frozen))
      have hin := HIN.out
      simp only [if_true] at hin
      refine ⟨((keepsO_below hbW).trans hk2).from _, (keepsS_below hbW hGW).trans (by rw [hz4]; exact hs2), ⟨_, hv2, ?_, hnG⟩, (hB.trans (hbW.mono (by omega))).trans hb2⟩
      rw [hin]
      exact hr2
  case done =>
    rintro D G ys W hD rfl ⟨⟨v, hv, hrow, hnG⟩, hB⟩ hK
    have hc := hv.cell
    gi_wp2
    refine ⟨by simp, .inl ⟨_, _, rfl, run_takeDeferred hK, ?_⟩⟩
    refine ⟨_, results_tmp rfl _ _ _, v, rfl, ownsRow_putObj (own_mono hrow (by have := HZ.out; omega)) _ hK rfl, (hBw.trans (hB.mono (by have := HZ.out; omega))).trans (belowK_b (w := w) (Nat.le_refl _) W D _ _ (by have := HZ.out; omega) hK rfl rfl)⟩
  case stop =>
    rintro D G c pre W _ _ h _
    exact h.elim
end Go.Proofs.Ytehneliphhgegaa.N
end
section
set_option linter.unusedVariables false
set_option linter.unusedSimpArgs false
set_option maxRecDepth 100000
namespace Go.Proofs.Ytehneliphhgegaa.N
open Go.RowKit Go.Apo Go.Shelf
attribute [local go_sem] Oper.semAt_some
set_option maxHeartbeats 8000000 in
theorem heads_calls (w : World) (gq : Option Addr) (L : List (Int × CommitD)) (h : GP w gq L) (hO : LOk L) (hL : L.length ≤ 100000) (hw : numsIn (mkeys L)) :
    Calls Try.prog 53 #[.pointer gq] w (NumsOwn w ((sortI (mkeys L)).filter fun k => !(mget (metOf L (sortI (mkeys L))) k).isSome)) := by
  obtain ⟨KS, hKS⟩ : ∃ KS, KS = sortI (mkeys L) := ⟨_, rfl⟩
  rw [← hKS]
  have HKS := Lib.hid hKS; clear hKS
  refine (callsIn_wide (n := 4)).1 ?_
  have hmm := @run_makeMap Try.prog
  have f1 : Fence.wide.fn 84 := trivial
  have HP := Lib.hid (fun k => (show (gGet L k).par.length ≤ 2 by
    unfold gGet
    cases hq : mget L k with
    | none => simp [CommitD.zero]
    | some c => exact hO.two k c hq))
  refine callsIn_of_wp_marks Try.func53 rfl trivial ?_ rfl
  simp only [Try.ntmps53, List.size_toArray, List.length_cons, List.length_nil, Nat.reduceAdd, Nat.reduceSub, Array.replicate_succ, Array.replicate_zero, List.push_toArray, List.append_toArray, List.nil_append, List.cons_append]
  gi_wp2_with (gi_at_call 84; refine (callsIn_wide.2 (idsF_calls _ _)).mono ?_; rintro e w' ⟨rfl, rfl⟩)
  obtain ⟨z, hz⟩ : ∃ z, z = w.heap.size := ⟨_, rfl⟩
  obtain ⟨W4, hW4⟩ : ∃ W4, W4 = (((w.alloc (.cells #[.pointer gq] 42)).alloc (.map #[] 0)).alloc (.cells #[.map (some (w.heap.size + 1))] 117)).alloc (.cells #[.pointer gq] 42) := ⟨_, rfl⟩
  have hz4 : W4.heap.size = z + 4 := by rw [hW4, hz]; simp
  have hBw : Below w.heap.size w W4 := by rw [hW4]; (repeat (first | (with_reducible exact Below.refl _ _) | (with_reducible assumption) | (with_reducible refine bel_al0 ?_ _) | (with_reducible refine bel_set ?_ (by first | (simp; done) | (simp; omega)) _) | (with_reducible refine bel_dr ?_) | (with_reducible refine bel_drn ?_ _) | (with_reducible refine bel_tr ?_ (by assumption))))
  have c0 : W4.cell? ⟨z, 0, none⟩ = some (.pointer gq) := by
    rw [hW4, hz]; exact cell_al (cell_al (cell_al (cell_at_new w _ _ 0 rfl) _) _) _
  have bM : MapIs (Value.int .u64) boolIs W4 (z + 1) [] := by
    have := mapIs_made (Value.int .u64) boolIs (w.alloc (.cells #[.pointer gq] 42))
    rw [World.size_alloc] at this
    rw [hW4, hz]
    exact (this.below bools_onCells (bel_al0 (Below.refl _ _) _)).below bools_onCells (bel_al0 (Below.refl _ _) _)
  have c2 : W4.cell? ⟨z + 1 + 1, 0, none⟩ = some (.map (some (z + 1))) := by
    rw [hW4, hz]
    have := cell_at_new ((w.alloc (.cells #[.pointer gq] 42)).alloc (.map #[] 0)) #[.map (some (w.heap.size + 1))] 117 0 (v := .map (some (w.heap.size + 1))) rfl
    rw [World.size_alloc, World.size_alloc] at this
    exact cell_al this _
  have c3 : W4.cell? ⟨z + 1 + 1 + 1, 0, none⟩ = some (.pointer gq) := by
    rw [hW4, hz]
    have := cell_at_new (((w.alloc (.cells #[.pointer gq] 42)).alloc (.map #[] 0)).alloc (.cells #[.map (some (w.heap.size + 1))] 117)) #[.pointer gq] 42 0 (v := .pointer gq) rfl
    rw [World.size_alloc, World.size_alloc, World.size_alloc] at this
    exact this
  rw [← hW4, ← hz]
  clear hW4
  have hG4 := h.below hBw
  have HG4 := Lib.hid (fun W (hW : But (z + 1) W4 W) => h.below (But.below hBw (Nat.le_refl _) (by omega) hW))
  have HZ := Lib.hid hz
  have HBW := Lib.hid hBw
  clear h hz hBw hmm
  refine wpIn_rangeFunc_fresh rfl (by omega) (gf := 110) (lb := #[.pointer (some ⟨z + 1 + 1 + 1, 0, none⟩)]) rfl trivial (enters_of Try.func110 (by kernel_rfl) rfl)
    (ids1_fresh 3 (by omega) W4 (z + 1 + 1 + 1) gq L c3 hG4 (by omega) hw) (Below.refl _ _) (fun _ => rfl)
    (fun G pre W => MapIs (Value.int .u64) boolIs W (z + 1) (metOf L pre) ∧ But (z + 1) W4 W)
    (fun _ _ _ _ => False)
    (fun G => OwnFrom.and (ownFrom_map bools_onCells (by omega) (fun pre => metOf L pre)) (ownFrom_but (Nat.le_refl _)))
    (fun _ _ _ _ _ _ hs _ _ => hs)
    (fun G hG => ⟨bM, But.refl _ _⟩)
    (fun k => { tmps := #[.pointer gq, .pointer (some ⟨z, 0, none⟩), .slice none 0 0, .pointer (some ⟨z + 1 + 1, 0, none⟩), .int .u64 k, undef, undef, undef, undef, .map (some (z + 1)), .pointer gq, .func (.func 110) #[] #[.pointer (some ⟨z + 1 + 1 + 1, 0, none⟩)], .int .u64 k, undef, undef, undef, undef, undef, undef, undef, undef, undef, undef, undef, undef, undef, undef, undef, undef, undef, undef, undef, undef, undef], defers := [] }) ?assign ?body ?done ?stop
  case assign =>
    intro l k W K hK
    gi_wp2
    exact hK
  case body =>
    rintro G l pre k W hG hGW ⟨hM, hB⟩ hlt
    have q0 := (hB.cell (p := ⟨z, 0, none⟩) (by show z < _; omega) (by show z ≠ _; omega)).trans c0
    have q2 := (hB.cell (p := ⟨z + 1 + 1, 0, none⟩) (by show z + 1 + 1 < _; omega) (by show z + 1 + 1 ≠ _; omega)).trans c2
    have hzW : z + 4 ≤ W.heap.size := by have := hB.size; omega
    have f2 : Fence.wide.fn 44 := trivial
    have HGE := Lib.hid (gp_get gq W L (HG4.out W hB) k)
    have hp2 := HP.out k
    have HIN := Lib.hid (metOf_snoc L pre k)
    obtain ⟨c, hc⟩ : ∃ c, c = gGet L k := ⟨_, rfl⟩
    unfold GetOwn at HGE
    rw [← hc] at HGE hp2 HIN
    clear hc
    obtain ⟨S, hS⟩ : ∃ S, S = metOf L pre := ⟨_, rfl⟩
    rw [← hS] at HIN hM
    clear hS
    obtain ⟨np, hnp⟩ : ∃ np, np = c.par.length := ⟨_, rfl⟩
    rw [← hnp] at HGE hp2
    have HNP := Lib.hid hnp; clear hnp
    have HM := Lib.hid hM; clear hM
    gi_wp2_with fail
    refine ((callsIn_wide.2 HGE.out).inRound l).mono ?_
    rintro e w5 ⟨A5, k5, rfl, ho5, hb5⟩
    have hf5 := Lib.hid (own_flat ho5)
    have hA5 := Lib.hid (own_row_ge ho5)
    clear ho5
    have hz5 := hb5.size
    replace q2 := cell_bel q2 hb5
    have hbW := Lib.hid (bel_al0 hb5 (.cells #[.int .u64 c.id, .slice A5 np k5, .int .u64 c.gen, .int .u64 c.root, .string c.text] 69))
    have hM6 := Lib.hid (HM.out.below bools_onCells hbW.out)
    gi_wp2_with fail
    have B5 := blk_new w5 #[.int .u64 c.id, .slice A5 np k5, .int .u64 c.gen, .int .u64 c.root, .string c.text] 69
    obtain ⟨w6, hw6⟩ : ∃ w6, w6 = w5.alloc (.cells #[.int .u64 c.id, .slice A5 np k5, .int .u64 c.gen, .int .u64 c.root, .string c.text] 69) := ⟨_, rfl⟩
    have q6 : w6.cell? ⟨z + 1 + 1, 0, none⟩ = some (.map (some (z + 1))) := by rw [hw6]; exact cell_al q2 _
    have hF6 : Hid (Flat w6 A5 (nums c.par)) := by show Flat _ _ _; rw [hw6]; exact hf5.out.below (bel_al0 (Below.refl _ _) _)
    have hz6 : w6.heap.size = w5.heap.size + 1 := by rw [hw6]; simp
    rw [← hw6] at hbW hM6 ⊢
    clear hw6 B5
    gi_loopw [22] (fun v wr => ∃ j : Nat, j ≤ np ∧ v = .int .i64 j ∧ Hid (MapIs (Value.int .u64) boolIs wr (z + 1) (metIn S (c.par.take j))) ∧ Hid (But (z + 1) w6 wr)) (fun v _ => np - (intOf v).toNat)
    case atStart => exact ⟨0, Nat.zero_le _, rfl, hM6, But.refl _ _⟩
    case round =>
      obtain ⟨j, hj, rfl, hMj, hBj⟩ := hrel
      have r6 := (hBj.out.cell (p := ⟨z + 1 + 1, 0, none⟩) (by show z + 1 + 1 < _; omega) (by show z + 1 + 1 ≠ _; omega)).trans q6
      have hzr := hBj.out.size
      by_cases hlt : j < np
      · obtain ⟨pj, hpj⟩ : ∃ pj, c.par[j]? = some pj := ⟨_, List.getElem?_eq_getElem (by rw [← HNP.out]; exact hlt)⟩
        obtain ⟨bb, off, rfl, cj⟩ := hF6.out.at_ (nums_at hpj)
        have hbb := hA5.out bb rfl
        replace cj := (hBj.out.cell (p := ⟨bb, off + j, none⟩) (cell_lt cj) (by show bb ≠ _; omega)).trans cj
        have htk : c.par.take (j + 1) = c.par.take j ++ [pj] := by rw [List.take_add_one, hpj]; rfl
        have hnew : Hid (mput (metIn S (c.par.take j)) pj () = metIn S (c.par.take (j + 1))) := by show _ = _; rw [htk, metIn_snoc]
        have hbl := cell_lt cj
        clear hpj htk hbb
        obtain ⟨w7, hrun, hm7, hg7, hz7⟩ := hMj.out.store (t := 117) keyU bools_onCells Try.underlying117 pj (v := ()) (x := .bool true) rfl
        rw [hnew.out] at hm7
        have HM7 := Lib.hid hm7; clear hm7
        have HB7 := Lib.hid (But.of_grown hg7); clear hg7 hz7
        gi_wp2
        go_roundw
        case rel => exact ⟨j + 1, by omega, by go_num, HM7, hBj.out.trans HB7.out⟩
        case measure => simp [intOf]; omega
      · have hj' : j = np := by omega
        have htk : c.par.take j = c.par := by rw [List.take_of_length_le]; have := HNP.out; omega
        have hMM := hMj.out
        rw [htk, ← HIN.out] at hMM
        have HMM := Lib.hid hMM; clear hMM htk
        gi_wp2
        have hBW : But (z + 1) W wr := (But.of_below hbW.out).trans hBj.out
        refine ⟨⟨hBW.size, fun i o hB1 hi ho => ?_⟩, ⟨hBW.size, fun i h1 h2 => hBW.block i (by omega) (by omega)⟩, HMM.out, hB.trans hBW⟩
        have := (Array.getElem?_eq_some_iff.1 hi).1
        exact (hBW.block i this (by omega)).trans hi
  case done =>
    rintro D G ys W hD hys ⟨hM, hB⟩ hK
    rw [← HKS.out] at hys
    subst hys
    have q0 := (hB.cell (p := ⟨z, 0, none⟩) (by show z < _; omega) (by show z ≠ _; omega)).trans c0
    have q2 := (hB.cell (p := ⟨z + 1 + 1, 0, none⟩) (by show z + 1 + 1 < _; omega) (by show z + 1 + 1 ≠ _; omega)).trans c2
    have hzW : z + 4 ≤ W.heap.size := by have := hB.size; omega
    have f2 : Fence.wide.fn 88 := trivial
    have f3 : Fence.wide.fn 87 := trivial
    have HGW := Lib.hid (HG4.out W hB)
    have HM := Lib.hid hM; clear hM
    have HK := Lib.hid hK; clear hK
    have HCO := Lib.hid (fun W' (hW' : Below W.heap.size W W') Bg hc => collect_calls W' Bg gq L hc (HGW.out.below hW') (by omega) hw)
    have hnl : ys.length ≤ 100000 := by rw [HKS.out, sortI_len]; simpa [mkeys] using hL
    rw [← HKS.out] at HCO
    unfold NumsOwn at HCO
    gi_wp2_with (first | (gi_at_call 84; refine (callsIn_wide.2 (idsF_calls _ _)).mono ?_; rintro e w' ⟨rfl, rfl⟩) | (gi_at_call 88; refine (callsIn_wide.2 (HCO.out _ (by (repeat (first | (with_reducible exact Below.refl _ _) | (with_reducible assumption) | (with_reducible refine bel_al0 ?_ _) | (with_reducible refine bel_set ?_ (by first | (simp; done) | (simp; omega)) _) | (with_reducible refine bel_dr ?_) | (with_reducible refine bel_drn ?_ _) | (with_reducible refine bel_tr ?_ (by assumption))))) W.heap.size (cell_at_new W _ _ 0 rfl))).mono ?_; rintro e w5 ⟨v5, rfl, ho5, hb5⟩))
    obtain ⟨W1, hW1⟩ : ∃ W1, W1 = W.alloc (.cells #[.pointer gq] 42) := ⟨_, rfl⟩
    have hbW1 : Below W.heap.size W W1 := by rw [hW1]; exact bel_al0 (Below.refl _ _) _
    have hz1 : W1.heap.size = W.heap.size + 1 := by rw [hW1]; simp
    rw [← hW1] at ho5 hb5
    clear hW1
    have hPr : Pred W1 W1.heap.size 89 #[.pointer (some ⟨z + 1 + 1, 0, none⟩)] (fun x => (mget (metOf L ys) x).isSome) := fun W2 hW2 x =>
      heads1_calls W2 (z + 1 + 1) (z + 1) _ (cell_bel (cell_bel q2 hbW1) hW2) ((HM.out.below bools_onCells hbW1).below bools_onCells hW2) x
    refine (callsIn_wide.2 (delete_own W1 w5 W1.heap.size (Nat.le_refl _) hb5 hb5.size 89 #[.pointer (some ⟨z + 1 + 1, 0, none⟩)] (enters_of Try.func89 (by kernel_rfl) rfl) _ hPr v5 ys.length ys rfl ho5 hnl)).mono ?_
    rintro e w6 ⟨v6, rfl, ho6, hb6⟩
    gi_wp2
    have hbW6 : Below W.heap.size W w6 := hbW1.trans (hb6.mono (by omega))
    have hDlt : D < W.heap.size := (Array.getElem?_eq_some_iff.1 HK.out).1
    have hK6 : w6.heap[D]? = some (.deferred (some [])) := (hbW6.block D hDlt).trans HK.out
    have hwW : Below w.heap.size w W := But.below HBW.out (Nat.le_refl _) (by have := HZ.out; omega) hB
    have hww : w.heap.size ≤ W.heap.size := hwW.size
    refine ⟨by simp, .inl ⟨_, _, rfl, run_takeDeferred hK6, ?_⟩⟩
    refine ⟨_, results_tmp rfl _ _ _, v6, rfl, ownsRow_putObj (own_mono ho6 (by omega)) _ hK6 rfl, (hwW.trans (hbW6.mono hww)).trans (belowK_b (w := w) (Nat.le_refl _) w6 D _ _ (by have := HZ.out; omega) hK6 rfl rfl)⟩
  case stop =>
    rintro D G c pre W _ _ h _
    exact h.elim
end Go.Proofs.Ytehneliphhgegaa.N
end
section
set_option linter.unusedVariables false
set_option linter.unusedSimpArgs false
set_option maxRecDepth 100000
namespace Go.Proofs.Ytehneliphhgegaa.N
open Go.RowKit Go.Apo Go.Shelf
attribute [local go_sem] Oper.semAt_some
/-- the closure of Roots -/
theorem roots1_calls (w : World) (B : Nat) (gq : Option Addr) (L : List (Int × CommitD)) (hc : w.cell? ⟨B, 0, none⟩ = some (.pointer gq)) (h : GP w gq L) (hO : LOk L) (x : Int) :
    Calls Try.prog 90 #[.int .u64 x, .pointer (some ⟨B, 0, none⟩)] w fun e w' => e = .returned (.bool (!(gGet L x).par.isEmpty)) ∧ Below w.heap.size w w' := by
  have HGE := Lib.hid (gp_get gq w L h x)
  obtain ⟨c, hc'⟩ : ∃ c, c = gGet L x := ⟨_, rfl⟩
  unfold GetOwn at HGE
  rw [← hc'] at HGE ⊢
  clear hc' h hO
  obtain ⟨b, hb⟩ : ∃ b, b = !c.par.isEmpty := ⟨_, rfl⟩
  have hb2 : decide ((0 : Int) < (c.par.length : Int)) = b := by
    rw [hb]
    cases c.par <;> simp
  rw [← hb]
  obtain ⟨np, hnp⟩ : ∃ np, np = c.par.length := ⟨_, rfl⟩
  rw [← hnp] at HGE hb2
  have HB2 := Lib.hid hb2
  clear hb hnp hb2
  have hlt := cell_lt hc
  go_enter Try.func90, Try.ntmps90
  go_wp2_with (go_at_call 44; refine HGE.out.mono ?_; rintro e w5 ⟨A5, k5, rfl, ho5, hb5⟩; clear ho5)
  go_ret
  refine ⟨?_, by (repeat (first | (with_reducible exact Below.refl _ _) | (with_reducible assumption) | (with_reducible refine bel_al0 ?_ _) | (with_reducible refine bel_set ?_ (by first | (simp; done) | (simp; omega)) _) | (with_reducible refine bel_dr ?_) | (with_reducible refine bel_drn ?_ _) | (with_reducible refine bel_tr ?_ (by assumption))))⟩
  rw [← HB2.out]
  simp
theorem roots_calls (w : World) (gq : Option Addr) (L : List (Int × CommitD)) (h : GP w gq L) (hO : LOk L) (hL : L.length ≤ 100000) (hw : numsIn (mkeys L)) :
    Calls Try.prog 54 #[.pointer gq] w (NumsOwn w ((sortI (mkeys L)).filter fun k => (gGet L k).par.isEmpty)) := by
  have hnl : (sortI (mkeys L)).length ≤ 100000 := by rw [sortI_len]; simpa [mkeys] using hL
  obtain ⟨A1, hA1⟩ : ∃ A1, A1 = w.alloc (.cells #[.pointer gq] 42) := ⟨_, rfl⟩
  have hb1 : Below w.heap.size w (w.alloc (.cells #[.pointer gq] 42)) := by (repeat (first | (with_reducible exact Below.refl _ _) | (with_reducible assumption) | (with_reducible refine bel_al0 ?_ _) | (with_reducible refine bel_set ?_ (by first | (simp; done) | (simp; omega)) _) | (with_reducible refine bel_dr ?_) | (with_reducible refine bel_drn ?_ _) | (with_reducible refine bel_tr ?_ (by assumption))))
  have hb2 : Below w.heap.size w ((w.alloc (.cells #[.pointer gq] 42)).alloc (.cells #[.pointer gq] 42)) := by (repeat (first | (with_reducible exact Below.refl _ _) | (with_reducible assumption) | (with_reducible refine bel_al0 ?_ _) | (with_reducible refine bel_set ?_ (by first | (simp; done) | (simp; omega)) _) | (with_reducible refine bel_dr ?_) | (with_reducible refine bel_drn ?_ _) | (with_reducible refine bel_tr ?_ (by assumption))))
  have c1 : ((w.alloc (.cells #[.pointer gq] 42)).alloc (.cells #[.pointer gq] 42)).cell? ⟨w.heap.size, 0, none⟩ = some (.pointer gq) := cell_al (cell_at_new w _ _ 0 rfl) _
  have c2 : ((w.alloc (.cells #[.pointer gq] 42)).alloc (.cells #[.pointer gq] 42)).cell? ⟨w.heap.size + 1, 0, none⟩ = some (.pointer gq) := by
    have := cell_at_new (w.alloc (.cells #[.pointer gq] 42)) #[.pointer gq] 42 0 (v := .pointer gq) rfl
    rw [World.size_alloc] at this
    exact this
  obtain ⟨W1, hW1⟩ : ∃ W1, W1 = (w.alloc (.cells #[.pointer gq] 42)).alloc (.cells #[.pointer gq] 42) := ⟨_, rfl⟩
  rw [← hW1] at hb2 c1 c2
  have hg1 := h.below hb2
  have HC := Lib.hid (collect_calls W1 (w.heap.size + 1) gq L c2 hg1 (by omega) hw)
  have HP : Hid (Pred W1 W1.heap.size 90 #[.pointer (some ⟨w.heap.size, 0, none⟩)] (fun x => !(gGet L x).par.isEmpty)) := fun W2 hW2 x => roots1_calls W2 w.heap.size gq L (cell_bel c1 hW2) (hg1.below hW2) hO x
  have hfe : ((sortI (mkeys L)).filter fun k => (gGet L k).par.isEmpty) = (sortI (mkeys L)).filter fun x => !(fun x => !(gGet L x).par.isEmpty) x := by simp
  rw [hfe]
  obtain ⟨pr, hpr⟩ : ∃ pr : Int → Bool, pr = fun x => !(gGet L x).par.isEmpty := ⟨_, rfl⟩
  rw [← hpr] at HP ⊢
  clear hpr hfe h hO c1 c2 hg1
  obtain ⟨S, hS⟩ : ∃ S, S = sortI (mkeys L) := ⟨_, rfl⟩
  rw [← hS] at HC hnl ⊢
  clear hS
  have hbs := hb2.size
  have HB2 := Lib.hid hb2; clear hb2 hb1
  subst hW1
  unfold NumsOwn at HC ⊢
  go_enter Try.func54, Try.ntmps54
  go_wp2_with (first | (go_at_call 84; refine (idsF_calls _ _).mono ?_; rintro e w' ⟨rfl, rfl⟩) | (go_at_call 88; refine HC.out.mono ?_; rintro e w5 ⟨v5, rfl, ho5, hb5⟩) | (go_at_call 87; refine (delete_own _ w5 _ (Nat.le_refl _) hb5 hb5.size 90 #[.pointer (some ⟨w.heap.size, 0, none⟩)] (enters_of Try.func90 (by kernel_rfl) rfl) pr HP.out v5 S.length S rfl ho5 hnl).mono ?_; rintro e w6 ⟨v6, rfl, ho6, hb6⟩))
  go_ret
  exact ⟨v6, rfl, own_mono ho6 hbs, HB2.out.trans (hb6.mono hbs)⟩
end Go.Proofs.Ytehneliphhgegaa.N
end
