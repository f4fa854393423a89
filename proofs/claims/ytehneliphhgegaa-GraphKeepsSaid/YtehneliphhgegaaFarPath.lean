/- How far, and by which way: walk.Far, walk.Path, walked once. -/
import Derived.Test.YtehneliphhgegaaFar
set_option linter.unusedVariables false
set_option linter.unusedSimpArgs false
set_option maxRecDepth 100000
namespace Go.Proofs.Ytehneliphhgegaa
open Go.RowKit Go.Apo

theorem farStep_ok {L : List (Int × CommitD)} {hd : Int} : ∀ (ps : List Int) (M : List (Int × Int)) (l : List Int), FarOk L M l → hd ∈ l → (∀ q ∈ ps, (mget L q).isSome) → FarOk L (ps.foldl (farStep hd) (M, l)).1 (ps.foldl (farStep hd) (M, l)).2 ∧ hd ∈ (ps.foldl (farStep hd) (M, l)).2
  | [], M, l, h, hm, _ => ⟨h, hm⟩
  | p :: ps, M, l, h, hm, hs => by
    have h1 := h.step (hs p List.mem_cons_self) hm
    have h2 : hd ∈ (farStep hd (M, l) p).2 := by
      unfold farStep
      split
      · exact hm
      · exact List.mem_append_left _ hm
    simp only [List.foldl_cons]
    exact farStep_ok ps _ _ h1 h2 (fun q hq => hs q (List.mem_cons_of_mem _ hq))
theorem FarOk.tail {L : List (Int × CommitD)} {M : List (Int × Int)} {l : List Int} (h : FarOk L M l) : FarOk L M l.tail := ⟨h.vals, fun y hy => h.row y (List.mem_of_mem_tail hy), h.nodup⟩
theorem Closed.get {L : List (Int × CommitD)} (hC : Closed L) (i : Int) : ∀ q ∈ (gGet L i).par, (mget L q).isSome := by
  unfold gGet
  cases hq : mget L i with
  | none => exact fun q hq => by cases hq
  | some c => exact (hC i c hq).2
theorem farRun_ok {L : List (Int × CommitD)} (hC : Closed L) : ∀ (f : Nat) (M : List (Int × Int)) (l : List Int), FarOk L M l → FarOk L (farRun L f M l) []
  | 0, M, l, h => ⟨h.vals, (fun y hy => by cases hy), h.nodup⟩
  | f + 1, M, [], h => h
  | f + 1, M, hd :: t, h => farRun_ok hC f _ _ (farStep_ok _ M (hd :: t) h List.mem_cons_self (hC.get hd)).1.tail
/-- how far the one is behind the other -/
def codeFar (L : List (Int × CommitD)) (old late : Int) : Option Int := mget (farM L late) old
theorem farStart_ok {L : List (Int × CommitD)} {late : Int} (hsome : (mget L late).isSome = true) : FarOk L [(late, 0)] [late] := by
  refine ⟨fun k d hk => ?_, fun y hy => ?_, by simp [mkeys]⟩
  · rw [mget_cons] at hk
    by_cases he : late = k
    · rw [if_pos he] at hk; cases hk; subst he; exact ⟨by simp, by simp, hsome⟩
    · rw [if_neg he] at hk; cases hk
  · rw [List.mem_singleton] at hy; subst hy; rw [mget_cons, if_pos rfl]; rfl
theorem codeFar_bound {L : List (Int × CommitD)} (hC : Closed L) {old late d : Int} (h : codeFar L old late = some d) : 0 ≤ d ∧ d < L.length := by
  unfold codeFar farM at h
  by_cases hs : (mget L late).isSome = true
  · rw [if_pos hs] at h
    have hok := farRun_ok hC (2 * L.length + 1) _ _ (farStart_ok hs)
    have := hok.vals old d h
    have := hok.le
    omega
  · rw [if_neg hs] at h; cases h

theorem Far_calls (w : World) (p mg : Nat) (L : List (Int × CommitD)) (h : GraphAt w p mg L) (hC : Closed L) (hL : L.length ≤ 100000) (old late : Int) :
    Calls Try.prog 27 #[.pointer (some ⟨p, 0, none⟩), .int .u64 old, .int .u64 late] w fun e w' => e = .returned (.tuple #[.int .i64 ((codeFar L old late).getD 0), .bool (codeFar L old late).isSome]) ∧ Below w.heap.size w w' := by
  have HF := Lib.hid (far_calls w p mg L h hC hL late)
  clear h
  unfold codeFar
  cases hq : mget (farM L late) old with
  | none =>
    have HQ := Lib.hid hq; clear hq
    go_enter Try.func27, Try.ntmps27
    go_wp2_with (first | (go_at_call 77; refine HF.out.mono ?_; rintro e w1 ⟨m, rfl, hm1, hb1, hle1⟩; have HM := Lib.hid hm1; clear hm1) | (at_lookup; refine wpl_look_none rfl true _ _ 102 3 rfl keyU Try.underlying102 _ (fun W => zeroInt W) rfl old rfl HM.out HQ.out ?_))
    go_ret2
    exact ⟨rfl, hb1⟩
  | some d =>
    have HQ := Lib.hid hq; clear hq
    go_enter Try.func27, Try.ntmps27
    go_wp2_with (first | (go_at_call 77; refine HF.out.mono ?_; rintro e w1 ⟨m, rfl, hm1, hb1, hle1⟩; have HM := Lib.hid hm1; clear hm1) | (at_lookup; refine wpl_look_some rfl true _ _ 102 3 rfl keyU Try.underlying102 rfl old rfl HM.out HQ.out ?_; intro u hu; unfold intIs at hu; subst hu))
    go_ret2
    exact ⟨rfl, hb1⟩

/-- a row of numbers is handed back -/
def NumsPost (w : World) (l : List Int) (e : Ending) (w' : World) : Prop :=
  ∃ A k, e = .returned (.slice A l.length k) ∧ Flat w' A (nums l) ∧ Below w.heap.size w w'
/-- the way, step by step -/
def pathRun (L : List (Int × CommitD)) (old : Int) : Nat → List Int → List Int
  | 0, out => out
  | k + 1, out => match (gGet L (out.getLastD 0)).par.find? (fun p => codeFar L old p == some (k : Int)) with
    | some p => pathRun L old k (out ++ [p])
    | none => pathRun L old k out
def codePath (L : List (Int × CommitD)) (old late : Int) : List Int := match codeFar L old late with
  | none => []
  | some d => pathRun L old d.toNat [late]
theorem find_first {ps : List Int} {t : Int → Bool} {i : Nat} {q : Int} (h1 : ∀ j p, j < i → ps[j]? = some p → t p = false) (hq : ps[i]? = some q) (ht : t q = true) : ps.find? t = some q := by
  rw [List.find?_eq_some_iff_getElem]
  obtain ⟨hi, he⟩ := List.getElem?_eq_some_iff.1 hq
  exact ⟨ht, i, hi, he, fun j hj => by have := h1 j _ hj (List.getElem?_eq_getElem (by omega)); simp [this]⟩
theorem find_nothing {ps : List Int} {t : Int → Bool} (h1 : ∀ j p, j < ps.length → ps[j]? = some p → t p = false) : ps.find? t = none := by
  rw [List.find?_eq_none]
  intro p hp
  obtain ⟨j, hj⟩ := List.mem_iff_getElem?.1 hp
  have := h1 j p (List.getElem?_eq_some_iff.1 hj).1 hj
  simp [this]
theorem getLastD_at {l : List Int} {n : Nat} (h : l.length = n + 1) : ∃ x, l[n]? = some x ∧ l.getLastD 0 = x := by
  refine ⟨l[n]'(by omega), List.getElem?_eq_getElem _, ?_⟩
  have e : l.length - 1 = n := by omega
  rw [List.getLastD_eq_getLast?, List.getLast?_eq_getElem?, e, List.getElem?_eq_getElem (show n < l.length by omega)]
  rfl

set_option maxHeartbeats 4000000 in
theorem path_calls (w : World) (p mg : Nat) (L : List (Int × CommitD)) (h : GraphAt w p mg L) (hC : Closed L) (hL : L.length ≤ 100000) (old late : Int) :
    Calls Try.prog 30 #[.pointer (some ⟨p, 0, none⟩), .int .u64 old, .int .u64 late] w (NumsPost w (codePath L old late)) := by
  obtain ⟨RES, hRES⟩ : ∃ RES, RES = codePath L old late := ⟨_, rfl⟩
  rw [← hRES]
  have HG := Lib.hid (fun W (hW : GraphAt W p mg L) i => gget_calls p mg W L hW i)
  have HFA := Lib.hid (fun W (hW : GraphAt W p mg L) l => Far_calls W p mg L hW hC hL old l)
  have hbd := fun d h => codeFar_bound hC (old := old) (late := late) (d := d) h
  have HC := Lib.hid hC; clear hC
  have HF0 := Lib.hid (HFA.out w h late)
  have H := Lib.hid h; clear h
  unfold codePath at hRES
  cases hq : codeFar L old late with
  | none =>
    rw [hq] at hRES HF0
    simp only at hRES
    subst hRES
    clear hq hbd
    go_enter Try.func30, Try.ntmps30
    go_wp2_with (go_at_call 27; refine HF0.out.mono ?_; rintro e w1 ⟨rfl, hb1⟩)
    go_ret
    exact ⟨none, 0, rfl, Flat.nil _ _, hb1⟩
  | some d =>
    have hd := hbd d hq
    rw [hq] at hRES HF0
    simp only at hRES
    clear hq hbd
    obtain ⟨kk, rfl⟩ : ∃ kk : Nat, d = kk := ⟨d.toNat, by omega⟩
    have hkk : kk ≤ 100000 := by omega
    clear hd
    rw [Int.toNat_natCast] at hRES
    have HR := Lib.hid hRES; clear hRES
    go_enter Try.func30, Try.ntmps30
    go_wp2_with (go_at_call 27; refine HF0.out.mono ?_; rintro e w1 ⟨rfl, hb1⟩)
    have hown := Lib.hid (World.ownsRow_lit (base := w.heap.size) (e := 24) (size := 1) w1 #[.int .u64 late] 1 hb1.size (by unfold maxLen; omega) rfl)
    have hB1 : Below w.heap.size w (w1.alloc (.cells #[.int .u64 late] 24)) := by (repeat (first | (with_reducible exact Below.refl _ _) | (with_reducible assumption) | (with_reducible refine bel_al0 ?_ _) | (with_reducible refine bel_set ?_ (by first | (simp; done) | (simp; omega)) _) | (with_reducible refine bel_dr ?_) | (with_reducible refine bel_drn ?_ _) | (with_reducible refine bel_tr ?_ (by assumption))))
    obtain ⟨w2, hw2⟩ : ∃ w2, w2 = w1.alloc (.cells #[.int .u64 late] 24) := ⟨_, rfl⟩
    rw [← hw2] at hown hB1 ⊢
    clear hw2 hb1
    go_loopw [7, 9, 10, 11, 13, 14, 15] (fun v7 v9 _ _ _ _ _ wr => ∃ (k n c : Nat) (A : Option Addr) (out : List Int), v7 = .int .i64 k ∧ v9 = .slice A (n + 1) c ∧ Hid (out.length = n + 1) ∧ n + k ≤ 100000 ∧ Hid (wr.ownsRow w.heap.size 24 1 (.slice A (n + 1) c) (n + 1) (nums out)) ∧ Hid (RES = pathRun L old k out) ∧ Below w.heap.size w wr) (fun v _ _ _ _ _ _ _ => (intOf v).toNat)
    case atStart => exact ⟨kk, 0, 1, some ⟨w1.heap.size, 0, none⟩, [late], rfl, rfl, rfl, by omega, hown, HR, hB1⟩
    case round =>
      obtain ⟨k, n, c, A, out, rfl, rfl, hol, hnk, how, hR, hB⟩ := hrel
      cases k with
      | zero =>
        have hr := hR.out
        simp only [pathRun] at hr
        subst hr
        have hfl := own_flat how.out
        have HL := Lib.hid hol.out
        have HW := Lib.hid hfl; clear hfl
        go_wp2
        go_ret
        exact ⟨A, c, by rw [HL.out]; rfl, HW.out, hB⟩
      | succ k =>
        obtain ⟨x, hx, hlast⟩ := getLastD_at hol.out
        have hr := hR.out
        simp only [pathRun, hlast] at hr
        have HR2 := Lib.hid hr; clear hr hR
        obtain ⟨b, off, rfl, cx⟩ := (own_flat how.out).at_ (nums_at hx)
        obtain rfl : off = 0 := by
          rcases how.out.2 with ⟨h1, _⟩ | ⟨g, cap, cur, h1, _⟩
          · cases h1
          · simp only [Value.slice.injEq, Option.some.injEq, Addr.mk.injEq] at h1; exact h1.1.2.1
        rw [Nat.zero_add] at cx
        have hbase := own_block how.out
        have HX := Lib.hid hx; clear hx hlast
        have HG2 := Lib.hid (HG.out _ (H.out.below hB) x)
        obtain ⟨ps, hps⟩ : ∃ ps, ps = (gGet L x).par := ⟨_, rfl⟩
        have hps2 : ps.length ≤ 2 := by
          rw [hps]; unfold gGet
          cases hq : mget L x with
          | none => simp [CommitD.zero]
          | some c => exact (HC.out x c hq).1
        unfold GetOwn at HG2
        rw [← hps] at HG2 HR2
        clear hps
        obtain ⟨np, hnp⟩ : ∃ np, np = ps.length := ⟨_, rfl⟩
        rw [← hnp] at HG2 hps2
        have HNP := Lib.hid hnp; clear hnp
        have hcn : n + 1 ≤ c := by obtain ⟨_, c', e, hle⟩ := own_form how.out; cases e; exact hle
        go_wp2_with (go_at_call 44; refine HG2.out.mono ?_; rintro e w5 ⟨A1, k1, rfl, ho1, hb1⟩)
        have hb6 : Below wr.heap.size wr (w5.alloc (.cells #[.int .u64 (gGet L x).id, .slice A1 np k1, .int .u64 (gGet L x).gen, .int .u64 (gGet L x).root, .string (gGet L x).text] 69)) := by (repeat (first | (with_reducible exact Below.refl _ _) | (with_reducible assumption) | (with_reducible refine bel_al0 ?_ _) | (with_reducible refine bel_set ?_ (by first | (simp; done) | (simp; omega)) _) | (with_reducible refine bel_dr ?_) | (with_reducible refine bel_drn ?_ _) | (with_reducible refine bel_tr ?_ (by assumption))))
        have hF6 := Lib.hid ((own_flat ho1).below (bel_al0 (Below.refl _ w5) (.cells #[.int .u64 (gGet L x).id, .slice A1 np k1, .int .u64 (gGet L x).gen, .int .u64 (gGet L x).root, .string (gGet L x).text] 69)))
        clear ho1 hb1
        have how6 := Lib.hid (own_below how.out hb6)
        have hBB : Below w.heap.size w (w5.alloc (.cells #[.int .u64 (gGet L x).id, .slice A1 np k1, .int .u64 (gGet L x).gen, .int .u64 (gGet L x).root, .string (gGet L x).text] 69)) := bel_tr hB hb6
        obtain ⟨w6, hw6⟩ : ∃ w6, w6 = w5.alloc (.cells #[.int .u64 (gGet L x).id, .slice A1 np k1, .int .u64 (gGet L x).gen, .int .u64 (gGet L x).root, .string (gGet L x).text] 69) := ⟨_, rfl⟩
        rw [← hw6] at hF6 how6 hBB ⊢
        clear hw6 hb6 HG2
        go_loopw [45, 9, 13, 14, 15] (fun v v9 _ _ _ wq => ∃ i : Nat, i ≤ np ∧ v = .int .i64 i ∧ v9 = .slice (some ⟨b, 0, none⟩) (n + 1) c ∧ Hid (∀ j q, j < i → ps[j]? = some q → (codeFar L old q == some (k : Int)) = false) ∧ Below w6.heap.size w6 wq) (fun v _ _ _ _ _ => np - (intOf v).toNat)
        case atStart => exact ⟨0, Nat.zero_le _, rfl, rfl, fun j _ hj => absurd hj (Nat.not_lt_zero _), by (repeat (first | (with_reducible exact Below.refl _ _) | (with_reducible assumption) | (with_reducible refine bel_al0 ?_ _) | (with_reducible refine bel_set ?_ (by first | (simp; done) | (simp; omega)) _) | (with_reducible refine bel_dr ?_) | (with_reducible refine bel_drn ?_ _) | (with_reducible refine bel_tr ?_ (by assumption))))⟩
        case round =>
          obtain ⟨i, hi, rfl, rfl, hno, hBq⟩ := hrel
          have hB' : Below w.heap.size w wr := bel_tr hBB hBq
          by_cases hlt : i < np
          · obtain ⟨q, hq⟩ : ∃ q, ps[i]? = some q := ⟨_, List.getElem?_eq_getElem (by rw [← HNP.out]; exact hlt)⟩
            obtain ⟨b1, ob, rfl, cj⟩ := hF6.out.at_ (nums_at hq)
            replace cj := cell_bel cj hBq
            have HFQ := Lib.hid (HFA.out _ (H.out.below hB') q)
            have HQ := Lib.hid hq; clear hq
            have step : (codeFar L old q == some (k : Int)) = false → Hid (∀ j q, j < i + 1 → ps[j]? = some q → (codeFar L old q == some (k : Int)) = false) := by
              intro hf
              show ∀ j q, j < i + 1 → ps[j]? = some q → (codeFar L old q == some (k : Int)) = false
              intro j q' hj hj2
              rcases Nat.lt_or_ge j i with h' | h'
              · exact hno.out j q' h' hj2
              · obtain rfl : j = i := by omega
                rw [HQ.out] at hj2; cases hj2; exact hf
            have fin : (codeFar L old q == some (k : Int)) = true → RES = pathRun L old k (out ++ [q]) := by
              intro hf
              have := HR2.out
              rw [find_first (t := fun p => codeFar L old p == some (k : Int)) hno.out HQ.out hf] at this
              exact this
            cases hfq : codeFar L old q with
            | none =>
              rw [hfq] at HFQ
              have hst := step (by rw [hfq]; rfl)
              clear step fin hfq
              go_wp2_with (go_at_call 27; refine HFQ.out.mono ?_; rintro e w7 ⟨rfl, hb7⟩)
              go_roundw
              case rel => exact ⟨i + 1, by omega, by go_num, rfl, hst, by (repeat (first | (with_reducible exact Below.refl _ _) | (with_reducible assumption) | (with_reducible refine bel_al0 ?_ _) | (with_reducible refine bel_set ?_ (by first | (simp; done) | (simp; omega)) _) | (with_reducible refine bel_dr ?_) | (with_reducible refine bel_drn ?_ _) | (with_reducible refine bel_tr ?_ (by assumption))))⟩
              case measure => simp [intOf]; omega
            | some d =>
              rw [hfq] at HFQ
              by_cases hdk : d = k
              · subst hdk
                have hfin := Lib.hid (fin (by rw [hfq]; simp))
                clear step fin hfq
                go_wp2_with (first | (go_at_call 27; refine HFQ.out.mono ?_; rintro e w7 ⟨rfl, hb7⟩; have how7 := Lib.hid (own_below (own_below how6.out hBq) hb7); have hB7 := bel_tr hB' hb7) | (at_builtin; refine wpl_append rfl _ _ 50 rfl w.heap.size 24 _ 1 8 Try.underlying50 infoU64 rfl (by decide) _ (n + 1) (nums out) rfl (own_below how7.out (bel_al0 (Below.refl _ _) _)) (some ⟨w7.heap.size, 0, none⟩) 1 1 [.int .u64 q] rfl rfl (fun _ => ⟨w7.heap.size, 0, rfl, fun j u hj => by cases j with | zero => simp only [List.getElem?_cons_zero, Option.some.injEq] at hj; subst hj; exact cell_at_new w7 _ _ 0 rfl | succ j => simp at hj⟩) (by intro u hu; rw [List.mem_singleton] at hu; subst hu; rfl) (by unfold maxLen; omega) (by omega) (by have := hB7.size; simp; omega) ?_; intro v' w8 ho8 hg8 hat8))
                obtain ⟨A8, c8, rfl, hc8⟩ := own_form ho8
                have hB8 : Below w.heap.size w w8 := (bel_al0 hB7 (.cells #[.int .u64 q] 24)).grown hg8 (by have := hB7.size; simp; omega) (fun kk' hk' => (how7.out.lt kk' hk').1)
                have ho9 : Hid (w8.ownsRow w.heap.size 24 1 (.slice A8 (n + 1 + 1) c8) (n + 1 + 1) (nums (out ++ [q]))) := by
                  show w8.ownsRow _ _ _ _ _ _
                  rw [nums_app]; exact ho8
                have hol9 : Hid ((out ++ [q]).length = n + 1 + 1) := by show _ = _; rw [List.length_append, hol.out]; rfl
                clear ho8 hg8 hat8
                go_roundw
                case rel => exact ⟨k, n + 1, c8, A8, out ++ [q], rfl, rfl, hol9, by omega, ho9, hfin, hB8⟩
                case measure => simp [intOf]
              · have hst := step (by rw [hfq]; simpa using hdk)
                have hdk' : (d == (k : Int)) = false := by simpa using hdk
                clear step fin hfq hdk
                go_wp2_with (go_at_call 27; refine HFQ.out.mono ?_; rintro e w7 ⟨rfl, hb7⟩)
                go_roundw
                case rel => exact ⟨i + 1, by omega, by go_num, rfl, hst, by (repeat (first | (with_reducible exact Below.refl _ _) | (with_reducible assumption) | (with_reducible refine bel_al0 ?_ _) | (with_reducible refine bel_set ?_ (by first | (simp; done) | (simp; omega)) _) | (with_reducible refine bel_dr ?_) | (with_reducible refine bel_drn ?_ _) | (with_reducible refine bel_tr ?_ (by assumption))))⟩
                case measure => simp [intOf]; omega
          · have hin : i = np := by omega
            have hr := HR2.out
            rw [find_nothing (t := fun p => codeFar L old p == some (k : Int)) (fun j p' hj => hno.out j p' (by have := HNP.out; omega))] at hr
            have HR3 := Lib.hid hr; clear hr
            have how7 := Lib.hid (own_below how6.out hBq)
            go_wp2
            go_roundw
            case rel => exact ⟨k, n, c, some ⟨b, 0, none⟩, out, rfl, rfl, hol, by omega, how7, HR3, hB'⟩
            case measure => simp [intOf]
end Go.Proofs.Ytehneliphhgegaa
