/- What a commit is called: the code's name.Of, walked once. -/
import Derived.Test.YtehneliphhgegaaGreatDoorZKDNamed
import Derived.Test.YtehneliphhgegaaGreatDoorZKDBest
import Derived.Test.YtehneliphhgegaaGreatDoorBase
import Derived.Test.YtehneliphhgegaaGreatDoorDDec
import Derived.Test.YtehneliphhgegaaGreatDoorDFmt
import Derived.Test.YtehneliphhgegaaGreatDoorDName
import Derived.Test.YtehneliphhgegaaGreatDoorDRead
import Derived.Test.YtehneliphhgegaaGreatDoorRows2
import Derived.Test.YtehneliphhgegaaGreatDoorZGGraphAll
import Derived.Test.YtehneliphhgegaaGreatDoorZGMadeAll
import Derived.Test.YtehneliphhgegaaGreatDoorZGRefGraphAll
import Derived.Test.YtehneliphhgegaaGreatDoorZGRest
import Derived.Test.YtehneliphhgegaaGreatDoorZKDSplit
import Derived.Test.YtehneliphhgegaaGreatDoorZKDNameV
import Derived.Test.YtehneliphhgegaaGreatDoorZKDWay
import Derived.StillTailTactics
set_option linter.unusedVariables false
set_option linter.unusedSimpArgs false
set_option maxRecDepth 100000
namespace Go.Proofs.YtehneliphhgegaaGreatDoor
open Go.RowKit Go.Apo

/-- where a number stands; -1: nowhere -/
def idxI : Option Nat → Int
  | none => -1
  | some k => (k : Nat)
theorem index_calls (w : World) (A : Option Addr) (n k : Nat) (l : List Int) (hn : l.length = n) (hf : Flat w A (nums l)) (hn2 : n ≤ 100000) (x : Int) :
    Calls Tryz.prog 28 #[.slice A n k, .int .u64 x] w fun e w' => e = .returned (.int .i64 (idxI (idxN l x))) ∧ Below w.heap.size w w' := by
  obtain ⟨r, hr⟩ : ∃ r, r = idxI (idxN l x) := ⟨_, rfl⟩
  rw [← hr]
  have HR := Lib.hid hr; clear hr
  have HN := Lib.hid hn; clear hn
  have HF := Lib.hid hf; clear hf
  go_enter Tryz.func28, Tryz.ntmps28
  go_wp2
  go_loopw [8, 5] (fun v _ wr => ∃ j : Nat, j ≤ n ∧ v = .int .i64 j ∧ Hid (∀ (q : Nat) y, q < j → l[q]? = some y → y ≠ x) ∧ Below w.heap.size w wr) (fun v _ _ => n - (intOf v).toNat)
  case atStart => exact ⟨0, Nat.zero_le _, rfl, fun q _ hq => absurd hq (Nat.not_lt_zero _), by (repeat (first | (with_reducible exact Below.refl _ _) | (with_reducible assumption) | (with_reducible refine bel_al0 ?_ _) | (with_reducible refine bel_set ?_ (by first | (simp; done) | (simp; omega)) _) | (with_reducible refine bel_dr ?_) | (with_reducible refine bel_drn ?_ _) | (with_reducible refine bel_tr ?_ (by assumption))))⟩
  case round =>
    obtain ⟨j, hj, rfl, hok, hB⟩ := hrel
    by_cases hlt : j < n
    · obtain ⟨y, hy⟩ : ∃ y, l[j]? = some y := ⟨_, List.getElem?_eq_getElem (by rw [HN.out]; exact hlt)⟩
      obtain ⟨b, off, rfl, cj⟩ := HF.out.at_ (nums_at hy)
      replace cj := cell_bel cj hB
      have hbl := cell_lt cj
      by_cases he : x = y
      · subst he
        obtain rfl : r = j := by rw [HR.out, idxN_at hy hok.out]; rfl
        clear hy
        go_wp2
        go_ret
        exact ⟨rfl, by (repeat (first | (with_reducible exact Below.refl _ _) | (with_reducible assumption) | (with_reducible refine bel_al0 ?_ _) | (with_reducible refine bel_set ?_ (by first | (simp; done) | (simp; omega)) _) | (with_reducible refine bel_dr ?_) | (with_reducible refine bel_drn ?_ _) | (with_reducible refine bel_tr ?_ (by assumption))))⟩
      · have g1 : (x == y) = false := by simpa using he
        have HY := Lib.hid hy; clear hy
        have HG := Lib.hid he; clear he
        go_wp2
        go_roundw
        case rel =>
          refine ⟨j + 1, by omega, by go_num, fun q x' hq hq' => ?_, by (repeat (first | (with_reducible exact Below.refl _ _) | (with_reducible assumption) | (with_reducible refine bel_al0 ?_ _) | (with_reducible refine bel_set ?_ (by first | (simp; done) | (simp; omega)) _) | (with_reducible refine bel_dr ?_) | (with_reducible refine bel_drn ?_ _) | (with_reducible refine bel_tr ?_ (by assumption))))⟩
          rcases Nat.lt_or_ge q j with h' | h'
          · exact hok.out q x' h' hq'
          · obtain rfl : q = j := by omega
            rw [HY.out] at hq'; cases hq'; exact fun e => HG.out e.symm
        case measure => simp [intOf]; omega
    · have hr : r = -1 := by
        rw [HR.out, idxN_no fun q y hq => hok.out q y (by have := (List.getElem?_eq_some_iff.1 hq).1; have := HN.out; omega) hq]; rfl
      subst hr
      go_wp2
      go_ret
      exact ⟨rfl, hB⟩

theorem idxN_lt {l : List Int} {x : Int} {k : Nat} (h : idxN l x = some k) : k < l.length := by
  unfold idxN at h
  rw [List.findIdx?_eq_some_iff_getElem] at h
  exact h.1
theorem RefRow.take {w : World} {A : Option Addr} {n : Nat} {l : List RefD} (h : RefRow w A n l) {j : Nat} (hj : j ≤ n) : RefRow w A j (l.take j) := by
  have hl := h.len
  refine ⟨by rw [List.length_take]; omega, by have := h.le; omega, fun h0 => ?_⟩
  obtain ⟨b, off, e, hc⟩ := h.at_ (by omega)
  refine ⟨b, off, e, fun q r hq => ?_⟩
  rw [List.getElem?_take] at hq
  split at hq
  · exact hc q r hq
  · cases hq
theorem run_headR (b off n c k : Nat) (hk : k ≤ c) (W : World) : (Instr.slice 23 (.slice (some ⟨b, off, none⟩) n c) none (some (.int .i64 (k : Int))) none).run Tryz.prog W = .ok (.slice (some ⟨b, off, none⟩) k c) W := by
  have ht : Tryz.prog.underlying 23 = some (.slice (Tryz.prog.elem 23)) := by kernel_rfl
  have he : Tryz.prog.elem 23 = 48 := by kernel_rfl
  have h := run_slice_h (P := Tryz.prog) W 23 (some ⟨b, off, none⟩) n c ht .i64 (k : Int) (by omega) (by omega)
  rw [he, Tryz.sizeOf48] at h
  refine h.trans ?_
  have h0 : ∀ a : Addr, a.add 0 = a := fun a => by unfold Addr.add; split <;> simp_all
  simp [Result.andThen, sliced, h0]
theorem infoWay : (Tryz.prog.info? 70).map (fun i => (i.zero, i.size, i.bytes)) = some (some (.agg #[.string ⟨#[]⟩, .int .i64 0]), 2, 24) := by kernel_rfl
theorem flat_way (w : World) (s : ByteArray) (k : Nat) : Flat (w.alloc (.cells #[.string s, .int .i64 (k : Int)] 70)) (some ⟨w.heap.size, 0, none⟩) (wcells [(s, k)]) := fun _ => ⟨w.heap.size, 0, rfl, fun j u hj => by
  rw [Nat.zero_add]
  refine cell_at_new w _ _ j ?_
  simpa [wcells] using hj⟩
theorem wayOf_bad {L : List (Int × CommitD)} {l : List RefD} {id : Int} {j : Nat} {r : RefD} (h : nameB r.name = false) : wayOf L l id j r = none := by
  unfold wayOf
  rw [if_neg (by simp [h])]
theorem wayOf_twice {L : List (Int × CommitD)} {l : List RefD} {id : Int} {j : Nat} {r : RefD} (h : freshB l j r.name = false) : wayOf L l id j r = none := by
  unfold wayOf
  rw [if_neg (by simp [h])]
theorem wayOf_yes {L : List (Int × CommitD)} {l : List RefD} {id : Int} {j : Nat} {r : RefD} (h1 : nameB r.name = true) (h2 : freshB l j r.name = true) : wayOf L l id j r = wayLine r.name (idxN (lineL L r.id) id) := by
  unfold wayOf
  rw [if_pos ⟨h1, h2⟩]
theorem named_fresh (l : List RefD) (j : Nat) (s : ByteArray) : (namedV (namedO (l.take j) s)).2 = !freshB l j s := by
  unfold freshB namedO
  cases firstR (l.take j) s <;> rfl
theorem nameB_size {s : ByteArray} (h : nameB s = true) : s.size ≤ 20 := by
  rcases Nat.lt_or_ge 20 s.size with h1 | h1
  · rw [nameB_no (Or.inr h1)] at h; cases h
  · exact h1
/-- ways whose names are names, and whose steps are few -/
def SmallW (l : List Way) : Prop := ∀ a ∈ l, a.1.size ≤ 20 ∧ a.2 ≤ 1000000
theorem ways_small {L : List (Int × CommitD)} (hbig : ∀ i, (lineL L i).length ≤ 25) (l : List RefD) (id : Int) (k : Nat) : SmallW (waysL L l id k) := fun a ha => by
  unfold waysL at ha
  obtain ⟨i, _, hi⟩ := List.mem_filterMap.1 ha
  cases hr : l[i]? with
  | none => rw [hr] at hi; cases hi
  | some r =>
    rw [hr] at hi
    simp only [Option.bind_some] at hi
    unfold wayOf at hi
    split at hi
    · rename_i h
      cases hx : idxN (lineL L r.id) id with
      | none => rw [hx] at hi; cases hi
      | some q =>
        rw [hx] at hi
        cases hi
        exact ⟨nameB_size h.1, by have := idxN_lt hx; have := hbig r.id; show q ≤ 1000000; omega⟩
    · cases hi
theorem best_mem : ∀ (l : List Way) (o : Option Way) (a : Way), l.foldl stepW o = some a → a ∈ l ∨ o = some a
  | [], o, a, h => Or.inr h
  | x :: l, o, a, h => by
    rcases best_mem l (stepW o x) a h with h1 | h1
    · exact Or.inl (List.mem_cons_of_mem _ h1)
    · cases o with
      | none => cases h1; exact Or.inl List.mem_cons_self
      | some b =>
        simp only [stepW] at h1
        split at h1
        · cases h1; exact Or.inl List.mem_cons_self
        · exact Or.inr h1

set_option maxHeartbeats 8000000 in
theorem cof_calls (w : World) (gq : Option Addr) (L : List (Int × CommitD)) (hg : GP w gq L) (hF : Falls L) (hbig : ∀ i, (lineL L i).length ≤ 25) (A : Option Addr) (n c : Nat) (l : List RefD) (h : RefRow w A n l) (hnc : n ≤ c) (hn : n ≤ 1000) (id : Int) (hid : u64ok id) (hv : VarsOk w) :
    Calls Tryz.prog 12 #[.pointer gq, .slice A n c, .int .u64 id] w fun e w' => e = .returned (.string (ofV L l id)) ∧ Below w.heap.size w w' := by
  obtain ⟨iN, rfl⟩ : ∃ iN : Nat, id = iN := ⟨id.toNat, by unfold u64ok at hid; omega⟩
  have hi64 : iN < 18446744073709551616 := by unfold u64ok at hid; omega
  have HNM := Lib.hid (fun W (hW : Below w.heap.size w W) j (hj : j ≤ n) s => named_calls W A j c (l.take j) ((h.below hW).take hj) (by omega) s)
  have HLN := Lib.hid (fun W (hW : Below w.heap.size w W) i => line_calls W gq L (hg.below hW) hF i (by have := hbig i; omega))
  have HIX := Lib.hid (fun W A n k l (hn : l.length = n) (hf : Flat W A (nums l)) (hn2 : n ≤ 100000) => index_calls W A n k l hn hf hn2 (iN : Int))
  have HBE := Lib.hid (fun W A n c l (hl : l.length = n) (hc : n ≤ c) (hf : Flat W A (wcells l)) (h1 : 1 ≤ n) (hn : n ≤ 100000) => best_some W A n c l hl hc hf h1 hn)
  have HBN := Lib.hid (fun W A c => best_none W A c)
  have HTX := Lib.hid (fun W (hW : Below w.heap.size w W) a (ha : a.2 ≤ 1000000) (hn : a.1.size ≤ 1000) => text_calls33 W (hv.below hW) a ha hn iN)
  have HDC := Lib.hid (fun W (hW : Below w.heap.size w W) => ndec_calls iN hi64 W (hv.below hW))
  unfold NumsOwn at HLN
  have HBG := Lib.hid hbig
  have HSW := Lib.hid (ways_small hbig l (iN : Int))
  have HWS := Lib.hid (fun k r (hk : l[k]? = some r) => ways_snoc L l (iN : Int) k hk)
  have HWL := Lib.hid (ways_len L l (iN : Int))
  have HLEN := Lib.hid h.len
  have HAT := Lib.hid h.at_
  have HCUT := Lib.hid (fun b off k (hk : k ≤ c) W => run_headR b off n c k hk W)
  have HRES := Lib.hid (show ofV L l (iN : Int) = textW iN (bestW (waysL L l (iN : Int) n)) from by unfold ofV; rw [h.len]; rfl)
  obtain ⟨RES, hRES⟩ : ∃ RES, RES = ofV L l (iN : Int) := ⟨_, rfl⟩
  rw [← hRES] at HRES ⊢
  clear hRES h hg hbig hid
  obtain ⟨WS, hWS⟩ : ∃ WS, WS = waysL L l (iN : Int) := ⟨_, rfl⟩
  have HW0 := Lib.hid (show WS 0 = [] from by rw [hWS]; rfl)
  rw [← hWS] at HSW HWS HWL HRES
  clear hWS
  have hdz := dec_size hi64
  go_enter Tryz.func12, Tryz.ntmps12
  go_wp2_with fail
  go_loopw [17, 7, 8, 9, 10, 11, 12] (fun v v7 _ _ _ _ _ wr => ∃ (j k : Nat), j ≤ n ∧ v = .int .i64 j ∧ Hid (k = (WS j).length) ∧ k ≤ j ∧ Hid (wr.ownsRow w.heap.size 70 2 v7 k (wcells (WS j))) ∧ Below w.heap.size w wr) (fun v _ _ _ _ _ _ _ => n - (intOf v).toNat)
  case atStart =>
    refine ⟨0, 0, Nat.zero_le _, rfl, by show 0 = _; rw [HW0.out]; rfl, Nat.le_refl _, ?_, by (repeat (first | (with_reducible exact Below.refl _ _) | (with_reducible assumption) | (with_reducible refine bel_al0 ?_ _) | (with_reducible refine bel_set ?_ (by first | (simp; done) | (simp; omega)) _) | (with_reducible refine bel_dr ?_) | (with_reducible refine bel_drn ?_ _) | (with_reducible refine bel_tr ?_ (by assumption))))⟩
    show World.ownsRow _ _ _ _ _ _ _
    rw [HW0.out]
    exact World.ownsRow_nil _ _ _ _
  case round =>
    obtain ⟨j, k, hj, rfl, hk, hkj, ho, hB⟩ := hrel
    have hz := hB.size
    by_cases hlt : j < n
    · obtain ⟨r, hr⟩ : ∃ r, l[j]? = some r := ⟨_, List.getElem?_eq_getElem (by rw [HLEN.out]; exact hlt)⟩
      obtain ⟨b, off, rfl, hcell⟩ := HAT.out (by omega)
      obtain ⟨c0, c1, c2⟩ := hcell j r hr
      replace c0 := cell_bel c0 hB
      replace c1 := cell_bel c1 hB
      replace c2 := cell_bel c2 hB
      clear hcell HAT
      have hcut := HCUT.out b off j (by omega)
      have HNJ := Lib.hid (fun W hW => HNM.out W hW j (by omega) r.name)
      have hnf := named_fresh l j r.name
      have hws := HWS.out j r hr
      have w1 := @wayOf_bad L l (iN : Int) j r
      have w2' := @wayOf_twice L l (iN : Int) j r
      have w3 := @wayOf_yes L l (iN : Int) j r
      have HL1 := Lib.hid (fun W hW => HLN.out W hW r.id)
      have hbg := HBG.out r.id
      have HNA := Lib.hid (fun W => name_calls r.name W)
      have hsmall := @nameB_size r.name
      obtain ⟨x, tw⟩ : ∃ x, x = namedV (namedO (l.take j) r.name) := ⟨_, rfl⟩
      rw [← tw] at HNJ hnf
      clear tw
      obtain ⟨xi, xb⟩ := x
      simp only at hnf
      unfold idT at HNJ
      simp only at HNJ
      obtain ⟨NB, hNB⟩ : ∃ NB, NB = nameB r.name := ⟨_, rfl⟩
      rw [← hNB] at HNA w1 w3 hsmall
      obtain ⟨FB, hFB⟩ : ∃ FB, FB = freshB l j r.name := ⟨_, rfl⟩
      rw [← hFB] at hnf w2' w3
      subst hnf
      obtain ⟨WO, hWO⟩ : ∃ WO, WO = wayOf L l (iN : Int) j r := ⟨_, rfl⟩
      rw [← hWO] at hws w1 w2' w3
      obtain ⟨LN, hLN⟩ : ∃ LN, LN = lineL L r.id := ⟨_, rfl⟩
      rw [← hLN] at HL1 hbg w3
      clear hNB hFB hWO hLN hr HCUT HNM HWS HLN HBG HWL HSW
      obtain ⟨nm, tg, ri⟩ := r
      simp only at c0 c1 c2 HNJ HNA HL1 w3 hsmall
      have hbW : Below wr.heap.size wr (wr.alloc (.cells #[.string nm, .bool tg, .int .u64 ri] 48)) := by (repeat (first | (with_reducible exact Below.refl _ _) | (with_reducible assumption) | (with_reducible refine bel_al0 ?_ _) | (with_reducible refine bel_set ?_ (by first | (simp; done) | (simp; omega)) _) | (with_reducible refine bel_dr ?_) | (with_reducible refine bel_drn ?_ _) | (with_reducible refine bel_tr ?_ (by assumption))))
      have hy := blk_new wr #[.string nm, .bool tg, .int .u64 ri] 48
      have hzW : (wr.alloc (.cells #[.string nm, .bool tg, .int .u64 ri] 48)).heap.size = wr.heap.size + 1 := by simp
      go_wp2_with fail
      generalize wr.alloc (.cells #[.string nm, .bool tg, .int .u64 ri] 48) = W1 at *
      have y0 : W1.cell? ⟨wr.heap.size, 0, none⟩ = some (.string nm) := hy.cell rfl
      have HY := Lib.hid (show Blk W1.drew wr.heap.size #[.string nm, .bool tg, .int .u64 ri] 48 from hy)
      clear hy
      have hB1 := bel_tr hB hbW
      have hBd : Below w.heap.size w W1.drew := bel_dr hB1
      have hzd : W1.drew.heap.size = wr.heap.size + 1 := hzW
      have y0' : W1.drew.cell? ⟨wr.heap.size, 0, none⟩ = some (.string nm) := y0
      go_region_with (go_at_call 22; refine (HNJ.out _ hBd).mono ?_; rintro e w2 ⟨rfl, hb2⟩)
      all_goals (
        have hx := HY.out.below hb2
        obtain ⟨x0, x1, x2⟩ : w2.cell? ⟨wr.heap.size, 0, none⟩ = some (.string nm) ∧ w2.cell? ⟨wr.heap.size, 1, none⟩ = some (.bool tg) ∧ w2.cell? ⟨wr.heap.size, 2, none⟩ = some (.int .u64 ri) := ⟨hx.cell rfl, hx.cell rfl, hx.cell rfl⟩
        have HX := Lib.hid hx
        clear hx
        have hB2 : Below w.heap.size w w2 := bel_tr hBd hb2
        have hBr : Below wr.heap.size wr w2 := bel_tr (bel_dr hbW) hb2
        have hz2 : wr.heap.size < w2.heap.size := by have := hb2.size; omega
        clear hb2 hBd y0 y0' hB1 hbW hzd hzW HNJ hcut HY
        cases NB with
        | false =>
          have hw := w1 rfl
          clear w1 w2' w3
          subst hw
          go_wp2_with (go_at_call 27; refine (HNA.out _).mono ?_; rintro e w5 ⟨rfl, hb5⟩)
          go_roundw
          case rel => exact ⟨j + 1, k, by omega, by go_num, by show k = _; rw [hws, hk.out]; simp, by omega, by show World.ownsRow _ _ _ _ _ _ _; rw [hws, Option.toList_none, List.append_nil]; exact own_below ho.out (bel_tr (hBr) hb5), bel_tr hB2 hb5⟩
          case measure => simp [intOf]; omega
        | true =>
          cases FB with
          | false =>
            have hw := w2' rfl
            clear w1 w2' w3
            subst hw
            go_wp2_with (go_at_call 27; refine (HNA.out _).mono ?_; rintro e w5 ⟨rfl, hb5⟩)
            go_roundw
            case rel => exact ⟨j + 1, k, by omega, by go_num, by show k = _; rw [hws, hk.out]; simp, by omega, by show World.ownsRow _ _ _ _ _ _ _; rw [hws, Option.toList_none, List.append_nil]; exact own_below ho.out (bel_tr (hBr) hb5), bel_tr hB2 hb5⟩
            case measure => simp [intOf]; omega
          | true =>
            have hw := w3 rfl rfl
            have hsm := hsmall rfl
            clear w1 w2' w3 hsmall
            have HFX := Lib.hid (fun q => @idxN_lt LN (iN : Int) q)
            have HIX2 := Lib.hid (fun W A n k (hn : LN.length = n) (hf : Flat W A (nums LN)) (hn2 : n ≤ 100000) => HIX.out W A n k LN hn hf hn2)
            obtain ⟨IX, hIX⟩ : ∃ IX, IX = idxN LN (iN : Int) := ⟨_, rfl⟩
            rw [← hIX] at HFX HIX2 hw
            clear hIX HIX
            obtain ⟨ll, hll⟩ : ∃ ll, ll = LN.length := ⟨_, rfl⟩
            rw [← hll] at HL1 hbg HFX
            have HLL := Lib.hid hll.symm; clear hll
            cases IX with
            | none =>
              have hw : WO = none := hw
              subst hw
              simp only [idxI] at HIX2
              go_wp2_with (first | (go_at_call 27; refine (HNA.out _).mono ?_; rintro e w5 ⟨rfl, hb5⟩; have hB5 := bel_tr hB2 hb5; obtain ⟨z0, z1, z2⟩ : w5.cell? ⟨wr.heap.size, 0, none⟩ = some (.string nm) ∧ w5.cell? ⟨wr.heap.size, 1, none⟩ = some (.bool tg) ∧ w5.cell? ⟨wr.heap.size, 2, none⟩ = some (.int .u64 ri) := ⟨(HX.out.below hb5).cell rfl, (HX.out.below hb5).cell rfl, (HX.out.below hb5).cell rfl⟩) | (go_at_call 23; refine (HL1.out _ hB5).mono ?_; rintro e w6 ⟨v6, rfl, ho6, hb6⟩; obtain ⟨A6, c6, rfl, hc6⟩ := own_form ho6; have HF6 := Lib.hid (own_flat ho6); clear ho6) | (go_at_call 28; refine (HIX2.out _ A6 ll c6 HLL.out HF6.out (by omega)).mono ?_; rintro e w7 ⟨rfl, hb7⟩))
              go_roundw
              case rel =>
                have hb7' := bel_tr hb6 hb7
                exact ⟨j + 1, k, by omega, by go_num, by show k = _; rw [hws, hk.out]; simp, by omega, by show World.ownsRow _ _ _ _ _ _ _; rw [hws, Option.toList_none, List.append_nil]; exact own_below ho.out (bel_tr (bel_tr (hBr) hb5) hb7'), bel_tr hB5 hb7'⟩
              case measure => simp [intOf]; omega
            | some q =>
              have hw : WO = some (nm, q) := hw
              have hq : q ≤ 1000000 := by have := HFX.out q rfl; omega
              subst hw
              have g1 : decide ((0 : Int) ≤ (q : Int)) = true := by simp
              have g2 : decide ((q : Int) ≤ 1000000) = true := by simp; omega
              simp only [idxI] at HIX2
              go_wp2_with (first | (go_at_call 27; refine (HNA.out _).mono ?_; rintro e w5 ⟨rfl, hb5⟩; have hB5 := bel_tr hB2 hb5; have hx5 := HX.out.below hb5; obtain ⟨z0, z1, z2⟩ : w5.cell? ⟨wr.heap.size, 0, none⟩ = some (.string nm) ∧ w5.cell? ⟨wr.heap.size, 1, none⟩ = some (.bool tg) ∧ w5.cell? ⟨wr.heap.size, 2, none⟩ = some (.int .u64 ri) := ⟨hx5.cell rfl, hx5.cell rfl, hx5.cell rfl⟩; have HX5 := Lib.hid hx5; clear hx5; have hBr5 := bel_tr hBr hb5; have hz5 := hb5.size) | (go_at_call 23; refine (HL1.out _ hB5).mono ?_; rintro e w6 ⟨v6, rfl, ho6, hb6⟩; obtain ⟨A6, c6, rfl, hc6⟩ := own_form ho6; have HF6 := Lib.hid (own_flat ho6); clear ho6; have hz6 := hb6.size) | (go_at_call 28; refine (HIX2.out _ A6 ll c6 HLL.out HF6.out (by omega)).mono ?_; rintro e w7 ⟨rfl, hb7⟩; have hb7' := bel_tr hb6 hb7; have hx7 := HX5.out.below hb7'; obtain ⟨u0, u1, u2⟩ : w7.cell? ⟨wr.heap.size, 0, none⟩ = some (.string nm) ∧ w7.cell? ⟨wr.heap.size, 1, none⟩ = some (.bool tg) ∧ w7.cell? ⟨wr.heap.size, 2, none⟩ = some (.int .u64 ri) := ⟨hx7.cell rfl, hx7.cell rfl, hx7.cell rfl⟩; clear hx7; have hB7 := bel_tr hB5 hb7'; have hBr7 := bel_tr hBr5 hb7'; have hz7 := hb7.size; have hw7 := hB7.size) | (at_builtin; refine wpl_append rfl _ _ 67 rfl w.heap.size 70 _ 2 24 Tryz.underlying67 infoWay rfl (by decide) _ k (wcells (WS j)) rfl (own_below ho.out (bel_al0 hBr7 _)) (some ⟨w7.heap.size, 0, none⟩) 1 1 (wcells [(nm, q)]) rfl rfl (flat_way w7 nm q) (wcells_one _) (by unfold maxLen; omega) (by omega) (by simp; omega) ?_; intro v' w9 ho9 hg9 hat9; have hb9 : Below w.heap.size w w9 := grown_bel (bel_al0 hB7 _) (Nat.le_refl _) hg9 (own_row_ge ho.out)))
              go_roundw
              case rel => exact ⟨j + 1, k + 1, by omega, by go_num, by show k + 1 = _; rw [hws, hk.out]; simp, by omega, by show World.ownsRow _ _ _ _ _ _ _; rw [hws]; show World.ownsRow _ _ _ _ _ _ (wcells (WS j ++ [(nm, q)])); rw [wcells_app]; exact ho9, hb9⟩
              case measure => simp [intOf]; omega)
    · obtain rfl : j = n := by omega
      obtain ⟨A7, c7, rfl, hc7⟩ := own_form ho.out
      have hsw := HSW.out j
      have hbm : ∀ a, bestW (WS j) = some a → a.1.size ≤ 20 ∧ a.2 ≤ 1000000 := fun a ha => by
        rcases best_mem (WS j) none a ha with h1 | h1
        · exact hsw a h1
        · cases h1
      have HB1 : Hid (Calls Tryz.prog 29 #[.slice A7 k c7, .func (.func 30) #[] #[]] wr fun e w' => e = .returned (bestT (bestW (WS j))) ∧ Below wr.heap.size wr w') := by
        rcases Nat.eq_zero_or_pos k with hk0 | hk0
        · have h0 : WS j = [] := by
            apply List.eq_nil_of_length_eq_zero
            rw [← hk.out, hk0]
          rw [h0, hk0]
          exact HBN.out wr A7 c7
        · exact HBE.out wr A7 k c7 (WS j) hk.out.symm hc7 (own_flat ho.out) hk0 (by omega)
      obtain ⟨BW, hBW⟩ : ∃ BW, BW = bestW (WS j) := ⟨_, rfl⟩
      rw [← hBW] at HB1 hbm HRES
      clear hBW HBE HBN HIX HLN HNM HCUT HWS HSW HAT hsw
      cases BW with
      | none =>
        unfold bestT at HB1
        unfold textW at HRES
        go_wp2_with (first | (go_at_call 29; refine HB1.out.mono ?_; rintro e w5 ⟨rfl, hb5⟩; have hB5 : Below w.heap.size w (w5.alloc (.cells #[.string ⟨#[]⟩, .int .i64 0] 70)) := bel_al0 (bel_tr hB hb5) _) | (go_at_call 31; refine (HDC.out _ hB5).mono ?_; rintro e w6 ⟨rfl, hb6⟩))
        go_ret
        exact ⟨by rw [HRES.out]; rfl, bel_tr hB5 hb6⟩
      | some a =>
        obtain ⟨h1, h2⟩ := hbm a rfl
        unfold bestT at HB1
        have HTX2 := Lib.hid (fun W hW => HTX.out W hW a h2 (by omega))
        unfold wayVal at HB1 HTX2
        go_wp2_with (first | (go_at_call 29; refine HB1.out.mono ?_; rintro e w5 ⟨rfl, hb5⟩; have hB5 : Below w.heap.size w (w5.alloc (.cells #[.string a.1, .int .i64 (a.2 : Nat)] 70)) := bel_al0 (bel_tr hB hb5) _) | (go_at_call 32; refine (HTX2.out _ hB5).mono ?_; rintro e w6 ⟨rfl, hb6⟩))
        go_ret
        exact ⟨by rw [HRES.out]; rfl, bel_tr hB5 hb6⟩
end Go.Proofs.YtehneliphhgegaaGreatDoor
