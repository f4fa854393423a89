/- The document's graph: commits in a row, by their numbers; what each function does, walked once. -/
import Derived.Test.YtehneliphhgegaaRefObj
set_option linter.unusedVariables false
set_option linter.unusedSimpArgs false
set_option maxRecDepth 100000
namespace Go.Proofs.Ytehneliphhgegaa
open Go.RowKit Go.Apo

/-- these cells are these commits, five cells each -/
def CVals (w : World) : List CommitD → List Value → Prop
  | [], [] => True
  | c :: R, v0 :: v1 :: v2 :: v3 :: v4 :: cs => commitIs w c (.agg #[v0, v1, v2, v3, v4]) ∧ CVals w R cs
  | _, _ => False

theorem CVals.mono {w w' : World} (h : ∀ c v, commitIs w c v → commitIs w' c v) : ∀ {R : List CommitD} {cs : List Value}, CVals w R cs → CVals w' R cs
  | [], [], _ => trivial
  | _ :: _, _ :: _ :: _ :: _ :: _ :: _, H => ⟨h _ _ H.1, CVals.mono h H.2⟩
theorem CVals.length {w : World} : ∀ {R : List CommitD} {cs : List Value}, CVals w R cs → cs.length = R.length * 5
  | [], [], _ => rfl
  | _ :: R, _ :: _ :: _ :: _ :: _ :: cs, H => by have := CVals.length H.2; simp only [List.length_cons]; omega
theorem CVals.app {w : World} : ∀ {R S : List CommitD} {cs ds : List Value}, CVals w R cs → CVals w S ds → CVals w (R ++ S) (cs ++ ds)
  | [], _, [], _, _, h => h
  | _ :: R, S, _ :: _ :: _ :: _ :: _ :: cs, ds, H, h => ⟨H.1, CVals.app H.2 h⟩
theorem CVals.split {w : World} : ∀ (j : Nat) {R : List CommitD} {cs : List Value}, CVals w R cs → CVals w (R.take j) (cs.take (j * 5)) ∧ CVals w (R.drop j) (cs.drop (j * 5))
  | 0, R, cs, H => by simp [CVals, H]
  | j + 1, [], [], _ => by simp [CVals]
  | j + 1, c :: R, v0 :: v1 :: v2 :: v3 :: v4 :: cs, H => by
    have h := CVals.split j H.2
    have e : (j + 1) * 5 = (j * 5) + 1 + 1 + 1 + 1 + 1 := by omega
    rw [e]
    simp only [List.take_succ_cons, List.drop_succ_cons]
    exact ⟨⟨H.1, h.1⟩, h.2⟩
theorem CVals.one {w : World} : ∀ {R : List CommitD} {cs : List Value}, CVals w R cs → ∀ u ∈ cs, u.oneCell' = true
  | [], [], _, u, hu => by cases hu
  | c :: R, v0 :: v1 :: v2 :: v3 :: v4 :: cs, H, u, hu => by
    obtain ⟨A, k, e, _⟩ := H.1
    simp only [Value.agg.injEq, Array.mk.injEq, List.cons.injEq, and_true] at e
    obtain ⟨e0, e1, e2, e3, e4⟩ := e
    simp only [List.mem_cons] at hu
    rcases hu with rfl | rfl | rfl | rfl | rfl | hu
    · rw [e0]; rfl
    · rw [e1]; rfl
    · rw [e2]; rfl
    · rw [e3]; rfl
    · rw [e4]; rfl
    · exact CVals.one H.2 u hu
/-- the cells of one of them -/
theorem CVals.at_ {w : World} : ∀ {R : List CommitD} {cs : List Value} {j : Nat} {c : CommitD}, CVals w R cs → R[j]? = some c →
    ∃ A k, cs[j * 5]? = some (.int .u64 c.id) ∧ cs[j * 5 + 1]? = some (.slice A c.par.length k) ∧ cs[j * 5 + 2]? = some (.int .u64 c.gen) ∧ cs[j * 5 + 3]? = some (.int .u64 c.root) ∧ cs[j * 5 + 4]? = some (.string c.text) ∧ Flat w A (nums c.par) ∧ (A = none → c.par = [])
  | c' :: R, v0 :: v1 :: v2 :: v3 :: v4 :: cs, 0, c, H, h => by
    simp only [List.getElem?_cons_zero, Option.some.injEq] at h
    subst h
    obtain ⟨A, k, e, h2, h3⟩ := H.1
    simp only [Value.agg.injEq, Array.mk.injEq, List.cons.injEq, and_true] at e
    obtain ⟨rfl, rfl, rfl, rfl, rfl⟩ := e
    exact ⟨A, k, rfl, rfl, rfl, rfl, rfl, h2, h3⟩
  | c' :: R, v0 :: v1 :: v2 :: v3 :: v4 :: cs, j + 1, c, H, h => by
    obtain ⟨A, k, h0, h1, h2, h3, h4, h5⟩ := CVals.at_ (j := j) H.2 (by simpa using h)
    have e : ∀ q, (j + 1) * 5 + q = (j * 5 + q) + 1 + 1 + 1 + 1 + 1 := fun q => by omega
    have e0 : (j + 1) * 5 = (j * 5) + 1 + 1 + 1 + 1 + 1 := by omega
    refine ⟨A, k, ?_, ?_, ?_, ?_, ?_, h5⟩
    · rw [e0]; simpa using h0
    · rw [e]; simpa using h1
    · rw [e]; simpa using h2
    · rw [e]; simpa using h3
    · rw [e]; simpa using h4

/-- commits in a row from an address on -/
def CRow (w : World) (A : Option Addr) (R : List CommitD) : Prop := ∃ cs, CVals w R cs ∧ Flat w A cs
theorem CRow.below {w w' : World} {A : Option Addr} {R : List CommitD} (h : CRow w A R) (hb : Below w.heap.size w w') : CRow w' A R := by
  obtain ⟨cs, h1, h2⟩ := h
  exact ⟨cs, h1.mono (fun c v hc => commitIs_below hc hb), h2.below hb⟩
theorem CRow.cells {w w' : World} {A : Option Addr} {R : List CommitD} (h : CRow w A R) (hk : ∀ (b : Nat) (o : Obj), w.heap[b]? = some o → o.isCells = true → w'.heap[b]? = some o) : CRow w' A R := by
  obtain ⟨cs, h1, h2⟩ := h
  exact ⟨cs, h1.mono (fun c v hc => commits_onCells w w' c v hk hc), h2.cells hk⟩
theorem CRow.at_ {w : World} {A : Option Addr} {R : List CommitD} {j : Nat} {c : CommitD} (h : CRow w A R) (hj : R[j]? = some c) :
    ∃ b off A' k, A = some ⟨b, off, none⟩ ∧ w.cell? ⟨b, off + j * 5, none⟩ = some (.int .u64 c.id) ∧ w.cell? ⟨b, off + j * 5 + 1, none⟩ = some (.slice A' c.par.length k) ∧ w.cell? ⟨b, off + j * 5 + 2, none⟩ = some (.int .u64 c.gen) ∧ w.cell? ⟨b, off + j * 5 + 3, none⟩ = some (.int .u64 c.root) ∧ w.cell? ⟨b, off + j * 5 + 4, none⟩ = some (.string c.text) ∧ Flat w A' (nums c.par) ∧ (A' = none → c.par = []) := by
  obtain ⟨cs, h1, h2⟩ := h
  obtain ⟨A', k, q0, q1, q2, q3, q4, q5⟩ := h1.at_ hj
  have hl := (List.getElem?_eq_some_iff.1 q0).1
  obtain ⟨b, off, e, hc⟩ := h2 (by omega)
  exact ⟨b, off, A', k, e, hc _ _ q0, by have := hc _ _ q1; rwa [← Nat.add_assoc] at this, by have := hc _ _ q2; rwa [← Nat.add_assoc] at this, by have := hc _ _ q3; rwa [← Nat.add_assoc] at this, by have := hc _ _ q4; rwa [← Nat.add_assoc] at this, q5⟩

/-- the document's graph behind a pointer -/
def RGraphAt (w : World) (x : Nat) (R : List CommitD) : Prop := ∃ A k, Blk w x #[.slice A R.length k] 80 ∧ CRow w A R ∧ (A = none → R = [] ∧ k = 0) ∧ R.length ≤ k
theorem RGraphAt.below {w w' : World} {x : Nat} {R : List CommitD} (h : RGraphAt w x R) (hb : Below w.heap.size w w') : RGraphAt w' x R := by
  obtain ⟨A, k, h1, h2, h3⟩ := h
  exact ⟨A, k, h1.below hb, h2.below hb, h3⟩

/-- what stands in rows of numbers stays where one block of a slice alone has turned -/
theorem flat_but {w w' : World} {x : Nat} {v : Value} {t : TypeId} {A : Option Addr} {cs : List Value} (h : Flat w A cs) (hB : Blk w x #[v] t) (hne : ∀ u, cs[0]? = some u → u ≠ v) (hb : But x w w') : Flat w' A cs := fun h0 => by
  obtain ⟨b, off, e, hc⟩ := h h0
  obtain ⟨u, hu⟩ : ∃ u, cs[0]? = some u := ⟨_, List.getElem?_eq_getElem h0⟩
  have hbx : b ≠ x := by
    intro e; subst e
    have h1 := hc 0 u hu
    unfold World.cell? at h1
    rw [hB] at h1
    simp only at h1
    have : off + 0 = 0 := by
      have := (Array.getElem?_eq_some_iff.1 h1).1
      simpa using this
    rw [this] at h1
    simp at h1
    exact hne u hu h1.symm
  refine ⟨b, off, e, fun j u hj => ?_⟩
  have h1 := hc j u hj
  exact (hb.cell (p := ⟨b, off + j, none⟩) (cell_lt h1) hbx).trans h1
theorem commitIs_but {w w' : World} {x : Nat} {A0 : Option Addr} {n0 k0 : Nat} {t : TypeId} (hB : Blk w x #[.slice A0 n0 k0] t) (hb : But x w w') {c : CommitD} {v : Value} (h : commitIs w c v) : commitIs w' c v := by
  obtain ⟨A, k, h1, h2, h3⟩ := h
  refine ⟨A, k, h1, flat_but h2 hB (fun u hu e => ?_) hb, h3⟩
  subst e
  obtain ⟨y, _, hy⟩ := List.mem_map.1 (List.mem_of_getElem? hu)
  cases hy
theorem CRow.but {w w' : World} {x : Nat} {A0 : Option Addr} {n0 k0 : Nat} {t : TypeId} (hB : Blk w x #[.slice A0 n0 k0] t) (hb : But x w w') {A : Option Addr} {R : List CommitD} (h : CRow w A R) : CRow w' A R := by
  obtain ⟨cs, h1, h2⟩ := h
  refine ⟨cs, h1.mono (fun c v => commitIs_but hB hb), flat_but h2 hB (fun u hu e => ?_) hb⟩
  subst e
  cases R with
  | nil => cases cs with
    | nil => cases hu
    | cons _ _ => exact h1
  | cons c R => match cs, h1 with
    | _ :: _ :: _ :: _ :: _ :: cs, h1 =>
      obtain ⟨⟨A, k, e, _⟩, _⟩ := h1
      simp only [Value.agg.injEq, Array.mk.injEq, List.cons.injEq, and_true] at e
      simp only [List.getElem?_cons_zero, Option.some.injEq] at hu
      rw [e.1] at hu; cases hu

/-- a commit's place -/
def rAt (R : List CommitD) (i : Int) : Int := match R.findIdx? (fun c => c.id == i) with
  | some k => k
  | none => -1
theorem rAt_some {R : List CommitD} {i : Int} {k : Nat} (h1 : ∀ (j : Nat) (c : CommitD), j < k → R[j]? = some c → c.id ≠ i) {c : CommitD} (h2 : R[k]? = some c) (h3 : c.id = i) : rAt R i = k := by
  unfold rAt
  have : R.findIdx? (fun c => c.id == i) = some k := by
    rw [List.findIdx?_eq_some_iff_getElem]
    obtain ⟨hk, hc⟩ := List.getElem?_eq_some_iff.1 h2
    refine ⟨hk, by rw [hc]; simpa using h3, fun j hj => ?_⟩
    have := h1 j R[j] hj (List.getElem?_eq_getElem _)
    simpa using this
  rw [this]
theorem rAt_none {R : List CommitD} {i : Int} (h : ∀ (j : Nat) (c : CommitD), R[j]? = some c → c.id ≠ i) : rAt R i = -1 := by
  unfold rAt
  have : R.findIdx? (fun c => c.id == i) = none := by
    rw [List.findIdx?_eq_none_iff]
    intro c hc
    obtain ⟨j, hj⟩ := List.mem_iff_getElem?.1 hc
    have := h j c hj
    simpa using this
  rw [this]

theorem rat_calls (w : World) (x : Nat) (R : List CommitD) (h : RGraphAt w x R) (hR : R.length ≤ 1000000) (i : Int) :
    Calls Try.prog 78 #[.pointer (some ⟨x, 0, none⟩), .int .u64 i] w fun e w' => e = .returned (.int .i64 (rAt R i)) ∧ Below w.heap.size w w' := by
  obtain ⟨A, k, hblk, hrow, hA, _⟩ := h
  have hc := hblk.one.1; clear hblk
  obtain ⟨n, hn⟩ : ∃ n, n = R.length := ⟨_, rfl⟩
  rw [← hn] at hc hR
  have HROW := Lib.hid hrow; clear hrow
  have HN := Lib.hid hn; clear hn hA
  go_enter Try.func78, Try.ntmps78
  go_wp2
  go_loopw [12, 5, 6] (fun v _ _ wr => ∃ j : Nat, j ≤ n ∧ v = .int .i64 j ∧ Hid (∀ q c, q < j → R[q]? = some c → c.id ≠ i) ∧ Below w.heap.size w wr) (fun v _ _ _ => n - (intOf v).toNat)
  case atStart => exact ⟨0, Nat.zero_le _, rfl, fun q _ hq => absurd hq (Nat.not_lt_zero _), by (repeat (first | (with_reducible exact Below.refl _ _) | (with_reducible assumption) | (with_reducible refine bel_al0 ?_ _) | (with_reducible refine bel_set ?_ (by first | (simp; done) | (simp; omega)) _) | (with_reducible refine bel_dr ?_) | (with_reducible refine bel_drn ?_ _) | (with_reducible refine bel_tr ?_ (by assumption))))⟩
  case round =>
    obtain ⟨j, hj, rfl, hok, hB⟩ := hrel
    by_cases hlt : j < n
    · obtain ⟨c, hcj⟩ : ∃ c, R[j]? = some c := ⟨_, List.getElem?_eq_getElem (by rw [← HN.out]; exact hlt)⟩
      obtain ⟨b, off, A', k', rfl, c0, c1, c2, c3, c4, _⟩ := HROW.out.at_ hcj
      replace c0 := cell_bel c0 hB
      replace c1 := cell_bel c1 hB
      replace c2 := cell_bel c2 hB
      replace c3 := cell_bel c3 hB
      replace c4 := cell_bel c4 hB
      have HC := Lib.hid hcj; clear hcj
      by_cases hi : c.id = i
      · have hf := rAt_some hok.out HC.out hi
        have HF := Lib.hid hf; clear hf
        have g1 : (c.id == i) = true := by simpa using hi
        clear hi
        go_wp2
        go_ret
        exact ⟨by rw [HF.out]; rfl, by (repeat (first | (with_reducible exact Below.refl _ _) | (with_reducible assumption) | (with_reducible refine bel_al0 ?_ _) | (with_reducible refine bel_set ?_ (by first | (simp; done) | (simp; omega)) _) | (with_reducible refine bel_dr ?_) | (with_reducible refine bel_drn ?_ _) | (with_reducible refine bel_tr ?_ (by assumption))))⟩
      · have g1 : (c.id == i) = false := by simpa using hi
        go_wp2
        go_roundw
        case rel =>
          refine ⟨j + 1, by omega, by go_num, fun q c' hq hq' => ?_, by (repeat (first | (with_reducible exact Below.refl _ _) | (with_reducible assumption) | (with_reducible refine bel_al0 ?_ _) | (with_reducible refine bel_set ?_ (by first | (simp; done) | (simp; omega)) _) | (with_reducible refine bel_dr ?_) | (with_reducible refine bel_drn ?_ _) | (with_reducible refine bel_tr ?_ (by assumption))))⟩
          rcases Nat.lt_or_ge q j with h' | h'
          · exact hok q c' h' hq'
          · obtain rfl : q = j := by omega
            rw [HC.out] at hq'; cases hq'; exact hi
        case measure => simp [intOf]; omega
    · have hf : rAt R i = -1 := rAt_none (fun q c hq => hok q c (by have := (List.getElem?_eq_some_iff.1 hq).1; have := HN.out; omega) hq)
      have HF := Lib.hid hf; clear hf
      go_wp2
      go_ret
      exact ⟨by rw [HF.out]; rfl, hB⟩

def rFind (R : List CommitD) (i : Int) : Option CommitD := R.find? (fun c => c.id == i)
theorem rAt_cases (R : List CommitD) (i : Int) : (rAt R i = -1 ∧ rFind R i = none) ∨ ∃ (k : Nat) (c : CommitD), rAt R i = k ∧ R[k]? = some c ∧ c.id = i ∧ rFind R i = some c := by
  unfold rAt rFind
  cases h : R.findIdx? (fun c => c.id == i) with
  | none =>
    refine Or.inl ⟨rfl, ?_⟩
    rw [List.findIdx?_eq_none_iff] at h
    rw [List.find?_eq_none]
    intro c hc; simp [h c hc]
  | some k =>
    refine Or.inr ⟨k, ?_⟩
    rw [List.findIdx?_eq_some_iff_getElem] at h
    obtain ⟨hk, h1, h2⟩ := h
    refine ⟨R[k], rfl, List.getElem?_eq_getElem hk, by simpa using h1, ?_⟩
    rw [List.find?_eq_some_iff_getElem]
    exact ⟨h1, k, hk, rfl, fun j hj => by have := h2 j hj; simpa using this⟩

/-- what the document's Get leaves: the parents lie where they lay -/
def GetPost (w0 w : World) (c : CommitD) (b : Bool) (e : Ending) (w' : World) : Prop :=
  ∃ A k, e = .returned (.tuple #[.agg #[.int .u64 c.id, .slice A c.par.length k, .int .u64 c.gen, .int .u64 c.root, .string c.text], .bool b]) ∧ Flat w0 A (nums c.par) ∧ (A = none → c.par = []) ∧ Below w.heap.size w w'
theorem rget_calls (w0 w : World) (x : Nat) (R : List CommitD) (h0 : RGraphAt w0 x R) (hb0 : Below w0.heap.size w0 w) (hR : R.length ≤ 1000000) (i : Int) :
    Calls Try.prog 45 #[.pointer (some ⟨x, 0, none⟩), .int .u64 i] w (GetPost w0 w ((rFind R i).getD CommitD.zero) (rFind R i).isSome) := by
  have HA := Lib.hid (fun W hW => rat_calls W x R hW hR i)
  have hB := bel_al0 (Below.refl w.heap.size w) (.cells #[.int .u64 0, .slice none 0 0, .int .u64 0, .int .u64 0, .string ⟨#[]⟩] 69)
  have H := Lib.hid (h0.below hb0)
  have H0 := Lib.hid h0; clear h0
  have HB0 := Lib.hid hb0; clear hb0
  rcases rAt_cases R i with ⟨h1, h2⟩ | ⟨k, c, h1, h2, h3, h4⟩
  · rw [h1] at HA
    rw [h2]
    clear h1 h2
    go_enter Try.func45, Try.ntmps45
    go_wp2_with fail
    refine (HA.out _ (H.out.below hB)).mono ?_
    rintro e w1 ⟨rfl, hb1⟩
    have B0 := (blk_new w _ _).below hb1
    obtain ⟨x0, x1, x2, x3, x4, xf⟩ := B0.five
    clear B0
    go_wp2
    refine bodyPost_ret (v := .tuple #[.agg #[.int .u64 0, .slice none 0 0, .int .u64 0, .int .u64 0, .string ⟨#[]⟩], .bool false]) ?_ rfl ?_
    · simp [results, Try.results45, go_sem, x0, x1, x2, x3, x4]
    · exact ⟨none, 0, rfl, Flat.nil _ _, (fun _ => rfl), by (repeat (first | (with_reducible exact Below.refl _ _) | (with_reducible assumption) | (with_reducible refine bel_al0 ?_ _) | (with_reducible refine bel_set ?_ (by first | (simp; done) | (simp; omega)) _) | (with_reducible refine bel_dr ?_) | (with_reducible refine bel_drn ?_ _) | (with_reducible refine bel_tr ?_ (by assumption))))⟩
  · rw [h1] at HA
    rw [h4]
    clear h1 h4
    go_enter Try.func45, Try.ntmps45
    go_wp2_with fail
    refine (HA.out _ (H.out.below hB)).mono ?_
    rintro e w1 ⟨rfl, hb1⟩
    have B0 := (blk_new w _ _).below hb1
    obtain ⟨x0, x1, x2, x3, x4, xf⟩ := B0.five
    clear B0
    have hB1 := bel_tr HB0.out (bel_tr hB hb1)
    obtain ⟨A, q, hblk, hrow, _⟩ := H0.out
    have hc := hblk.one.1; clear hblk
    obtain ⟨b, off, A', k', rfl, c0, c1, c2, c3, c4, hf, hA'⟩ := hrow.at_ h2
    replace hc := cell_bel hc hB1
    replace c0 := cell_bel c0 hB1
    replace c1 := cell_bel c1 hB1
    replace c2 := cell_bel c2 hB1
    replace c3 := cell_bel c3 hB1
    replace c4 := cell_bel c4 hB1
    have hlt : k < R.length := (List.getElem?_eq_some_iff.1 h2).1
    have HFL := Lib.hid hf; clear hf
    have HAN := Lib.hid hA'; clear hA'
    obtain ⟨n, hn⟩ : ∃ n, n = R.length := ⟨_, rfl⟩
    rw [← hn] at hc hlt hR
    clear hn hrow h3 h2
    go_wp2
    refine bodyPost_ret (v := .tuple #[.agg #[.int .u64 c.id, .slice A' c.par.length k', .int .u64 c.gen, .int .u64 c.root, .string c.text], .bool true]) ?_ rfl ?_
    · simp [results, Try.results45, go_sem, x0, x1, x2, x3, x4]
    · refine ⟨A', k', rfl, HFL.out, HAN.out, ?_⟩
      clear hB1
      (repeat (first | (with_reducible exact Below.refl _ _) | (with_reducible assumption) | (with_reducible refine bel_al0 ?_ _) | (with_reducible refine bel_set ?_ (by first | (simp; done) | (simp; omega)) _) | (with_reducible refine bel_dr ?_) | (with_reducible refine bel_drn ?_ _) | (with_reducible refine bel_tr ?_ (by assumption))))
end Go.Proofs.Ytehneliphhgegaa
