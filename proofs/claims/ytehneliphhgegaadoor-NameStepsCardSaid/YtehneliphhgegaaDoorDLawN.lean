/- The laws NameFinds and NameSteps, walked. -/
import Derived.Test.YtehneliphhgegaaDoorDLawS
set_option linter.unusedVariables false
set_option linter.unusedSimpArgs false
set_option maxRecDepth 100000
namespace Go.Proofs.YtehneliphhgegaaDoor
open Go.RowKit Go.Apo

/-- a slice of refs that is read, with its room -/
structure RefRowC (w : World) (A : Option Addr) (n c : Nat) (l : List RefD) : Prop where
  row : RefRow w A n l
  cap : n ≤ c
theorem refRowC_of {H : Type} {enc : TypeId × Value → H} {w : World} {A : Option Addr} {n c : Nat} (h : G enc Tryd.prog w 47 [.slice A n c]) (hs : n * 24 ≤ 140737488351232) : ∃ l, RefRowC w A n c l := by
  obtain ⟨l, hl⟩ := refRow_of h hs
  obtain ⟨a, len, cap, e, h1, _, _⟩ := h.slice Tryd.underlying47 (by rw [cells_ref]; omega)
  simp only [Value.slice.injEq] at e
  obtain ⟨rfl, rfl, rfl⟩ := e
  exact ⟨l, hl, h1⟩
theorem fewB_len {l : List RefD} (h : fewB l = true) : l.length ≤ 45 := by
  unfold fewB at h
  rw [Bool.and_eq_true] at h
  simpa using h.2
theorem fewB_size {l : List RefD} (h : fewB l = true) : ∀ r ∈ l, r.name.size ≤ 40 := by
  unfold fewB at h
  rw [Bool.and_eq_true, List.all_eq_true] at h
  exact fun r hr => by simpa using h.1 r hr

set_option maxHeartbeats 8000000 in
theorem nameFinds_calls (w : World) (A : Option Addr) (n k : Nat) (l : List CommitD) (h : CIn w A n l) (A2 : Option Addr) (n2 k2 : Nat) (rs : List RefD) (h2 : RefRowC w A2 n2 k2 rs) (id : Int) (hid : u64ok id) (s : ByteArray) (hv : VarsOk w) :
    Calls Tryd.prog 10 #[.slice A n k, .slice A2 n2 k2, .int .u64 id, .string s] w fun e w' => e = .returned (.bool true) ∧ Below w.heap.size w w' := by
  have HA := Lib.hid (awake33_calls w hv)
  have HF := Lib.hid (fun W (hW : Below w.heap.size w W) => few15_calls W A n k l (h.below hW))
  have HF2 := Lib.hid (fun W (hW : Below w.heap.size w W) => few16_calls W A2 n2 k2 rs (h2.row.below hW))
  by_cases hfew : few l = true
  · rw [hfew] at HF
    by_cases hfew2 : fewB rs = true
    · rw [hfew2] at HF2
      by_cases hs : s.size ≤ 60
      · have g1 : decide ((60 : Int) < (s.size : Int)) = false := by simp; omega
        have hg := graphN h hfew
        have hn2 : n2 ≤ 45 := by have := fewB_len hfew2; have := h2.row.len; omega
        have hsz := fewB_size hfew2
        have HM := Lib.hid (fun W (hW : Below w.heap.size w W) => made_calls W A n k l (h.below hW) hfew)
        unfold MadePost at HM
        have HC := Lib.hid (fun W (hW : Below w.heap.size w W) p m (hG : GraphAt W p m (madeL l)) => cfind_calls W (some ⟨p, 0, none⟩) (madeL l) (Or.inl ⟨p, m, rfl, hG⟩) hg.falls hg.line A2 n2 k2 rs (h2.row.below hW) (by omega) s (by omega) (hv.below hW))
        have HR := Lib.hid (fun W (hW : Below w.heap.size w W) x (hG : RGraphAt W x (madeR l)) => rfind_calls W x (madeL l) (madeR l) hG hg.sync hg.falls hg.nz (by have := hg.rlen; omega) hg.line A2 n2 k2 rs (h2.row.below hW) (by omega) s (by omega))
        have HO := Lib.hid (fun W (hW : Below w.heap.size w W) p m (hG : GraphAt W p m (madeL l)) => cof_calls W (some ⟨p, 0, none⟩) (madeL l) (Or.inl ⟨p, m, rfl, hG⟩) hg.falls hg.line A2 n2 k2 rs (h2.row.below hW) h2.cap (by omega) id hid (hv.below hW))
        have HL := Lib.hid (fun W (hW : Below w.heap.size w W) x (hG : RGraphAt W x (madeR l)) => rcalled_calls W x (madeL l) (madeR l) hG hg.sync hg.falls hg.nz (by have := hg.rlen; omega) hg.line A2 n2 k2 rs (h2.row.below hW) (by omega) (fun r hr => by have := hsz r hr; omega) id hid)
        obtain ⟨V, hV⟩ : ∃ V, V = namedV (findO (madeL l) rs s) := ⟨_, rfl⟩
        rw [← hV] at HC HR
        clear hV
        obtain ⟨T, hT⟩ : ∃ T, T = ofV (madeL l) rs id := ⟨_, rfl⟩
        rw [← hT] at HO HL
        clear hT hg hsz hfew hfew2 h h2 hs hn2
        obtain ⟨vi, vb⟩ := V
        unfold idT at HC HR
        simp only at HC HR
        go_enter Tryd.func10, Tryd.ntmps10
        go_wp2_with (first | (go_at_call 25; refine HA.out.mono ?_; rintro e w1 ⟨rfl, hb1⟩) | (go_at_call 28; refine (HF.out _ hb1).mono ?_; rintro e w2 ⟨rfl, hb2⟩; have d2 := bel_tr hb1 hb2) | (go_at_call 29; refine (HF2.out _ d2).mono ?_; rintro e w3 ⟨rfl, hb3⟩; have d3 := bel_tr d2 hb3) | (go_at_call 30; refine (HM.out _ d3).mono ?_; rintro e w4 ⟨p, m, x, rfl, hg4, hr4, hb4, _, _, _⟩; have d4 := bel_tr d3 hb4; have HG4 := Lib.hid hg4; have HR4 := Lib.hid hr4; clear hg4 hr4) | (go_at_call 31; refine (HC.out _ d4 p m HG4.out).mono ?_; rintro e w5 ⟨rfl, hb5⟩; have d5 := bel_tr d4 hb5) | (go_at_call 32; refine (HR.out _ d5 x (HR4.out.below hb5)).mono ?_; rintro e w6 ⟨rfl, hb6⟩; have d6 := bel_tr d5 hb6; have b46 := bel_tr hb5 hb6) | (go_at_call 33; refine (HO.out _ d6 p m (HG4.out.below b46)).mono ?_; rintro e w7 ⟨rfl, hb7⟩; have d7 := bel_tr d6 hb7; have b47 := bel_tr b46 hb7) | (go_at_call 34; refine (HL.out _ d7 x (HR4.out.below b47)).mono ?_; rintro e w8 ⟨rfl, hb8⟩))
        go_ret
        exact ⟨rfl, bel_tr d7 hb8⟩
      · have g1 : decide ((60 : Int) < (s.size : Int)) = true := by simp; omega
        clear h h2 hs hfew hfew2
        go_enter Tryd.func10, Tryd.ntmps10
        go_wp2_with (first | (go_at_call 25; refine HA.out.mono ?_; rintro e w1 ⟨rfl, hb1⟩) | (go_at_call 28; refine (HF.out _ hb1).mono ?_; rintro e w2 ⟨rfl, hb2⟩; have d2 := bel_tr hb1 hb2) | (go_at_call 29; refine (HF2.out _ d2).mono ?_; rintro e w3 ⟨rfl, hb3⟩; have d3 := bel_tr d2 hb3))
        go_ret
        exact ⟨rfl, d3⟩
    · have e2 : fewB rs = false := by simpa using hfew2
      rw [e2] at HF2
      clear h h2 hfew hfew2 e2
      go_enter Tryd.func10, Tryd.ntmps10
      go_wp2_with (first | (go_at_call 25; refine HA.out.mono ?_; rintro e w1 ⟨rfl, hb1⟩) | (go_at_call 28; refine (HF.out _ hb1).mono ?_; rintro e w2 ⟨rfl, hb2⟩; have d2 := bel_tr hb1 hb2) | (go_at_call 29; refine (HF2.out _ d2).mono ?_; rintro e w3 ⟨rfl, hb3⟩; have d3 := bel_tr d2 hb3))
      go_ret
      exact ⟨rfl, d3⟩
  · have e2 : few l = false := by simpa using hfew
    rw [e2] at HF
    clear h h2 hfew e2
    go_enter Tryd.func10, Tryd.ntmps10
    go_wp2_with (first | (go_at_call 25; refine HA.out.mono ?_; rintro e w1 ⟨rfl, hb1⟩) | (go_at_call 28; refine (HF.out _ hb1).mono ?_; rintro e w2 ⟨rfl, hb2⟩; have d2 := bel_tr hb1 hb2))
    go_ret
    exact ⟨rfl, d2⟩
theorem nameFinds_all (w : World) (A : Option Addr) (n k : Nat) (l : List CommitD) (h : CIn w A n l) (A2 : Option Addr) (n2 k2 : Nat) (rs : List RefD) (h2 : RefRowC w A2 n2 k2 rs) (id : Int) (hid : (Lit.int .u64 id).wf = true) (s : ByteArray) (_ : s.size ≤ 140737488351232) (hv : VarsOk w) :
    Calls Tryd.prog 10 #[.slice A n k, .slice A2 n2 k2, .int .u64 id, .string s] w fun e w' => e = .returned (.bool true) ∧ Below w.heap.size w w' := nameFinds_calls w A n k l h A2 n2 k2 rs h2 id (u64_wf hid) s hv
#print axioms nameFinds_all
end Go.Proofs.YtehneliphhgegaaDoor
