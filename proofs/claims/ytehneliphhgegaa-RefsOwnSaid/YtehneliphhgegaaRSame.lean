/- SameRefs of the document, and how many refs a table has: walked once. -/
import Derived.Test.YtehneliphhgegaaRDrop
set_option linter.unusedVariables false
set_option linter.unusedSimpArgs false
set_option maxRecDepth 100000
namespace Go.Proofs.Ytehneliphhgegaa
open Go.RowKit Go.Apo

instance decRefD : DecidableEq RefD := fun a b =>
  if h : a.name = b.name ∧ a.tag = b.tag ∧ a.id = b.id then isTrue (by cases a; cases b; simp only at h; obtain ⟨rfl, rfl, rfl⟩ := h; rfl) else isFalse (fun e => h (by subst e; exact ⟨rfl, rfl, rfl⟩))
theorem flat_ref {w : World} {A : Option Addr} {l : List RefD} (h : Flat w A (refCells l)) {j : Nat} {r : RefD} (hj : l[j]? = some r) :
    ∃ g off, A = some ⟨g, off, none⟩ ∧ w.cell? ⟨g, off + j * 3, none⟩ = some (.string r.name) ∧ w.cell? ⟨g, off + j * 3 + 1, none⟩ = some (.bool r.tag) ∧ w.cell? ⟨g, off + j * 3 + 2, none⟩ = some (.int .u64 r.id) := by
  obtain ⟨h1, h2, h3⟩ := refCells_at hj
  have hl := (List.getElem?_eq_some_iff.1 h1).1
  obtain ⟨g, off, e, hc⟩ := h (by omega)
  exact ⟨g, off, e, hc _ _ h1, by have := hc _ _ h2; rwa [← Nat.add_assoc] at this, by have := hc _ _ h3; rwa [← Nat.add_assoc] at this⟩
set_option maxHeartbeats 8000000 in
theorem same_calls (w : World) (A A' : Option Addr) (n c n' c' : Nat) (l l' : List RefD) (hn : n = l.length) (hn' : n' = l'.length) (hl : n ≤ 1000000) (hl' : n' ≤ 1000000) (hf : Flat w A (refCells l)) (hf' : Flat w A' (refCells l')) :
    Calls Try.prog 37 #[.slice A n c, .slice A' n' c'] w fun e w' => e = .returned (.bool (decide (l = l'))) ∧ Below w.heap.size w w' := by
  by_cases hnn : n = n'
  · subst hnn
    have HN := Lib.hid hn
    have HN' := Lib.hid hn'
    have HF := Lib.hid hf
    have HF' := Lib.hid hf'
    clear hn hn' hf hf' hl'
    go_enter Try.func37, Try.ntmps37
    go_wp2
    go_loopw [13, 5] (fun v _ wr => ∃ j : Nat, j ≤ n ∧ v = .int .i64 j ∧ Hid (l.take j = l'.take j) ∧ Below w.heap.size w wr) (fun v _ _ => n - (intOf v).toNat)
    case atStart => exact ⟨0, Nat.zero_le _, rfl, rfl, by (repeat (first | (with_reducible exact Below.refl _ _) | (with_reducible assumption) | (with_reducible refine bel_al0 ?_ _) | (with_reducible refine bel_set ?_ (by first | (simp; done) | (simp; omega)) _) | (with_reducible refine bel_dr ?_) | (with_reducible refine bel_drn ?_ _) | (with_reducible refine bel_tr ?_ (by assumption))))⟩
    case round =>
      obtain ⟨j, hj, rfl, hok, hB⟩ := hrel
      by_cases hlt : j < n
      · obtain ⟨r, hr⟩ : ∃ r, l[j]? = some r := ⟨_, List.getElem?_eq_getElem (by rw [← HN.out]; exact hlt)⟩
        obtain ⟨r', hr'⟩ : ∃ r, l'[j]? = some r := ⟨_, List.getElem?_eq_getElem (by rw [← HN'.out]; exact hlt)⟩
        obtain ⟨g, off, rfl, c0, c1, c2⟩ := flat_ref HF.out hr
        obtain ⟨g', off', rfl, d0, d1, d2⟩ := flat_ref HF'.out hr'
        replace c0 := cell_bel c0 hB
        replace c1 := cell_bel c1 hB
        replace c2 := cell_bel c2 hB
        replace d0 := cell_bel d0 hB
        replace d1 := cell_bel d1 hB
        replace d2 := cell_bel d2 hB
        have hdiff : r ≠ r' → decide (l = l') = false := fun h => by
          simp only [decide_eq_false_iff_not]
          rintro rfl
          rw [hr] at hr'
          cases hr'
          exact h rfl
        have hsame : r = r' → Hid (l.take (j + 1) = l'.take (j + 1)) := fun h => by
          show l.take (j + 1) = l'.take (j + 1)
          subst h
          rw [List.take_add_one, List.take_add_one, hok, hr, hr']
        have HD := Lib.hid hdiff
        have HS := Lib.hid hsame
        clear hr hr' hdiff hsame
        obtain ⟨rn, rt, ri⟩ := r
        obtain ⟨sn, st, si⟩ := r'
        simp only at c0 c1 c2 d0 d1 d2
        by_cases h1 : rn = sn
        · subst h1
          by_cases h2 : rt = st
          · subst h2
            by_cases h3 : ri = si
            · subst h3
              have hs := HS.out rfl
              clear HD HS
              go_wp2
              go_quiet (fail)
              go_wp2
              go_roundw
              case rel => exact ⟨j + 1, by omega, by go_num, hs, by (repeat (first | (with_reducible exact Below.refl _ _) | (with_reducible assumption) | (with_reducible refine bel_al0 ?_ _) | (with_reducible refine bel_set ?_ (by first | (simp; done) | (simp; omega)) _) | (with_reducible refine bel_dr ?_) | (with_reducible refine bel_drn ?_ _) | (with_reducible refine bel_tr ?_ (by assumption))))⟩
              case measure => simp [intOf]; omega
            · have hd := Lib.hid (HD.out (fun e => h3 (by cases e; rfl)))
              have f1 : (ri == si) = false := by simpa using h3
              have f2 : decide (ri = si) = false := by simpa using h3
              clear HD HS
              go_wp2
              go_quiet (fail)
              go_wp2
              go_ret
              exact ⟨by rw [hd.out]; rfl, by (repeat (first | (with_reducible exact Below.refl _ _) | (with_reducible assumption) | (with_reducible refine bel_al0 ?_ _) | (with_reducible refine bel_set ?_ (by first | (simp; done) | (simp; omega)) _) | (with_reducible refine bel_dr ?_) | (with_reducible refine bel_drn ?_ _) | (with_reducible refine bel_tr ?_ (by assumption))))⟩
          · have hd := Lib.hid (HD.out (fun e => h2 (by cases e; rfl)))
            have f1 : (rt == st) = false := by simpa using h2
            have f2 : decide (rt = st) = false := by simpa using h2
            clear HD HS
            go_wp2
            go_quiet (fail)
            go_wp2
            go_ret
            exact ⟨by rw [hd.out]; rfl, by (repeat (first | (with_reducible exact Below.refl _ _) | (with_reducible assumption) | (with_reducible refine bel_al0 ?_ _) | (with_reducible refine bel_set ?_ (by first | (simp; done) | (simp; omega)) _) | (with_reducible refine bel_dr ?_) | (with_reducible refine bel_drn ?_ _) | (with_reducible refine bel_tr ?_ (by assumption))))⟩
        · have hd := Lib.hid (HD.out (fun e => h1 (by cases e; rfl)))
          have f1 := text_ne h1
          clear HD HS
          go_wp2
          go_quiet (fail)
          go_wp2
          go_ret
          exact ⟨by rw [hd.out]; rfl, by (repeat (first | (with_reducible exact Below.refl _ _) | (with_reducible assumption) | (with_reducible refine bel_al0 ?_ _) | (with_reducible refine bel_set ?_ (by first | (simp; done) | (simp; omega)) _) | (with_reducible refine bel_dr ?_) | (with_reducible refine bel_drn ?_ _) | (with_reducible refine bel_tr ?_ (by assumption))))⟩
      · have hall : decide (l = l') = true := by
          have h1 := hok.out
          rw [List.take_of_length_le (by rw [← HN.out]; omega), List.take_of_length_le (by rw [← HN'.out]; omega)] at h1
          simpa using h1
        have HALL := Lib.hid hall; clear hall
        go_wp2
        go_ret
        exact ⟨by rw [HALL.out]; rfl, hB⟩
  · have hd : decide (l = l') = false := by
      simp only [decide_eq_false_iff_not]
      rintro rfl
      exact hnn (hn.trans hn'.symm)
    have HD := Lib.hid hd
    have g1 : ((n : Int) == (n' : Int)) = false := by simp; omega
    have g2 : ((n : Int) != (n' : Int)) = true := by simp; omega
    clear hn hn' hd hf hf'
    go_enter Try.func37, Try.ntmps37
    go_wp2
    go_ret
    exact ⟨by rw [HD.out]; rfl, by (repeat (first | (with_reducible exact Below.refl _ _) | (with_reducible assumption) | (with_reducible refine bel_al0 ?_ _) | (with_reducible refine bel_set ?_ (by first | (simp; done) | (simp; omega)) _) | (with_reducible refine bel_dr ?_) | (with_reducible refine bel_drn ?_ _) | (with_reducible refine bel_tr ?_ (by assumption))))⟩
theorem len16_calls (p m : Nat) (w : World) (L : List (ByteArray × RefD)) (h : TableAt w p m L) :
    Calls Try.prog 39 #[.pointer (some ⟨p, 0, none⟩)] w fun e w' => e = .returned (.int .i64 L.length) ∧ w = w' := by
  have hc := h.1
  have hln := fun ty => h.2.len (P := Try.prog) 97 ty Try.underlying97
  obtain ⟨n, hn⟩ : ∃ n, n = L.length := ⟨_, rfl⟩
  rw [← hn] at hln ⊢
  clear hn
  go_enter Try.func39, Try.ntmps39
  go_wp2_with (go_at_call 74; refine (ok_yes p m _ hc).mono ?_; rintro e w' ⟨rfl, rfl⟩)
  go_ret
  exact ⟨rfl, rfl⟩
end Go.Proofs.Ytehneliphhgegaa
