/- The law GraphAdds, walked. -/
import Derived.Test.YtehneliphhgegaaIsAll
import Derived.Test.YtehneliphhgegaaRefFar
set_option linter.unusedVariables false
set_option linter.unusedSimpArgs false
set_option maxRecDepth 100000
namespace Go.Proofs.Ytehneliphhgegaa
open Go.RowKit Go.Apo

theorem made_keys (l : List CommitD) : ∀ k ∈ mkeys (madeL l), ∃ c ∈ l, c.id = k := by
  have : ∀ (l : List CommitD) (L : List (Int × CommitD)), ∀ k ∈ mkeys (l.foldl addL L), k ∈ mkeys L ∨ ∃ c ∈ l, c.id = k := by
    intro l
    induction l with
    | nil => intro L k hk; exact Or.inl hk
    | cons c l ih =>
      intro L k hk
      rcases ih (addL L c) k hk with h | ⟨d, hd, e⟩
      · unfold addL at h
        split at h
        · rcases mem_keys_mput.1 h with rfl | h
          · exact Or.inr ⟨c, List.mem_cons_self, rfl⟩
          · exact Or.inl h
        · exact Or.inl h
      · exact Or.inr ⟨d, List.mem_cons_of_mem _ hd, e⟩
  intro k hk
  rcases this l [] k hk with h | h
  · simp [mkeys] at h
  · exact h
theorem u64_wf_of {x : Int} (h : u64ok x) : (Lit.int .u64 x).wf = true := by
  unfold u64ok at h
  have h1 : IntKind.u64.min = 0 := by decide +kernel
  have h2 : IntKind.u64.max = 18446744073709551615 := by decide +kernel
  simp [Lit.wf, h1, h2]
  omega
theorem CIn.nums {w : World} {A : Option Addr} {n : Nat} {l : List CommitD} (h : CIn w A n l) : numsIn (mkeys (madeL l)) := fun k hk => by
  obtain ⟨c, hc, rfl⟩ := made_keys l k hk
  exact u64_wf_of (h.wf c hc).1

/-- the document's numbers of a graph -/
theorem rids_calls (w : World) (x : Nat) (R : List CommitD) (h : RGraphAt w x R) (hR : R.length ≤ 1000000) :
    Calls Try.prog 48 #[.pointer (some ⟨x, 0, none⟩)] w (NumsOwn w (R.map CommitD.id)) := by
  obtain ⟨A, k, hblk, hrow, hA, _⟩ := h
  have hc := hblk.one.1; clear hblk
  unfold NumsOwn
  rw [List.length_map]
  obtain ⟨n, hn⟩ : ∃ n, n = R.length := ⟨_, rfl⟩
  rw [← hn] at hc hR ⊢
  have HROW := Lib.hid hrow; clear hrow
  have HN := Lib.hid hn; clear hn hA
  have hxl := cell_lt hc
  go_enter Try.func48, Try.ntmps48
  go_wp2
  go_loopw [11, 3, 5] (fun v v3 _ wr => ∃ j : Nat, j ≤ n ∧ v = .int .i64 j ∧ Hid (wr.ownsRow w.heap.size 24 1 v3 j (nums ((R.take j).map CommitD.id))) ∧ Below w.heap.size w wr) (fun v _ _ _ => n - (intOf v).toNat)
  case atStart => exact ⟨0, Nat.zero_le _, rfl, World.ownsRow_nil _ _ _ _, by (repeat (first | (with_reducible exact Below.refl _ _) | (with_reducible assumption) | (with_reducible refine bel_al0 ?_ _) | (with_reducible refine bel_set ?_ (by first | (simp; done) | (simp; omega)) _) | (with_reducible refine bel_dr ?_) | (with_reducible refine bel_drn ?_ _) | (with_reducible refine bel_tr ?_ (by assumption))))⟩
  case round =>
    obtain ⟨j, hj, rfl, ho, hB⟩ := hrel
    by_cases hlt : j < n
    · obtain ⟨c, hcj⟩ : ∃ c, R[j]? = some c := ⟨_, List.getElem?_eq_getElem (by rw [← HN.out]; exact hlt)⟩
      obtain ⟨b, off, A', k', rfl, c0, c1, c2, c3, c4, _⟩ := HROW.out.at_ hcj
      replace c0 := cell_bel c0 hB
      replace c1 := cell_bel c1 hB
      replace c2 := cell_bel c2 hB
      replace c3 := cell_bel c3 hB
      replace c4 := cell_bel c4 hB
      have htk : (R.take (j + 1)).map CommitD.id = (R.take j).map CommitD.id ++ [c.id] := by rw [List.take_add_one, hcj]; simp
      have HTK := Lib.hid htk; clear htk hcj
      obtain ⟨is, his⟩ : ∃ is, is = (R.take j).map CommitD.id := ⟨_, rfl⟩
      rw [← his] at ho HTK
      clear his
      have hsz := hB.size
      go_wp2_with (at_builtin; refine wpl_append rfl _ _ 50 rfl w.heap.size 24 _ 1 8 Try.underlying50 infoU64 rfl (by decide) _ j (nums is) rfl (own_below ho.out (bel_al0 (bel_al0 (Below.refl _ _) _) _)) (some ⟨wr.heap.size + 1, 0, none⟩) 1 1 (nums [c.id]) rfl rfl (by have := flat_one (wr.alloc (.cells #[.int .u64 c.id, .slice A' c.par.length k', .int .u64 c.gen, .int .u64 c.root, .string c.text] 69)) c.id; simpa using this) (nums_one _) (by unfold maxLen; omega) (by omega) (by simp; omega) ?_; intro v' w6 ho6 hg6 hat6)
      have hb6 : Below w.heap.size w w6 := grown_bel (bel_al0 (bel_al0 hB _) _) (Nat.le_refl _) hg6 (own_row_ge ho.out)
      go_roundw
      case rel =>
        refine ⟨j + 1, by omega, by go_num, ?_, hb6⟩
        show World.ownsRow _ _ _ _ _ _ _
        rw [HTK.out, nums_app]
        exact ho6
      case measure => simp [intOf]; omega
    · have hjn : j = n := by omega
      have htk : R.take j = R := by rw [List.take_of_length_le]; have := HN.out; omega
      rw [htk, hjn] at ho
      go_wp2
      go_ret
      exact ⟨_, rfl, ho.out, hB⟩
theorem pw_eq : ∀ {a b : List Int}, a.Pairwise (· < ·) → b.Pairwise (· < ·) → (∀ x, x ∈ a ↔ x ∈ b) → a = b
  | [], [], _, _, _ => rfl
  | [], y :: b, _, _, h => by have := (h y).2 List.mem_cons_self; cases this
  | x :: a, [], _, _, h => by have := (h x).1 List.mem_cons_self; cases this
  | x :: a, y :: b, ha, hb, h => by
    rw [List.pairwise_cons] at ha hb
    have hxy : x = y := by
      rcases List.mem_cons.1 ((h x).1 List.mem_cons_self) with e | e
      · exact e
      · rcases List.mem_cons.1 ((h y).2 List.mem_cons_self) with e' | e'
        · exact e'.symm
        · have := ha.1 y e'; have := hb.1 x e; omega
    subst hxy
    congr 1
    refine pw_eq ha.2 hb.2 (fun z => ⟨fun hz => ?_, fun hz => ?_⟩)
    · rcases List.mem_cons.1 ((h z).1 (List.mem_cons_of_mem _ hz)) with e | e
      · subst e; have := ha.1 z hz; omega
      · exact e
    · rcases List.mem_cons.1 ((h z).2 (List.mem_cons_of_mem _ hz)) with e | e
      · subst e; have := hb.1 z hz; omega
      · exact e
theorem pw_lt_of {a : List Int} (h : a.Pairwise (· ≤ ·)) (hn : a.Nodup) : a.Pairwise (· < ·) :=
  (List.pairwise_and_iff.2 ⟨h, hn⟩).imp (fun ⟨h1, h2⟩ => by omega)
theorem sortI_lt {l : List Int} (hn : l.Nodup) : (sortI l).Pairwise (· < ·) := pw_lt_of (sortI_pw l) ((sortI_perm l).nodup_iff.2 hn)
theorem rFind_mem' {R : List CommitD} {i : Int} : (rFind R i).isSome = true ↔ i ∈ R.map CommitD.id := by
  unfold rFind
  rw [List.find?_isSome]
  simp only [List.mem_map, beq_iff_eq]
theorem sync_ids {L : List (Int × CommitD)} {R : List CommitD} (h : Sync L R) : sortI (mkeys L) = R.map CommitD.id := by
  refine pw_eq (sortI_lt h.nodup) (List.pairwise_map.2 h.sorted) (fun x => ?_)
  rw [mem_sortI, ← mem_keys, ← rFind_mem', h.same]

theorem sameCommit_yes (w : World) (i g r : Int) (t : ByteArray) (A B : Option Addr) (n k k' : Nat) (ps : List Int) (hn : ps.length = n) (hA : Flat w A (nums ps)) (hB : Flat w B (nums ps)) (hl : n ≤ 1000000) :
    Calls Try.prog 46 #[.agg #[.int .u64 i, .slice A n k, .int .u64 g, .int .u64 r, .string t], .agg #[.int .u64 i, .slice B n k', .int .u64 g, .int .u64 r, .string t]] w fun e w' => e = .returned (.bool true) ∧ Below w.heap.size w w' := by
  have HS := Lib.hid (fun W (hW : Below w.heap.size w W) => same_calls W A B n n k k' ps ps hn hn (hA.below hW) (hB.below hW) (by omega) (by omega))
  have hcc : decide (ps = ps) = true := by simp
  rw [hcc] at HS
  clear hcc hA hB hn
  go_enter Try.func46, Try.ntmps46
  go_wp2_with (go_at_call 29; refine (HS.out _ ?_).mono ?_; (repeat (first | (with_reducible exact Below.refl _ _) | (with_reducible assumption) | (with_reducible refine bel_al0 ?_ _) | (with_reducible refine bel_set ?_ (by first | (simp; done) | (simp; omega)) _) | (with_reducible refine bel_dr ?_) | (with_reducible refine bel_drn ?_ _) | (with_reducible refine bel_tr ?_ (by assumption)))); rintro e w1 ⟨rfl, hb1⟩; have B0 := ((blk_new w _ _).al _).below hb1; have B1 := (blk_new _ _ _).below hb1; simp only [World.size_alloc] at B1; obtain ⟨x0, x1, x2, x3, x4, xf⟩ := B0.five; obtain ⟨y0, y1, y2, y3, y4, yf⟩ := B1.five; clear B0 B1; have hz1 : w.heap.size + 1 < w1.heap.size := (by have := hb1.size; simp at this; omega))
  go_ret
  exact ⟨rfl, by (repeat (first | (with_reducible exact Below.refl _ _) | (with_reducible assumption) | (with_reducible refine bel_al0 ?_ _) | (with_reducible refine bel_set ?_ (by first | (simp; done) | (simp; omega)) _) | (with_reducible refine bel_dr ?_) | (with_reducible refine bel_drn ?_ _) | (with_reducible refine bel_tr ?_ (by assumption))))⟩
end Go.Proofs.Ytehneliphhgegaa
