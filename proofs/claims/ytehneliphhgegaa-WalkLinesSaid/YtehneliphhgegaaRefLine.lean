/- The document's line of a commit, and whether one is an ancestor: walked once. -/
import Derived.Test.YtehneliphhgegaaLineAll
import Derived.Test.YtehneliphhgegaaRefReachAll
import Derived.Test.YtehneliphhgegaaReadCommits
set_option linter.unusedVariables false
set_option linter.unusedSimpArgs false
set_option maxRecDepth 100000
namespace Go.Proofs.Ytehneliphhgegaa
open Go.RowKit Go.Apo

theorem Sync.falls {L : List (Int × CommitD)} {R : List CommitD} (h : Sync L R) (hw : numsIn (mkeys L)) : Falls L := fun i c hc => ⟨(h.two i c hc).1, fun p hp => by
  obtain ⟨_, hlt, d, hd, _⟩ := h.pars i c hc p hp
  have h1 : (Lit.int .u64 p).wf = true := hw p (mem_keys.1 (by rw [hd]; rfl))
  have := (u64_wf h1)
  unfold u64ok at this
  omega⟩
theorem lineL_len {L : List (Int × CommitD)} {R : List CommitD} (h : Sync L R) (hF : Falls L) : ∀ (n : Nat) (i : Int), i.toNat ≤ n → (lineL L i).length ≤ (gGet L i).gen := by
  intro n
  induction n with
  | zero =>
    intro i hi
    cases hq : mget L i with
    | none => rw [lineL_none hq]; unfold gGet; rw [hq]; simp [CommitD.zero]
    | some c =>
      have hg := h.gens i c hq
      rw [gGet_at hq]
      cases hp : c.par with
      | nil => rw [lineL_end hq hp]; simp; omega
      | cons p ps => have := (hF i c hq).2 p (by rw [hp]; exact List.mem_cons_self); omega
  | succ n ih =>
    intro i hi
    cases hq : mget L i with
    | none => rw [lineL_none hq]; unfold gGet; rw [hq]; simp [CommitD.zero]
    | some c =>
      have hg := h.gens i c hq
      rw [gGet_at hq]
      cases hp : c.par with
      | nil => rw [lineL_end hq hp]; simp; omega
      | cons p ps =>
        have hlt := (hF i c hq).2 p (by rw [hp]; exact List.mem_cons_self)
        rw [lineL_on hq hp hlt]
        have h1 := ih p (by omega)
        obtain ⟨_, _, d, hd, hdg⟩ := h.pars i c hq p (by rw [hp]; exact List.mem_cons_self)
        rw [gGet_at hd] at h1
        simp only [List.length_cons]
        push_cast
        omega
theorem Sync.lineLen {L : List (Int × CommitD)} {R : List CommitD} (h : Sync L R) (hF : Falls L) (i : Int) : (lineL L i).length ≤ L.length := by
  have h1 := lineL_len h hF i.toNat i (Nat.le_refl _)
  cases hq : mget L i with
  | none => rw [lineL_none hq]; simp
  | some c =>
    rw [gGet_at hq] at h1
    have := (h.gens i c hq).2
    omega
/-- the line from a commit's first parent, or nothing -/
def lineP (L : List (Int × CommitD)) (c : CommitD) : List Int := match c.par with | [] => [] | p :: _ => lineL L p

theorem ris_calls (w : World) (x : Nat) (R : List CommitD) (h : RGraphAt w x R) (hR : R.length ≤ 90000) (h2 : ∀ i, (rPar R i).length ≤ 2) (hpar : ∀ c ∈ R, c.par.length ≤ 2) (old late : Int) :
    Calls Try.prog 56 #[.pointer (some ⟨x, 0, none⟩), .int .u64 old, .int .u64 late] w fun e w' => e = .returned (.bool (decide (old ∈ rreach R [late]))) ∧ Below w.heap.size w w' := by
  have HR := Lib.hid (rreach_calls (w.alloc (.cells #[.int .u64 late] 24)) x R (h.below (by (repeat (first | (with_reducible exact Below.refl _ _) | (with_reducible assumption) | (with_reducible refine bel_al0 ?_ _) | (with_reducible refine bel_set ?_ (by first | (simp; done) | (simp; omega)) _) | (with_reducible refine bel_dr ?_) | (with_reducible refine bel_drn ?_ _) | (with_reducible refine bel_tr ?_ (by assumption)))))) (by omega) h2 hpar (some ⟨w.heap.size, 0, none⟩) 1 1 [late] rfl (flat_one w late) (by omega))
  have hl : (rreach R [late]).length ≤ R.length := by unfold rreach; rw [List.length_reverse]; exact rmet_len R [late] 0
  unfold NumsOwn at HR
  obtain ⟨S, hS⟩ : ∃ S, S = rreach R [late] := ⟨_, rfl⟩
  rw [← hS] at HR hl ⊢
  clear hS h h2 hpar
  obtain ⟨n, hn⟩ : ∃ n, n = S.length := ⟨_, rfl⟩
  rw [← hn] at HR hl
  have HN := Lib.hid hn.symm; clear hn
  obtain ⟨b, hb⟩ : ∃ b, b = decide (old ∈ S) := ⟨_, rfl⟩
  rw [← hb]
  have HB := Lib.hid hb; clear hb
  go_enter Try.func56, Try.ntmps56
  go_wp2_with (first | (go_at_call 60; refine HR.out.mono ?_; rintro e w1 ⟨v1, rfl, ho1, hb1⟩; obtain ⟨A1, k1, rfl, _⟩ := own_form ho1; have hf1 := Lib.hid (own_flat ho1); clear ho1) | (go_at_call 79; refine (has_calls _ A1 n k1 S HN.out hf1.out (by omega) old).mono ?_; rw [← HB.out]; rintro e w' ⟨rfl, rfl⟩))
  go_ret
  exact ⟨rfl, by (repeat (first | (with_reducible exact Below.refl _ _) | (with_reducible assumption) | (with_reducible refine bel_al0 ?_ _) | (with_reducible refine bel_set ?_ (by first | (simp; done) | (simp; omega)) _) | (with_reducible refine bel_dr ?_) | (with_reducible refine bel_drn ?_ _) | (with_reducible refine bel_tr ?_ (by assumption))))⟩

set_option maxHeartbeats 8000000 in
theorem rline_calls (w : World) (x : Nat) (L : List (Int × CommitD)) (R : List CommitD) (h : RGraphAt w x R) (hsy : Sync L R) (hF : Falls L) (hz0 : mget L 0 = none) (hR : R.length ≤ 90000) (id : Int) :
    Calls Try.prog 70 #[.pointer (some ⟨x, 0, none⟩), .int .u64 id] w (NumsOwn w (lineL L id)) := by
  have HRG := Lib.hid h
  obtain ⟨A0, k0, hblk, _, _, _⟩ := h
  have hc := hblk.one.1; clear hblk
  have hcl := cell_lt hc
  have HG := Lib.hid (fun W (hW : Below w.heap.size w W) i => rget_calls w W x R HRG.out hW (by omega) i)
  have hbig := hsy.lineLen hF id
  obtain ⟨N, hN⟩ : ∃ N, N = R.length := ⟨_, rfl⟩
  rw [← hN] at hc hR
  rw [← hsy.len, ← hN] at hbig
  have HN := Lib.hid hN; clear hN
  have HSY := Lib.hid hsy; clear hsy
  have HFA := Lib.hid hF; clear hF
  have HZ0 := Lib.hid hz0; clear hz0
  obtain ⟨RES, hRES⟩ : ∃ RES, RES = lineL L id := ⟨_, rfl⟩
  rw [← hRES] at hbig ⊢
  have HRES := Lib.hid hRES; clear hRES
  unfold NumsOwn
  go_enter Try.func70, Try.ntmps70
  go_wp2
  go_loopw [6, 1, 5] (fun v6 v v5 wr => ∃ (i : Int) (pre : List Int) (np : Nat), v6 = .int .i64 np ∧ v = .int .u64 i ∧ np ≤ N ∧ Hid (RES = pre ++ lineL L i) ∧ Hid (np = pre.length) ∧ Hid (wr.ownsRow w.heap.size 24 1 v5 np (nums pre)) ∧ Below w.heap.size w wr) (fun v6 _ _ _ => N + 1 - (intOf v6).toNat)
  case atStart => exact ⟨id, [], 0, rfl, rfl, Nat.zero_le _, by show RES = [] ++ lineL L id; rw [HRES.out]; rfl, rfl, World.ownsRow_nil _ _ _ _, by (repeat (first | (with_reducible exact Below.refl _ _) | (with_reducible assumption) | (with_reducible refine bel_al0 ?_ _) | (with_reducible refine bel_set ?_ (by first | (simp; done) | (simp; omega)) _) | (with_reducible refine bel_dr ?_) | (with_reducible refine bel_drn ?_ _) | (with_reducible refine bel_tr ?_ (by assumption))))⟩
  case round =>
    obtain ⟨i, pre, np, rfl, rfl, hnN, hE, hnp, ho, hB⟩ := hrel
    have hcr := cell_bel hc hB
    have hclr := cell_lt hcr
    have HGi := Lib.hid (HG.out wr hB i)
    rw [HSY.out.same i] at HGi
    unfold GetPost at HGi
    have hlen : pre.length + (lineL L i).length ≤ N := by have := hE.out; rw [this, List.length_append] at hbig; exact hbig
    rw [← hnp.out] at hlen
    have hsz := hB.size
    cases hq : mget L i with
    | none =>
      rw [hq] at HGi
      have he := hE.out
      rw [lineL_none hq, List.append_nil] at he
      have HE2 := Lib.hid he
      clear hq he hlen
      simp only [Option.isSome_none, Option.getD_none] at HGi
      obtain ⟨c, hcz⟩ : ∃ c, c = CommitD.zero := ⟨_, rfl⟩
      rw [← hcz] at HGi
      clear hcz
      go_wp2_with (go_at_call 45; refine HGi.out.mono ?_; rintro e w5 ⟨A5, k5, rfl, _, _, hb5⟩)
      go_ret
      refine ⟨_, rfl, ?_, bel_tr hB (by (repeat (first | (with_reducible exact Below.refl _ _) | (with_reducible assumption) | (with_reducible refine bel_al0 ?_ _) | (with_reducible refine bel_set ?_ (by first | (simp; done) | (simp; omega)) _) | (with_reducible refine bel_dr ?_) | (with_reducible refine bel_drn ?_ _) | (with_reducible refine bel_tr ?_ (by assumption)))))⟩
      rw [HE2.out, ← hnp.out]
      exact own_below ho.out (by (repeat (first | (with_reducible exact Below.refl _ _) | (with_reducible assumption) | (with_reducible refine bel_al0 ?_ _) | (with_reducible refine bel_set ?_ (by first | (simp; done) | (simp; omega)) _) | (with_reducible refine bel_dr ?_) | (with_reducible refine bel_drn ?_ _) | (with_reducible refine bel_tr ?_ (by assumption)))))
    | some c =>
      rw [hq] at HGi
      simp only [Option.isSome_some, Option.getD_some] at HGi
      cases hps : c.par with
      | nil =>
        rw [hps] at HGi
        have he := hE.out
        rw [lineL_end hq hps] at he hlen
        have HE2 : Hid (RES = (pre ++ [i]) ++ lineL L 0) := by show _ = _; rw [lineL_none HZ0.out, he]; simp
        have hl2 : np + 1 ≤ N := by simpa using hlen
        clear hq he hps hlen
        simp only [List.length_nil] at HGi
        go_wp2_with (first | (go_at_call 45; refine HGi.out.mono ?_; rintro e w5 ⟨A5, k5, rfl, _, _, hb5⟩; have hbB := blk_new w5 #[.int .u64 c.id, .slice A5 0 k5, .int .u64 c.gen, .int .u64 c.root, .string c.text] 69; have hz5 : w.heap.size ≤ w5.heap.size := (by have := hb5.size; omega)) | (at_builtin; refine wpl_append rfl _ _ 50 rfl w.heap.size 24 _ 1 8 Try.underlying50 infoU64 rfl (by decide) _ np (nums pre) rfl (own_below ho.out (bel_al0 (bel_al0 hb5 _) _)) (some ⟨w5.heap.size + 1, 0, none⟩) 1 1 (nums [i]) rfl rfl (by have := flat_one (w5.alloc (.cells #[.int .u64 c.id, .slice A5 0 k5, .int .u64 c.gen, .int .u64 c.root, .string c.text] 69)) i; simpa using this) (nums_one _) (by unfold maxLen; omega) (by omega) (by simp; omega) ?_; intro v' w6 ho6 hg6 hat6; have hb6 : Below w.heap.size w w6 := grown_bel (bel_al0 (bel_al0 (bel_tr hB hb5) _) _) (Nat.le_refl _) hg6 (own_row_ge ho.out); have hz6 : w5.heap.size < w6.heap.size := (by have := hg6.size; simp at this; omega); have hbk := (hg6.block w5.heap.size (by simp; omega) (fun e => by have := (ho.out.lt _ e.symm).2; have := hb5.size; omega)).trans (hbB.al _); obtain ⟨x0, x1, x2, x3, x4, xf⟩ := Blk.five hbk; clear hbB))
        go_roundw
        case rel =>
          refine ⟨0, pre ++ [i], np + 1, by go_num, rfl, hl2, HE2, by show np + 1 = _; rw [List.length_append, hnp.out]; rfl, ?_, hb6⟩
          show World.ownsRow _ _ _ _ _ _ _
          rw [nums_app]
          exact ho6
        case measure => simp [intOf]; omega
      | cons p ps =>
        obtain ⟨hp2, hpf⟩ := HFA.out i c hq
        have hpl := hpf p (by rw [hps]; exact List.mem_cons_self)
        have he := hE.out
        rw [lineL_on hq hps hpl] at he hlen
        have HE2 : Hid (RES = (pre ++ [i]) ++ lineL L p) := by show _ = _; rw [he]; simp
        have hl2 : np + 1 ≤ N := by simp at hlen; omega
        rw [hps] at HGi hp2
        obtain ⟨nq, hnq⟩ : ∃ nq, nq = (p :: ps).length := ⟨_, rfl⟩
        have hnq1 : 0 < nq := by rw [hnq]; simp
        rw [← hnq] at HGi hp2
        have HP : Hid ((p :: ps)[0]? = some p) := rfl
        obtain ⟨pp, hpp⟩ : ∃ pp, pp = p :: ps := ⟨_, rfl⟩
        rw [← hpp] at HGi HP
        clear hq he hpf hps hlen hnq hpp hpl
        go_wp2_with (first | (go_at_call 45; refine HGi.out.mono ?_; rintro e w5 ⟨A5, k5, rfl, hf5, _, hb5⟩; obtain ⟨b5, off5, rfl, cp0⟩ := hf5.at_ (nums_at HP.out); clear hf5;  have hbB := blk_new w5 #[.int .u64 c.id, .slice (some ⟨b5, off5, none⟩) nq k5, .int .u64 c.gen, .int .u64 c.root, .string c.text] 69; have hz5 : w.heap.size ≤ w5.heap.size := (by have := hb5.size; omega)) | (at_builtin; refine wpl_append rfl _ _ 50 rfl w.heap.size 24 _ 1 8 Try.underlying50 infoU64 rfl (by decide) _ np (nums pre) rfl (own_below ho.out (bel_al0 (bel_al0 hb5 _) _)) (some ⟨w5.heap.size + 1, 0, none⟩) 1 1 (nums [i]) rfl rfl (by have := flat_one (w5.alloc (.cells #[.int .u64 c.id, .slice (some ⟨b5, off5, none⟩) nq k5, .int .u64 c.gen, .int .u64 c.root, .string c.text] 69)) i; simpa using this) (nums_one _) (by unfold maxLen; omega) (by omega) (by simp; omega) ?_; intro v' w6 ho6 hg6 hat6; have hb6 : Below w.heap.size w w6 := grown_bel (bel_al0 (bel_al0 (bel_tr hB hb5) _) _) (Nat.le_refl _) hg6 (own_row_ge ho.out); have hz6 : w5.heap.size < w6.heap.size := (by have := hg6.size; simp at this; omega); have hbk := (hg6.block w5.heap.size (by simp; omega) (fun e => by have := (ho.out.lt _ e.symm).2; have := hb5.size; omega)).trans (hbB.al _); obtain ⟨x0, x1, x2, x3, x4, xf⟩ := Blk.five hbk; clear hbB; have cp : w6.cell? ⟨b5, off5, none⟩ = some (.int .u64 p) := cell_bel cp0 hb6; have hbl5 : b5 < w6.heap.size := cell_lt cp))
        go_roundw
        case rel =>
          refine ⟨p, pre ++ [i], np + 1, by go_num, rfl, hl2, HE2, by show np + 1 = _; rw [List.length_append, hnp.out]; rfl, ?_, hb6⟩
          show World.ownsRow _ _ _ _ _ _ _
          rw [nums_app]
          exact ho6
        case measure => simp [intOf]; omega
end Go.Proofs.Ytehneliphhgegaa
