/- The order of all ancestors: walked once. · In the order of all commits each stands behind its parents, and once: in plain Lean. -/
import Derived.Test.YtehneliphhgegaaHeapUp
import Derived.Test.YtehneliphhgegaaRefReachAll
section
set_option linter.unusedVariables false
set_option linter.unusedSimpArgs false
set_option maxRecDepth 100000
namespace Go.Proofs.Ytehneliphhgegaa
open Go.RowKit Go.Apo Go.Shelf

def CP (n : Nat) (f : Nat → Ent) : List CommitD := (List.range n).map fun k => (f k).c
theorem CP_perm {n : Nat} {f f' : Nat → Ent} (h : PermN n f f') : (CP n f').Perm (CP n f) := by
  have := List.Perm.map Ent.c h
  rw [List.map_map, List.map_map] at this
  exact this
theorem CP_upd (n : Nat) (f : Nat → Ent) (e : Ent) : CP (n + 1) (upd f n e) = CP n f ++ [e.c] := by
  unfold CP
  rw [List.range_succ, List.map_append]
  congr 1
  · refine List.map_congr_left fun k hk => ?_
    have := List.mem_range.1 hk
    unfold upd
    rw [if_neg (by omega)]
  · simp [upd]
theorem CP_mem {n : Nat} {f : Nat → Ent} {k : Nat} (h : k < n) : (f k).c ∈ CP n f := List.mem_map.2 ⟨k, List.mem_range.2 h, rfl⟩
def Rises (l : List CommitD) : Prop := l.Pairwise fun a b => ltQ b a = false
/-- what the order is: all of them, none ahead of a lesser one -/
def TopoPost (w : World) (L : List (Int × CommitD)) (S : List Int) (r : Ending) (w' : World) : Prop :=
  ∃ (v : Value) (cs : List CommitD), r = .returned v ∧ w'.ownsRow w.heap.size 24 1 v cs.length (nums (cs.map CommitD.id)) ∧ cs.Perm (S.map (gGet L)) ∧ Rises cs ∧ Below w.heap.size w w'
/-- between two rounds of the second loop -/
def Pops (L : List (Int × CommitD)) (S : List Int) (m : Nat) (f : Nat → Ent) (cs : List CommitD) : Prop :=
  (cs ++ CP m f).Perm (S.map (gGet L)) ∧ Rises cs ∧ ∀ a ∈ cs, ∀ k, k < m → ltQ (f k).c a = false
theorem Pops.pop {L : List (Int × CommitD)} {S : List Int} {m : Nat} {f f' : Nat → Ent} {cs : List CommitD} (h : Pops L S (m + 1) f cs) (hh : IsHeap ltE (m + 1) f) (hp : ((f 0) :: (List.range m).map f').Perm ((List.range (m + 1)).map f)) :
    Pops L S m f' (cs ++ [(f 0).c]) := by
  obtain ⟨h1, h2, h3⟩ := h
  have hpc : ((f 0).c :: CP m f').Perm (CP (m + 1) f) := by
    have := List.Perm.map Ent.c hp
    rw [List.map_cons, List.map_map, List.map_map] at this
    exact this
  have hin : ∀ k, k < m → ∃ k', k' < m + 1 ∧ f' k = f k' := fun k hk => by
    have : f' k ∈ (List.range (m + 1)).map f := hp.mem_iff.1 (List.mem_cons_of_mem _ (List.mem_map.2 ⟨k, List.mem_range.2 hk, rfl⟩))
    obtain ⟨k', hk', e⟩ := List.mem_map.1 this
    exact ⟨k', List.mem_range.1 hk', e.symm⟩
  have hmin := hh.least ordQ
  refine ⟨?_, ?_, fun a ha k hk => ?_⟩
  · rw [List.append_assoc]
    exact (List.Perm.append_left cs hpc).trans h1
  · unfold Rises
    rw [List.pairwise_append]
    refine ⟨h2, List.pairwise_singleton _ _, fun a ha b hb => ?_⟩
    rw [List.mem_singleton] at hb; subst hb
    exact h3 a ha 0 (by omega)
  · obtain ⟨k', hk', e⟩ := hin k hk
    rw [e]
    rcases List.mem_append.1 ha with ha | ha
    · exact h3 a ha k' hk'
    · rw [List.mem_singleton] at ha; subst ha
      exact hmin k' hk'

theorem own_but2 {w w' : World} {base e size n h g : Nat} {v : Value} {xs : List Value} (ho : w.ownsRow base e size v n xs) (hb : But2 h g w w') (h1 : h < base) (h2 : g < base) : w'.ownsRow base e size v n xs := by
  refine ⟨ho.1, ?_⟩
  rcases ho.2 with hh | ⟨b, cap, cur, rfl, hb0, hg, rest⟩
  · exact Or.inl hh
  · exact Or.inr ⟨b, cap, cur, rfl, hb0, (hb.block b (Array.getElem?_eq_some_iff.1 hg).1 (by omega) (by omega)).trans hg, rest⟩
theorem HQ.grown {t : TypeId} {w w' : World} {h g cap n : Nat} {f : Nat → Ent} {row : Option Nat} (q : HQ t w h g cap n f) (hg : w.grownBy w' row) (hr : ∀ r, row = some r → r ≠ h ∧ r ≠ g) : HQ t w' h g cap n f := by
  refine ⟨(hg.block h q.1.lt (fun e => (hr h e.symm).1 rfl)).trans q.1, ?_, q.2.2⟩
  obtain ⟨cur, h1, h2⟩ := q.2.1
  exact ⟨cur, (hg.block g h1.lt (fun e => (hr g e.symm).2 rfl)).trans h1, h2⟩
theorem But2.grown {h g : Nat} {a b c : World} {row : Option Nat} (x : But2 h g a b) (hg : b.grownBy c row) (hr : ∀ r, row = some r → a.heap.size ≤ r) : But2 h g a c :=
  ⟨hg.os.trans x.os, hg.tape.trans x.tape, hg.output.trans x.output, Nat.le_trans x.size hg.size, fun k hk h1 h2 => (hg.block k (Nat.lt_of_lt_of_le hk x.size) (fun e => by have := hr k e.symm; omega)).trans (x.block k hk h1 h2)⟩
set_option maxHeartbeats 8000000 in
theorem topo_calls (w : World) (gq : Option Addr) (L : List (Int × CommitD)) (h : GP w gq L) (hO : LOk L) (hL : L.length ≤ 80000) (hw : numsIn (mkeys L)) (A : Option Addr) (n k : Nat) (ids : List Int) (hn : ids.length = n) (hf : Flat w A (nums ids)) (hA : A = none → ids = []) (hn2 : n ≤ 100000) :
    Calls Try.prog 64 #[.pointer gq, .slice A n k] w (TopoPost w L (reachL L ids)) := by
  have HR := Lib.hid (fun W (hW : Below w.heap.size w W) => N.Reach_calls W gq L (h.below hW) hO (by omega) hw A n k ids hn (hf.below hW) hA hn2)
  have hlen := reachL_len hO ids
  have HG := Lib.hid (fun W (hW : Below w.heap.size w W) i => gp_get gq W L (h.below hW) i)
  obtain ⟨S, hS⟩ : ∃ S, S = reachL L ids := ⟨_, rfl⟩
  rw [← hS] at HR hlen ⊢
  clear hS h hO hw hf hA hn
  unfold NumsOwn at HR
  unfold GetOwn at HG
  obtain ⟨ns, hns⟩ : ∃ ns, ns = S.length := ⟨_, rfl⟩
  rw [← hns] at HR hlen
  have HNS := Lib.hid hns; clear hns
  have hbq : Below w.heap.size w ((w.alloc (.cells #[] 69)).alloc (.cells #[.slice (some ⟨w.heap.size, 0, none⟩) 0 0] 131)) := by (repeat (first | (with_reducible exact Below.refl _ _) | (with_reducible assumption) | (with_reducible refine bel_al0 ?_ _) | (with_reducible refine bel_set ?_ (by first | (simp; done) | (simp; omega)) _) | (with_reducible refine bel_dr ?_) | (with_reducible refine bel_drn ?_ _) | (with_reducible refine bel_tr ?_ (by assumption))))
  have hQ0 : HQ 131 ((w.alloc (.cells #[] 69)).alloc (.cells #[.slice (some ⟨w.heap.size, 0, none⟩) 0 0] 131)) (w.heap.size + 1) w.heap.size 0 0 (fun _ => ⟨CommitD.zero, none, 0⟩) := by
    refine ⟨?_, ⟨#[], (blk_new w _ _).al _, rfl, Nat.le_refl _, Nat.zero_le _, fun j hj => by omega⟩, by omega⟩
    have := blk_new (w.alloc (.cells #[] 69)) #[.slice (some ⟨w.heap.size, 0, none⟩) 0 0] 131
    rw [World.size_alloc] at this
    exact this
  have HQ0 := Lib.hid hQ0; clear hQ0
  go_enter Try.func64, Try.ntmps64
  go_wp2_with (go_at_call 59; refine (HR.out _ hbq).mono ?_; rintro e w1 ⟨v1, rfl, ho1, hb1⟩; obtain ⟨A1, k1, rfl, _⟩ := own_form ho1)
  have hQ1 := Lib.hid (HQ0.out.below hb1)
  have hrw1 := own_row_ge ho1
  have hlt1 : ∀ b, (Value.slice A1 ns k1).ownBlock = some b → b < w1.heap.size := fun b hb => (ho1.lt b hb).2
  have HF1 := Lib.hid (own_flat ho1); clear ho1
  have hbw : Below w.heap.size w w1 := hbq.trans (hb1.mono hbq.size)
  have hz1 : w.heap.size + 2 ≤ w1.heap.size := by have := hb1.size; simp at this; omega
  obtain ⟨z, hz⟩ : ∃ z, z = w.heap.size := ⟨_, rfl⟩
  have hA1 : Hid (∀ b off, A1 = some ⟨b, off, none⟩ → z + 2 ≤ b ∧ b < w1.heap.size) := fun b off e => by
    subst e
    have h1 := hrw1 b rfl
    have h2 := hlt1 b rfl
    simp at h1
    omega
  rw [← hz] at hQ1 hz1 ⊢
  have HZ := Lib.hid hz
  have HBW := Lib.hid hbw
  clear hrw1 hlt1 hbq hb1 hz hbw
  go_loopw [19] (fun v wr => ∃ (j g cap : Nat) (f : Nat → Ent), j ≤ ns ∧ v = .int .i64 j ∧ Hid (HQ 131 wr (z + 1) g cap j f) ∧ Hid (IsHeap ltE j f) ∧ Hid ((CP j f).Perm ((S.take j).map (gGet L))) ∧ Hid (But2 (z + 1) z w1 wr) ∧ Hid (g = z ∨ w1.heap.size ≤ g)) (fun v _ => ns - (intOf v).toNat)
  case atStart => exact ⟨0, z, 0, _, Nat.zero_le _, rfl, hQ1, IsHeap.zero, List.Perm.refl _, But2.refl _ _ _, Or.inl rfl⟩
  case round =>
    obtain ⟨j, g, cap, f, hj, rfl, hQ, hH, hC, hB, hg⟩ := hrel
    obtain ⟨wo, rfl⟩ : ∃ wo : World, wo = wr := ⟨_, rfl⟩
    have hbo : Hid (Below w.heap.size w wo) := But2.below HBW.out (Nat.le_refl _) (by have := HZ.out; omega) (by have := HZ.out; omega) hB.out
    by_cases hlt : j < ns
    · obtain ⟨id, hid⟩ : ∃ id, S[j]? = some id := ⟨_, List.getElem?_eq_getElem (by rw [← HNS.out]; exact hlt)⟩
      obtain ⟨b, off, rfl, cj⟩ := HF1.out.at_ (nums_at hid)
      obtain ⟨hb0, hb1⟩ := hA1.out b off rfl
      replace cj := (World.cell?_of_block (w := w1) (a := ⟨b, off + j, none⟩) (hB.out.block b hb1 (by omega) (by omega))).trans cj
      have hbl := cell_lt cj
      have htk : Hid ((S.take (j + 1)).map (gGet L) = (S.take j).map (gGet L) ++ [gGet L id]) := by show _ = _; rw [List.take_add_one, hid]; simp
      have HGi := Lib.hid (HG.out wo hbo.out id)
      obtain ⟨c, hc⟩ : ∃ c, c = gGet L id := ⟨_, rfl⟩
      rw [← hc] at HGi htk
      clear hid hc
      go_wp2_with (first | (go_at_call 44; refine HGi.out.mono ?_; rintro e w5 ⟨A5, k5, rfl, ho5, hb5⟩; clear ho5; have hb6 : Below wo.heap.size wo (w5.alloc (.cells #[.int .u64 c.id, .slice A5 c.par.length k5, .int .u64 c.gen, .int .u64 c.root, .string c.text] 69)) := bel_al0 hb5 _; have HPU := Lib.hid (hpush_calls _ (z + 1) g cap j f (hQ.out.below hb6) (by omega) hH.out ⟨c, A5, k5⟩); have HB6 := Lib.hid hb6; clear hb6) | (go_at_call 96; refine HPU.out.mono ?_; rintro e w7 ⟨rfl, g7, cap7, f7, hq7, hh7, hp7, hb7, hg7⟩; have HQ7 := Lib.hid hq7; clear hq7; have HH7 := Lib.hid hh7; clear hh7; have HP7 := Lib.hid hp7; clear hp7; have HB7 := Lib.hid hb7; clear hb7; have HG7 := Lib.hid hg7; clear hg7))
      go_roundw
      case rel =>
        refine ⟨j + 1, g7, cap7, f7, by omega, by go_num, HQ7.out, HH7.out, ?_, ?_, ?_⟩
        · show List.Perm _ _
          rw [htk.out]
          refine (CP_perm HP7.out).trans ?_
          rw [CP_upd]
          exact List.Perm.append_right _ hC.out
        · exact (hB.out.trans (But2.of_below HB6.out)).later hg.out HB7.out
        · show g7 = z ∨ w1.heap.size ≤ g7
          have h1 := hB.out.size
          have h2 := HB6.out.size
          rcases HG7.out with e | e
          · rw [e]; exact hg.out
          · right; omega
      case measure => simp [intOf]; omega
    · have hj' : j = ns := by omega
      have htk : S.take j = S := by rw [List.take_of_length_le]; have := HNS.out; omega
      have hP0 : Hid (Pops L S j f []) := ⟨by rw [List.nil_append]; rw [htk] at hC; exact hC.out, List.Pairwise.nil, fun a ha => by cases ha⟩
      clear htk hC hj'
      go_wp2_with fail
      have hgb : z ≤ g ∧ g < wo.heap.size ∧ z + 1 < wo.heap.size := ⟨by rcases hg.out with e | e <;> omega, hQ.out.2.1.lt, hQ.out.1.lt⟩
      have HGB := Lib.hid hgb; clear hgb
      have hta := assertC
      go_loopg [35, 10] ns (fun gg v v10 w' => ∃ (m cap : Nat) (f : Nat → Ent) (cs : List CommitD), m ≤ gg ∧ m + cs.length ≤ ns ∧ Hid (HQ 131 w' (z + 1) g cap m f) ∧ Hid (IsHeap ltE m f) ∧ Hid (Pops L S m f cs) ∧ Hid (w'.ownsRow wo.heap.size 24 1 v10 cs.length (nums (cs.map CommitD.id))) ∧ Hid (But2 (z + 1) g wo w'))
      case atStart => exact ⟨j, cap, f, [], by omega, by simp; omega, hQ, hH, hP0, World.ownsRow_nil _ _ _ _, But2.refl _ _ _⟩
      case round =>
        obtain ⟨m, cap, f, cs, hmg, hml, hQ2, hH2, hP2, ho2, hB2⟩ := hrel
        have hc := hQ2.out.1.one.1
        have hlt2 : z + 1 < wr.heap.size := cell_lt hc
        have hgz := hB2.out.size
        obtain ⟨ncs, hncs⟩ : ∃ ncs, ncs = cs.length := ⟨_, rfl⟩
        rw [← hncs] at ho2 hml
        have HNCS := Lib.hid hncs; clear hncs
        cases m with
        | zero =>
          go_wp2_with (go_at_call 99; refine (qlen_calls _ _ _ _).mono ?_; rintro e w2 ⟨rfl, hb2⟩)
          have hpp := hP2.out.1
          rw [show CP 0 f = [] from rfl, List.append_nil] at hpp
          have hwz := HZ.out
          have hgb := HGB.out
          refine bodyPost_ret (results_tmp rfl _ _ _) rfl ?_
          refine ⟨_, cs, rfl, ?_, hpp, hP2.out.2.1, But2.below hbo.out (Nat.le_refl _) (by omega) (by omega) (hB2.out.trans (But2.of_below hb2))⟩
          rw [← HNCS.out]
          exact own_mono (own_below ho2.out hb2) hbo.out.size
        | succ m =>
          have HPO := Lib.hid (fun w2 (hb : Below wr.heap.size wr w2) => hpop_calls w2 (z + 1) g cap m f (hQ2.out.below hb) (by omega) hH2.out)
          unfold PopPost at HPO
          obtain ⟨c, hcf⟩ : ∃ c, c = (f 0).c := ⟨_, rfl⟩
          obtain ⟨fa, hfa⟩ : ∃ fa, fa = (f 0).a := ⟨_, rfl⟩
          obtain ⟨fk, hfk⟩ : ∃ fk, fk = (f 0).k := ⟨_, rfl⟩
          rw [← hcf, ← hfa, ← hfk] at HPO
          have HCF := Lib.hid hcf
          clear hcf hfa hfk
          have hmpos : (0 : Int) < (m : Int) + 1 := by omega
          go_wp2_with (first | (go_at_call 99; refine (qlen_calls _ _ _ _).mono ?_; rintro e w2 ⟨rfl, hb2⟩) | (go_at_call 98; refine (HPO.out _ hb2).mono ?_; rintro e w3 ⟨f3, rfl, hq3, hh3, hp3, hb3⟩; have HQ3 := Lib.hid hq3; clear hq3; have HH3 := Lib.hid hh3; clear hh3; have HP3 := Lib.hid hp3; clear hp3; have HB3 := Lib.hid hb3; clear hb3; have hz3 : wo.heap.size ≤ w3.heap.size := (Nat.le_trans hgz (Nat.le_trans hb2.size HB3.out.size)); have HO3 := Lib.hid (own_but2 (own_below ho2.out hb2) HB3.out HGB.out.2.2 HGB.out.2.1)) | (at_builtin; refine wpl_append rfl _ _ 50 rfl wo.heap.size 24 _ 1 8 Try.underlying50 infoU64 rfl (by decide) _ ncs (nums (cs.map CommitD.id)) rfl (own_below HO3.out (bel_al0 (bel_al0 (Below.refl _ _) _) _)) (some ⟨w3.heap.size + 1, 0, none⟩) 1 1 (nums [c.id]) rfl rfl (by have := flat_one (w3.alloc (.cells #[.int .u64 c.id, .slice fa c.par.length fk, .int .u64 c.gen, .int .u64 c.root, .string c.text] 69)) c.id; simpa using this) (nums_one _) (by unfold maxLen; omega) (by omega) (by simp; omega) ?_; intro v' w6 ho6 hg6 hat6; have HG6 := Lib.hid hg6; clear hg6; have HO6 := Lib.hid ho6; clear ho6; clear hat6))
          go_roundg m
          case measure => omega
          case rel =>
            have hrow : ∀ r, _ = some r → wo.heap.size ≤ r := own_row_ge HO3.out
            have hal : But2 (z + 1) g wo ((w3.alloc (.cells #[.int .u64 c.id, .slice fa c.par.length fk, .int .u64 c.gen, .int .u64 c.root, .string c.text] 69)).alloc (.cells #[.int .u64 c.id] 24)) := (hB2.out.trans (But2.of_below hb2)).trans (HB3.out.trans (But2.of_below (bel_al0 (bel_al0 (Below.refl _ _) _) _)))
            have hgb := HGB.out
            refine ⟨m, cap, f3, cs ++ [c], Nat.le_refl _, by rw [List.length_append, ← HNCS.out]; simp; omega, ?_, HH3.out, ?_, ?_, ?_⟩
            · exact (HQ3.out.below (bel_al0 (bel_al0 (Below.refl _ _) _) _)).grown HG6.out (fun r hr => by have := hrow r hr; omega)
            · have := hP2.out.pop hH2.out HP3.out
              rw [← HCF.out] at this
              exact this
            · show World.ownsRow _ _ _ _ _ _ _
              rw [List.map_append, List.map_cons, List.map_nil, nums_app, List.length_append, ← HNCS.out]
              exact HO6.out
            · exact hal.grown HG6.out hrow
end Go.Proofs.Ytehneliphhgegaa
end
section
set_option linter.unusedVariables false
set_option linter.unusedSimpArgs false
namespace Go.Proofs.Ytehneliphhgegaa
open Go.RowKit Go.Apo

def hits (ps : List Int) (k : Int) : Nat := (ps.filter fun p => p == k).length
def ahead (l ps : List Int) : Nat := (l.map (hits ps)).sum
theorem ahead_snoc (l ps : List Int) (k : Int) : ahead (l ++ [k]) ps = ahead l ps + hits ps k := by unfold ahead; simp
theorem hits_snoc (ps : List Int) (p k : Int) : hits (ps ++ [p]) k = if p == k then hits ps k + 1 else hits ps k := by
  unfold hits
  rw [List.filter_append]
  cases h : (p == k) <;> simp [h]
theorem hits_le (ps : List Int) (k : Int) : hits ps k ≤ ps.length := List.length_filter_le _ _
theorem ahead_nil (l : List Int) : ahead l [] = 0 := by
  unfold ahead
  induction l with
  | nil => rfl
  | cons a l ih => rw [List.map_cons, List.sum_cons, ih]; rfl
theorem ahead_cons (p : Int) (ps : List Int) : ∀ l : List Int, ahead l (p :: ps) = l.count p + ahead l ps
  | [] => by simp [ahead]
  | a :: l => by
    have ih := ahead_cons p ps l
    unfold ahead at ih ⊢
    rw [List.map_cons, List.sum_cons, ih, List.map_cons, List.sum_cons, List.count_cons]
    have e : hits (p :: ps) a = (if (a == p) = true then 1 else 0) + hits ps a := by
      unfold hits
      rw [List.filter_cons]
      by_cases h : p = a
      · subst h; simp; omega
      · have h1 : (p == a) = false := by simpa using h
        have h2 : (a == p) = false := by simpa using fun e => h e.symm
        simp [h1, h2]
    rw [e]; omega
theorem ahead_all {l : List Int} : ∀ {ps : List Int}, (∀ p ∈ ps, l.count p = 1) → ahead l ps = ps.length
  | [], _ => ahead_nil l
  | p :: ps, h => by
    rw [ahead_cons, h p List.mem_cons_self, ahead_all (fun q hq => h q (List.mem_cons_of_mem _ hq)), List.length_cons]
    omega
theorem ahead_le (l ps : List Int) : ahead l ps ≤ l.length * ps.length := by
  induction l with
  | nil => simp [ahead]
  | cons a l ih =>
    have := hits_le ps a
    unfold ahead at ih ⊢
    rw [List.map_cons, List.sum_cons, List.length_cons, Nat.succ_mul]
    omega
theorem count_one {p : Int} : ∀ {l : List Int}, l.Nodup → p ∈ l → l.count p = 1
  | a :: l, hn, hp => by
    rw [List.nodup_cons] at hn
    rw [List.count_cons]
    by_cases e : a = p
    · subst e
      rw [List.count_eq_zero_of_not_mem hn.1]; simp
    · have e2 : (a == p) = false := by simpa using e
      rw [e2]
      rcases List.mem_cons.1 hp with rfl | hp
      · exact absurd rfl e
      · rw [count_one hn.2 hp]; simp
structure TopoIs (L : List (Int × CommitD)) (order : List Int) : Prop where
  there : ∀ (i : Nat) (x : Int), order[i]? = some x → (mget L x).isSome = true
  once : ∀ (i q : Nat) (x y : Int), q < i → order[i]? = some x → order[q]? = some y → y ≠ x
  behind : ∀ (i : Nat) (x : Int), order[i]? = some x → ahead (order.take i) (gGet L x).par = (gGet L x).par.length
theorem topo_is {L : List (Int × CommitD)} {R : List CommitD} (h : Sync L R) (hO : LOk L) (ids : List Int) {cs : List CommitD} (hp : cs.Perm ((reachL L ids).map (gGet L))) (hr : Rises cs) : TopoIs L (cs.map CommitD.id) := by
  have hmem : ∀ x, x ∈ reachL L ids ↔ ∃ i ∈ ids, Anc L x i := fun x => by unfold reachL; rw [mem_sortI, mem_reachS hO]
  have hsome : ∀ x ∈ reachL L ids, (mget L x).isSome = true := fun x hx => by obtain ⟨i, _, ha⟩ := (hmem x).1 hx; exact ha.of
  have hcs : ∀ c ∈ cs, ∃ x ∈ reachL L ids, c = gGet L x ∧ c.id = x := fun c hc => by
    obtain ⟨x, hx, rfl⟩ := List.mem_map.1 (hp.mem_iff.1 hc)
    obtain ⟨d, hd⟩ := Option.isSome_iff_exists.1 (hsome x hx)
    exact ⟨x, hx, rfl, by rw [gGet_at hd]; exact h.ids x d hd⟩
  have hids : (cs.map CommitD.id).Perm (reachL L ids) := by
    have h1 := List.Perm.map CommitD.id hp
    rw [List.map_map] at h1
    have h2 : (reachL L ids).map (CommitD.id ∘ gGet L) = reachL L ids := by
      conv => rhs; rw [← List.map_id (reachL L ids)]
      refine List.map_congr_left fun x hx => ?_
      obtain ⟨d, hd⟩ := Option.isSome_iff_exists.1 (hsome x hx)
      show (gGet L x).id = x
      rw [gGet_at hd]; exact h.ids x d hd
    rw [h2] at h1
    exact h1
  have hnd : (cs.map CommitD.id).Nodup := hids.nodup_iff.2 (by unfold reachL; exact (sortI_perm _).nodup_iff.2 (reachS_ok hO ids).nodup)
  have hat : ∀ (i : Nat) (x : Int), (cs.map CommitD.id)[i]? = some x → cs[i]? = some (gGet L x) ∧ x ∈ reachL L ids := fun i x hx => by
    rw [List.getElem?_map, Option.map_eq_some_iff] at hx
    obtain ⟨c, hc, rfl⟩ := hx
    obtain ⟨y, hy, e1, e2⟩ := hcs c (List.mem_of_getElem? hc)
    rw [e2]
    exact ⟨by rw [hc, e1], hy⟩
  refine ⟨fun i x hx => hsome x (hat i x hx).2, fun i q x y hq hx hy e => ?_, fun i x hx => ahead_all fun p hpp => ?_⟩
  · subst e
    obtain ⟨p1, p2⟩ := List.getElem?_eq_some_iff.1 hx
    obtain ⟨p3, p4⟩ := List.getElem?_eq_some_iff.1 hy
    have := List.pairwise_iff_getElem.1 (List.nodup_iff_pairwise_ne.1 hnd) q i p3 p1 hq
    exact this (by rw [p2, p4])
  · obtain ⟨hci, hxm⟩ := hat i x hx
    obtain ⟨c, hc⟩ := Option.isSome_iff_exists.1 (hsome x hxm)
    rw [gGet_at hc] at hpp hci
    obtain ⟨_, _, d, hd, hlt⟩ := h.pars x c hc p hpp
    have hpm : p ∈ cs.map CommitD.id := hids.mem_iff.2 ((hmem p).2 (by
      obtain ⟨j, hj, ha⟩ := (hmem x).1 hxm
      exact ⟨j, hj, (Anc.up hc hpp (.self (by rw [hd]; rfl))).trans ha⟩))
    obtain ⟨q, hq⟩ := List.mem_iff_getElem?.1 hpm
    have hcq := (hat q p hq).1
    rw [gGet_at hd] at hcq
    have hqi : q < i := by
      rcases Nat.lt_trichotomy q i with h' | h' | h'
      · exact h'
      · subst h'; rw [hcq] at hci; cases hci; omega
      · exfalso
        obtain ⟨p1, p2⟩ := List.getElem?_eq_some_iff.1 hci
        obtain ⟨p3, p4⟩ := List.getElem?_eq_some_iff.1 hcq
        have := List.pairwise_iff_getElem.1 hr i q p1 p3 h'
        rw [p2, p4, ltQ_no] at this
        omega
    have hin : p ∈ (cs.map CommitD.id).take i := List.mem_iff_getElem?.2 ⟨q, by rw [List.getElem?_take_of_lt hqi]; exact hq⟩
    exact count_one (hnd.sublist (List.take_sublist _ _)) hin
end Go.Proofs.Ytehneliphhgegaa
end
