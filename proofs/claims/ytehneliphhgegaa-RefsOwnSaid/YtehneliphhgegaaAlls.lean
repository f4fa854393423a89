/- The refs of a table, told one by one in the order of their names: the iterator, and a caller that collects. -/
import Derived.Test.YtehneliphhgegaaKeysS
import Derived.Test.YtehneliphhgegaaSeqT
import Derived.Test.YtehneliphhgegaaRows2
import Derived.RangeFuncBox
import Derived.RangeFuncLeaves
import Derived.Shelf.Abstract
set_option linter.unusedVariables false
set_option linter.unusedSimpArgs false
set_option maxRecDepth 100000
namespace Go.Proofs.Ytehneliphhgegaa
open Go.RowKit Go.Apo Go.Shelf
attribute [local go_sem] Oper.semAt_some

def encR (r : RefD) : Array Value := #[.agg #[.string r.name, .bool r.tag, .int .u64 r.id]]
def allR (L : List (ByteArray × RefD)) : List RefD := (sortS (mkeys L)).map (rGet L)
theorem allR_len (L : List (ByteArray × RefD)) : (allR L).length = L.length := by unfold allR; rw [List.length_map, sortS_len]; simp [mkeys]
theorem rGet_mem {L : List (ByteArray × RefD)} {s : ByteArray} (h : s ∈ mkeys L) : mget L s = some (rGet L s) := by
  unfold rGet
  cases e : mget L s with
  | none => exact absurd h (mget_none.1 e)
  | some v => rfl
theorem grown_belowR {w w' : World} (hb : Below w.heap.size w w') : w.grownBy w' none := ⟨hb.os, hb.tape, hb.output, hb.size, fun i hi _ => hb.block i hi⟩
theorem flat_spanR {w w' : World} {B G : Nat} {A : Option Addr} {cs : List Value} (h : Flat w A cs) (hA : ∀ b off, A = some ⟨b, off, none⟩ → B ≤ b ∧ b < G) (hk : KeepsSpan B G w w') : Flat w' A cs := fun h0 => by
  obtain ⟨b, off, e, hc⟩ := h h0
  obtain ⟨h1, h2⟩ := hA b off e
  exact ⟨b, off, e, fun j u hj => (World.cell?_of_block (w := w) (a := ⟨b, off + j, none⟩) (hk.same b h1 h2)).trans (hc j u hj)⟩
theorem own_spanR {w : World} {base e size n k : Nat} {b off : Nat} {xs : List Value} (h : w.ownsRow base e size (.slice (some ⟨b, off, none⟩) n k) n xs) : base ≤ b ∧ b < w.heap.size := by
  rcases h.2 with ⟨h1, _⟩ | ⟨g, cap, cur, h1, h2, h3, _⟩
  · cases h1
  · simp only [Value.slice.injEq, Option.some.injEq, Addr.mk.injEq] at h1
    rw [h1.1.1]; exact ⟨h2, (Array.getElem?_eq_some_iff.1 h3).1⟩
theorem allF_calls (q : Option Addr) (w : World) :
    Calls Try.prog 81 #[.pointer q] w fun e w' => e = .returned (.func (.func 106) #[] #[.pointer (some ⟨w.heap.size, 0, none⟩)]) ∧ w' = w.alloc (.cells #[.pointer q] 29) := by
  go_enter Try.func81, Try.ntmps81
  go_wp2
  go_ret
  exact ⟨rfl, rfl⟩
set_option maxHeartbeats 4000000 in
theorem alls_fresh (n : Nat) (hn : 1 ≤ n) (w : World) (Bg p m : Nat) (L : List (ByteArray × RefD)) (hc : w.cell? ⟨Bg, 0, none⟩ = some (.pointer (some ⟨p, 0, none⟩))) (h : TableAt w p m L) (hL : L.length ≤ 1000000) (hw : ∀ k ∈ mkeys L, k.size ≤ 1000000) :
    SeqFreshT Fence.wide n Try.prog 106 #[.pointer (some ⟨Bg, 0, none⟩)] encR (fun xs => xs = allR L) (fun pre => pre <+: allR L) L.length (fun W => W.cell? ⟨Bg, 0, none⟩ = some (.pointer (some ⟨p, 0, none⟩)) ∧ TableAt W p m L) w := by
  intro l J Jx W hW hJ hJx hT hY h0
  show CallsIn Fence.wide n Try.prog _ #[.func (.yield l) #[] #[], .pointer (some ⟨Bg, 0, none⟩)] W _
  have hcW := cell_bel hc hW
  have hg := h.below hW
  have hp := hg.1
  have hlt := cell_lt hcW
  have hpt := cell_lt hp
  have HS := Lib.hid (fun Z (hz : Below W.heap.size W Z) => sortedR_calls Z (hg.below hz).2 hL hw)
  unfold SortedSPost at HS
  obtain ⟨S, hS⟩ : ∃ S, S = sortS (mkeys L) := ⟨_, rfl⟩
  have hall : allR L = S.map (rGet L) := by rw [hS]; rfl
  have hmem : ∀ s ∈ S, mget L s = some (rGet L s) := fun s hs => rGet_mem ((sortS_perm (mkeys L)).mem_iff.1 (by rw [← hS]; exact hs))
  have HM := Lib.hid hmem; clear hmem
  have hN : S.length = L.length := by rw [hS, sortS_len]; simp [mkeys]
  have hkl : (mkeys L).length = L.length := by simp [mkeys]
  rw [← hS, hkl] at HS
  rw [hall]
  obtain ⟨N, hNN⟩ : ∃ N, N = L.length := ⟨_, rfl⟩
  rw [← hNN] at hN hL hY HS
  clear hS hall hkl hNN
  have HN := Lib.hid hN; clear hN
  have HT := Lib.hid hT; clear hT
  have HJ := Lib.hid hJ; clear hJ
  have HY := Lib.hid hY; clear hY
  have H0 := Lib.hid h0; clear h0
  clear hJx h hc hg
  have f1 : Fence.wide.fn 74 := trivial
  have f2 : Fence.wide.fn 108 := trivial
  have f3 : Fence.wide.fn 107 := trivial
  refine callsIn_of_wp Try.func106 rfl trivial ?_ rfl
  simp only [Try.ntmps106, List.size_toArray, List.length_cons, List.length_nil, Nat.reduceAdd, Nat.reduceSub, Array.replicate_succ, Array.replicate_zero, List.push_toArray, List.append_toArray, List.nil_append, List.cons_append]
  gi_wp2_with (first
    | (gi_at_call 74; refine (callsIn_wide.2 (ok_yes p m _ hp)).mono ?_; rintro e w' ⟨rfl, rfl⟩)
    | (gi_at_call 108; refine (callsIn_wide.2 (keysR_calls _ _)).mono ?_; rintro e w' ⟨rfl, rfl⟩)
    | (gi_at_call 107; refine (callsIn_wide.2 (HS.out _ (Below.refl _ _))).mono ?_; rintro e w1 ⟨v, rfl, ho, hb⟩; obtain ⟨A, c, rfl, hc⟩ := own_form ho))
  have hbw : Below W.heap.size W w1 := bel_tr (bel_al0 (Below.refl _ W) _) hb
  obtain ⟨G, hG⟩ : ∃ G, G = w1.heap.size := ⟨_, rfl⟩
  have hA : ∀ b off, A = some ⟨b, off, none⟩ → W.heap.size ≤ b ∧ b < G := by
    rintro b off rfl
    obtain ⟨h1, h2⟩ := own_spanR ho
    simp at h1
    omega
  have hfl := own_flat ho
  have hGW : W.heap.size ≤ G := by rw [hG]; exact hbw.size
  have hj0 : J G [] w1 := HJ.out G [] W w1 none (H0.out G hGW) (grown_belowR hbw) (fun r e => by cases e)
  have HA := Lib.hid hA; clear hA
  have HF := Lib.hid hfl; clear hfl
  have HJ0 := Lib.hid hj0; clear hj0
  have hG1 : G ≤ w1.heap.size := by omega
  clear ho hc hb hbw hG HS
  gi_loopw [15, 4] (fun v _ wr => ∃ j : Nat, j ≤ N ∧ v = .int .i64 j ∧ Hid (J G ((S.map (rGet L)).take j) wr) ∧ Hid (Flat wr A (S.map Value.string)) ∧ G ≤ wr.heap.size) (fun v _ _ => N - (intOf v).toNat)
  case atStart => exact ⟨0, Nat.zero_le _, rfl, HJ0, HF, hG1⟩
  case round =>
    obtain ⟨j, hj, rfl, hJj, hFj, hGj⟩ := hrel
    by_cases hjn : j < N
    · obtain ⟨s, hs⟩ : ∃ s, S[j]? = some s := ⟨_, List.getElem?_eq_getElem (by rw [HN.out]; exact hjn)⟩
      have hsv : (S.map Value.string)[j]? = some (.string s) := by rw [List.getElem?_map, hs]; rfl
      have hrv : (S.map (rGet L))[j]? = some (rGet L s) := by rw [List.getElem?_map, hs]; rfl
      have hgs := HM.out s (List.mem_of_getElem? hs)
      obtain ⟨b, off, rfl, cj⟩ := hFj.out.at_ hsv
      have htk : (S.map (rGet L)).take (j + 1) = (S.map (rGet L)).take j ++ [rGet L s] := by rw [List.take_add_one, hrv]; rfl
      have hbl := cell_lt cj
      have HTK := Lib.hid htk.symm; clear htk
      obtain ⟨hcg, htab⟩ := HT.out G _ wr hJj.out
      have hpg := htab.1
      obtain ⟨vv, xx, q1, q2, q3⟩ : ∃ v x, mget L s = some v ∧ refIs wr v x ∧ ∀ ok, (Instr.lookup 97 (.map (some m)) (.string s) ok).run Try.prog wr = .ok (if ok then .tuple #[x, .bool true] else x) wr := by
        rcases htab.2.find keyS Try.underlying97 s with ⟨h1, _⟩ | h1
        · rw [hgs] at h1; cases h1
        · exact h1
      rw [hgs] at q1
      cases q1
      unfold refIs at q2
      subst q2
      have hlook := q3 false
      simp only [Bool.false_eq_true, if_false] at hlook
      clear q3 htab
      obtain ⟨fn, tmps, assign, body, hy, hR⟩ := HY.out G ((S.map (rGet L)).take j) (rGet L s) wr hGW hGj hJj.out (by rw [List.length_take, List.length_map, HN.out]; omega)
      unfold encR at hy
      clear hs hsv hrv hgs
      gi_wp2
      refine hR.mono ?_
      rintro e W' (⟨rfl, hJ', hk⟩ | ⟨rfl, hJx'⟩)
      · have hF' : Hid (Flat W' (some ⟨b, off, none⟩) (S.map Value.string)) := flat_spanR hFj.out HA.out hk
        have hJ2 : Hid (J G ((S.map (rGet L)).take (j + 1)) W') := by
          show J G _ W'
          rw [← HTK.out]; exact hJ'
        have hGW' : G ≤ W'.heap.size := Nat.le_trans hGj hk.size
        clear hJ' hk hy hR
        gi_wp2
        go_roundw
        case rel => exact ⟨j + 1, by omega, by go_num, hJ2, hF', hGW'⟩
        case measure => simp [intOf]; omega
      · clear hy hR
        gi_wp2
        refine bodyPost_ret (results_none rfl _ _ _) rfl ?_
        refine ⟨⟨_, rfl⟩, .inr ⟨G, _, ?_, hJx'⟩⟩
        rw [HTK.out]
        exact List.take_prefix _ _
    · have hjn' : j = N := by omega
      have htk : (S.map (rGet L)).take j = S.map (rGet L) := by rw [List.take_of_length_le]; rw [List.length_map, HN.out]; omega
      gi_wp2
      go_end0
      refine ⟨⟨_, rfl⟩, .inl ⟨G, _, rfl, ?_⟩⟩
      have := hJj.out
      rwa [htk] at this
end Go.Proofs.Ytehneliphhgegaa
