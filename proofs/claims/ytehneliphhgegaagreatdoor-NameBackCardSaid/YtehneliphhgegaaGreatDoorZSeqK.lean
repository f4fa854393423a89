/- A loop over an iterator whose rounds may be another iterator's: what such an iterator promises, and what a caller, or an iterator that ranges over it, makes of it. Over any program. -/
import Derived.Test.YtehneliphhgegaaGreatDoorZSeq
set_option linter.unusedVariables false
set_option linter.unusedSimpArgs false
namespace Go.Apo
open Go.RowKit

variable {F : Fence} {n : Nat} {P : Program}

/-- as SeqFresh: each round leaves the iterator's blocks, however it ends; it reads a table between two rounds; only the elements that come are told -/
def SeqK {α : Type} (F : Fence) (n : Nat) (P : Program) (g : Nat) (lb : Array Value) (encs : α → Array Value) (ALL : List α) (Tab : World → Prop) (w : World) : Prop :=
  ∀ (l : Nat) (J Jx : Nat → List α → World → Prop) (W : World), Below w.heap.size w W → (∀ G, OwnFrom W.heap.size (J G)) → (∀ G, OwnFrom W.heap.size (Jx G)) →
    (∀ G pre W1, J G pre W1 → Tab W1) →
    (∀ G pre x W1, W.heap.size ≤ G → G ≤ W1.heap.size → J G pre W1 → pre ++ [x] <+: ALL → YieldAt F (n - 1) P l (encs x) W1 fun e W' =>
      (e = .returned (.bool true) ∧ J G (pre ++ [x]) W' ∧ KeepsSpan W.heap.size G W1 W') ∨ (e = .returned (.bool false) ∧ Jx G (pre ++ [x]) W' ∧ KeepsSpan W.heap.size G W1 W')) →
    (∀ G, W.heap.size ≤ G → J G [] W) →
    CallsIn F n P g (#[.func (.yield l) #[] #[]] ++ lb) W fun e W' => (∃ v, e = .returned v) ∧ ((∃ G, J G ALL W') ∨ (∃ G pre, pre <+: ALL ∧ Jx G pre W'))

/-- how the body of a round may be left -/
def freshPostK {α : Type} (B G : Nat) (I : Nat → List α → World → Prop) (Ix : Nat → Code → List α → World → Prop) (xs : List α) (W : World) : Exit → Act → World → Prop
  | .normal, _, W' => KeepsSpan B G W W' ∧ I G xs W'
  | .ret, _, W' => KeepsSpan B G W W' ∧ Ix G .ret xs W'
  | .exit id, _, W' => KeepsSpan B G W W' ∧ Ix G (.exit id) xs W'
  | .goto t, _, W' => KeepsSpan B G W W' ∧ Ix G (.goto t) xs W'
  | .panic _, _, _ => False
  | .outgrown, _, _ => False

theorem wpIn_rangeFunc_K {α : Type} {g : Operand} {ps : Array Tmp} {assign body : Code} {Q : Exit → Act → World → Prop} {a : Act} {w : World}
    (hro : F.round = none) (h1 : 1 ≤ n) {gf : Nat} {lb : Array Value} (hg : a.eval g = .func (.func gf) #[] lb) (hFg : F.fn gf) (eg : ∀ args w, (callFunc gf args).run P w = .ok (.enter gf args) w)
    {encs : α → Array Value} {ALL : List α} {Tab : World → Prop} {w0 : World} (hseq : SeqK F (n - 1) P gf lb encs ALL Tab w0)
    (hb0 : Below w0.heap.size w0 w) (hps : ∀ x, (encs x).size = ps.size)
    (I : Nat → List α → World → Prop) (Ix : Nat → Code → List α → World → Prop) (hI : ∀ G, OwnFrom w.heap.size (I G)) (hIx : ∀ G c, OwnFrom w.heap.size (Ix G c)) (h0 : ∀ G, w.heap.size + 2 ≤ G → I G [] w) (hIT : ∀ G pre W, I G pre W → Tab W) (a₁ : α → Act)
    (hassign : ∀ (l : Nat) (x : α) (W : World) (K : Act → World → Prop), K (a₁ x) W →
      assign.wpIn (F.inRound l) (n - 1 - 1) P (Exit.then K (fun _ _ _ => False)) { tmps := (ps.zip (encs x)).foldl (fun t (p, v) => t.setIfInBounds p v) a.tmps, defers := [] } W)
    (hbody : ∀ (G l : Nat) (pre : List α) (x : α) (W : World), w.heap.size + 2 ≤ G → G ≤ W.heap.size → I G pre W → pre ++ [x] <+: ALL → body.wpIn (F.inRound l) (n - 1 - 1) P (freshPostK w.heap.size G I Ix (pre ++ [x]) W) (a₁ x) W)
    (hdone : ∀ (D G : Nat) (W : World), w.heap.size ≤ D → I G ALL W → W.heap[D]? = some (.deferred (some [])) → Q .normal { a with defers := { target := .collected D, args := #[] } :: a.defers } W)
    (hstop : ∀ (D G : Nat) (c : Code) (pre : List α) (W : World), w.heap.size ≤ D → pre <+: ALL → Ix G c pre W → W.heap[D]? = some (.deferred (some [])) → c.wpIn F n P Q { a with defers := { target := .collected D, args := #[] } :: a.defers } W) :
    (Code.rangeFunc g ps assign body).wpIn F n P Q a w := by
  refine wpIn_rangeFunc ?_
  intro fn hfn
  rw [hro]
  obtain ⟨rec, hrec⟩ : ∃ rec : LoopState → Option Code → Loop, rec = fun st pe => { state := st, pending := pe, fn, tmps := a.tmps, params := ps, assign, body, defers := w.heap.size } := ⟨_, rfl⟩
  obtain ⟨W1, hW1⟩ : ∃ W1, (w.alloc (.deferred (some []))).alloc (.loop (rec .ready none)) = W1 := ⟨_, rfl⟩
  have hz1 : W1.heap.size = w.heap.size + 2 := by rw [← hW1]; simp
  have hL1 : W1.heap[w.heap.size + 1]? = some (.loop (rec .ready none)) := by
    rw [← hW1]; have := World.alloc_heap_new (w.alloc (.deferred (some []))) (.loop (rec .ready none)); rwa [World.size_alloc] at this
  have hK1 : W1.heap[w.heap.size]? = some (.deferred (some [])) := by
    rw [← hW1]; exact (Below.heap_alloc _ _ _ (by simp)).trans (World.alloc_heap_new w _)
  have hI1 : ∀ G, w.heap.size + 2 ≤ G → I G [] W1 := fun G hG => by rw [← hW1]; exact (hI G).alloc _ ((hI G).alloc _ (h0 G hG))
  have hb1 : Below w0.heap.size w0 W1 := by
    rw [← hW1]; exact hb0.trans ((((Below.refl _ w).alloc (Nat.le_refl _) _).alloc (by simp) _).mono hb0.size)
  refine ⟨w.heap.size + 1, [{ target := .collected w.heap.size, args := #[] }], W1, { target := .fn (.func gf) lb, args := #[.func (.yield (w.heap.size + 1)) #[] #[]] }, W1, gf,
    #[.func (.yield (w.heap.size + 1)) #[] #[]] ++ lb, W1, ?_, ?_, ?_, ?_, fun _ => h1, ?_⟩
  · rw [← hW1, hrec]; exact run_enterLoop_outer _ _ _ _ _
  · simp only [resolve, hg]
    simp [go_sem]
  · intro f' hf'; simp [Target.leads] at hf'; subst hf'; exact hFg
  · simp [invoke, go_sem, eg]
  · have hnw : ∀ {A B : World} {row : Option Nat}, (∀ r, row = some r → W1.heap.size ≤ r ∧ ∃ o : Obj, A.heap[r]? = some o ∧ o.isCells = false) → (∀ r, row = some r → w.heap.size ≤ r ∧ ∃ o : Obj, A.heap[r]? = some o ∧ o.isCells = false) :=
      fun hr r e => by obtain ⟨hB, o, ho⟩ := hr r e; exact ⟨by omega, o, ho⟩
    have hlow : ∀ {A B : World} {row : Option Nat} {k : Nat} {o : Obj}, A.heap[k]? = some o → A.grownBy B row → (∀ r, row = some r → W1.heap.size ≤ r ∧ ∃ o : Obj, A.heap[r]? = some o ∧ o.isCells = false) → k < W1.heap.size → B.heap[k]? = some o :=
      fun hk hg' hr hlt => (hg'.block _ (Array.getElem?_eq_some_iff.1 hk).1 (fun e => by obtain ⟨hB, _⟩ := hr _ e.symm; omega)).trans hk
    refine (hseq (w.heap.size + 1)
      (fun G pre W => I G pre W ∧ W.heap[w.heap.size + 1]? = some (.loop (rec .ready none)) ∧ W.heap[w.heap.size]? = some (.deferred (some [])))
      (fun G pre W => ∃ c, Ix G c pre W ∧ W.heap[w.heap.size + 1]? = some (.loop (rec .done (some c))) ∧ W.heap[w.heap.size]? = some (.deferred (some [])))
      W1 hb1
      (fun G s A B row hs hg' hr => ⟨hI G s A B row hs.1 hg' (hnw (B := B) hr), hlow hs.2.1 hg' hr (by omega), hlow hs.2.2 hg' hr (by omega)⟩)
      (fun G s A B row hs hg' hr => by
        obtain ⟨c, hc, hl, hk⟩ := hs
        exact ⟨c, hIx G c s A B row hc hg' (hnw (B := B) hr), hlow hl hg' hr (by omega), hlow hk hg' hr (by omega)⟩)
      (fun G pre W hj => hIT G pre W hj.1) ?_ (fun G hG => ⟨hI1 G (by omega), hL1, hK1⟩)).mono ?_
    · rintro G pre x W hG hGW ⟨hi, hl, hk⟩ hlen
      have hlt : w.heap.size + 1 < W.heap.size := (Array.getElem?_eq_some_iff.1 hl).1
      have hy := run_yield (P := P) (args := encs x) hl (by rw [hrec]; exact hps x)
      rw [hrec] at hy
      refine ⟨fn, _, assign, body, hy, roundIn_of_wpIn hfn (hassign _ x W _ ⟨_, run_beginRound hl (by rw [hrec]), ?_⟩)⟩
      have hl2 : (W.putObj (w.heap.size + 1) (.loop { rec .ready none with state := .busy })).heap[w.heap.size + 1]? = some (.loop { rec .ready none with state := .busy }) := World.putObj_heap_same hlt
      have hk2 : (W.putObj (w.heap.size + 1) (.loop { rec .ready none with state := .busy })).heap[w.heap.size]? = some (.deferred (some [])) := (World.putObj_heap_other (by omega)).trans hk
      have hw2 : KeepsSpan W1.heap.size G W (W.putObj (w.heap.size + 1) (.loop { rec .ready none with state := .busy })) := KeepsSpan.putObj _ _ (by omega)
      refine wpIn_mono (hbody G _ pre x _ (by omega) (by simpa using hGW) ((hI G).putObj _ hi (by omega) hl rfl) hlen) ?_
      have fin : ∀ (jump : Option Code) (W3 : World), KeepsSpan w.heap.size G (W.putObj (w.heap.size + 1) (.loop { rec .ready none with state := .busy })) W3 →
          (Instr.endRound (w.heap.size + 1) jump).run P W3 = .ok (.bool jump.isNone) (W3.putObj (w.heap.size + 1) (.loop (rec (if jump.isNone then .ready else .done) jump))) ∧
          W3.heap[w.heap.size + 1]? = some (.loop { rec .ready none with state := .busy }) ∧
          (W3.putObj (w.heap.size + 1) (.loop (rec (if jump.isNone then .ready else .done) jump))).heap[w.heap.size + 1]? = some (.loop (rec (if jump.isNone then .ready else .done) jump)) ∧
          (W3.putObj (w.heap.size + 1) (.loop (rec (if jump.isNone then .ready else .done) jump))).heap[w.heap.size]? = some (.deferred (some [])) := fun jump W3 hk3 => by
        have hl3 := (hk3.same _ (by omega) (by omega)).trans hl2
        have := run_endRound (P := P) jump hl3
        rw [hrec] at this ⊢
        exact ⟨this, by rw [hrec] at hl3; exact hl3, World.putObj_heap_same (Array.getElem?_eq_some_iff.1 hl3).1, (World.putObj_heap_other (by omega)).trans ((hk3.same _ (Nat.le_refl _) (by omega)).trans hk2)⟩
      rintro e a3 W3 hp
      cases e with
      | normal =>
        obtain ⟨hk3, hi3⟩ := hp
        obtain ⟨hr, hl3, hl4, hk4⟩ := fin none W3 hk3
        have hkp3 : KeepsSpan W1.heap.size G _ W3 := ⟨hk3.size, fun k h1 h2 => hk3.same k (by omega) h2⟩
        exact ⟨_, _, hr, .inl ⟨rfl, ⟨(hI G).putObj _ hi3 (by omega) hl3 rfl, hl4, hk4⟩, (hw2.trans hkp3).trans (KeepsSpan.putObj _ _ (by omega))⟩⟩
      | ret =>
        obtain ⟨hk3, hi3⟩ := hp
        obtain ⟨hr, hl3, hl4, hk4⟩ := fin (some .ret) W3 hk3
        have hkp3 : KeepsSpan W1.heap.size G _ W3 := ⟨hk3.size, fun k h1 h2 => hk3.same k (by omega) h2⟩
        exact ⟨_, _, hr, .inr ⟨rfl, ⟨.ret, (hIx G _).putObj _ hi3 (by omega) hl3 rfl, hl4, hk4⟩, (hw2.trans hkp3).trans (KeepsSpan.putObj _ _ (by omega))⟩⟩
      | exit id =>
        obtain ⟨hk3, hi3⟩ := hp
        obtain ⟨hr, hl3, hl4, hk4⟩ := fin (some (.exit id)) W3 hk3
        have hkp3 : KeepsSpan W1.heap.size G _ W3 := ⟨hk3.size, fun k h1 h2 => hk3.same k (by omega) h2⟩
        exact ⟨_, _, hr, .inr ⟨rfl, ⟨.exit id, (hIx G _).putObj _ hi3 (by omega) hl3 rfl, hl4, hk4⟩, (hw2.trans hkp3).trans (KeepsSpan.putObj _ _ (by omega))⟩⟩
      | goto t =>
        obtain ⟨hk3, hi3⟩ := hp
        obtain ⟨hr, hl3, hl4, hk4⟩ := fin (some (.goto t)) W3 hk3
        have hkp3 : KeepsSpan W1.heap.size G _ W3 := ⟨hk3.size, fun k h1 h2 => hk3.same k (by omega) h2⟩
        exact ⟨_, _, hr, .inr ⟨rfl, ⟨.goto t, (hIx G _).putObj _ hi3 (by omega) hl3 rfl, hl4, hk4⟩, (hw2.trans hkp3).trans (KeepsSpan.putObj _ _ (by omega))⟩⟩
      | panic ch => exact hp.elim
      | outgrown => exact hp.elim
    · rintro e W2 ⟨⟨v, rfl⟩, (⟨G, hi, hl, hk⟩ | ⟨G, pre, hSp, c, hi, hl, hk⟩)⟩
      · exact ⟨none, _, by have := run_endLoop (P := P) hl (by rw [hrec]; simp); rw [hrec] at this; exact this, hdone _ G _ (Nat.le_refl _) ((hI G).putObj _ hi (by omega) hl rfl) ((World.putObj_heap_other (by omega)).trans hk)⟩
      · exact ⟨some c, _, by have := run_endLoop (P := P) hl (by rw [hrec]; simp); rw [hrec] at this; exact this, hstop _ G c pre _ (Nat.le_refl _) hSp ((hIx G c).putObj _ hi (by omega) hl rfl) ((World.putObj_heap_other (by omega)).trans hk)⟩
end Go.Apo
