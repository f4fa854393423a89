/- What a commit of a graph is called, and the commit of a name, in plain words. -/
import Derived.Test.YtehneliphhgegaaGreatDoorZKDSplit
import Derived.Test.YtehneliphhgegaaGreatDoorZGRest
import Derived.Test.YtehneliphhgegaaGreatDoorBase
import Derived.Test.YtehneliphhgegaaGreatDoorDFmt
import Derived.Test.YtehneliphhgegaaGreatDoorDName
import Derived.Test.YtehneliphhgegaaGreatDoorDRead
import Derived.Test.YtehneliphhgegaaGreatDoorRows2
import Derived.Test.YtehneliphhgegaaGreatDoorZGGraphAll
import Derived.Test.YtehneliphhgegaaGreatDoorZGMadeAll
import Derived.Test.YtehneliphhgegaaGreatDoorZGRefGraphAll
import Derived.Test.YtehneliphhgegaaGreatDoorZKDRef
import Derived.Test.YtehneliphhgegaaGreatDoorZKDCut
set_option linter.unusedVariables false
set_option linter.unusedSimpArgs false
set_option maxRecDepth 100000
namespace Go.Proofs.YtehneliphhgegaaGreatDoor
open Go.RowKit Go.Apo

/-- the first ref of a name -/
def firstR (l : List RefD) (s : ByteArray) : Option RefD := l.find? (fun r => decide (r.name = s))
/-- where it stands; -1: there is none -/
def posR (l : List RefD) (s : ByteArray) : Int := match l.findIdx? (fun r => decide (r.name = s)) with
  | some k => k
  | none => -1
theorem posR_at {l : List RefD} {s : ByteArray} {k : Nat} {r : RefD} (h : l[k]? = some r) (hn : r.name = s) (hb : ∀ j r', j < k → l[j]? = some r' → r'.name ≠ s) : posR l s = k := by
  have : l.findIdx? (fun r => decide (r.name = s)) = some k := by
    obtain ⟨hk, he⟩ := List.getElem?_eq_some_iff.1 h
    rw [List.findIdx?_eq_some_iff_getElem]
    refine ⟨hk, by simpa [he] using hn, fun j hj => ?_⟩
    have hjl : j < l.length := by omega
    simpa using hb j _ hj (List.getElem?_eq_getElem hjl)
  unfold posR
  rw [this]
theorem posR_no {l : List RefD} {s : ByteArray} (h : ∀ (j : Nat) r, l[j]? = some r → r.name ≠ s) : posR l s = -1 := by
  have : l.findIdx? (fun r => decide (r.name = s)) = none := by
    rw [List.findIdx?_eq_none_iff]
    intro r hr
    obtain ⟨j, hj⟩ := List.mem_iff_getElem?.1 hr
    simpa using h j r hj
  unfold posR
  rw [this]
theorem posR_cases (l : List RefD) (s : ByteArray) : (posR l s = -1 ∧ firstR l s = none ∧ ∀ (j : Nat) r, l[j]? = some r → r.name ≠ s) ∨ ∃ (k : Nat) (r : RefD), posR l s = k ∧ l[k]? = some r ∧ r.name = s ∧ firstR l s = some r ∧ ∀ (j : Nat) r', j < k → l[j]? = some r' → r'.name ≠ s := by
  cases h : l.findIdx? (fun r => decide (r.name = s)) with
  | none =>
    have h2 : ∀ (j : Nat) r, l[j]? = some r → r.name ≠ s := fun j r hj => by
      rw [List.findIdx?_eq_none_iff] at h
      simpa using h r (List.mem_of_getElem? hj)
    refine Or.inl ⟨posR_no h2, ?_, h2⟩
    unfold firstR
    rw [List.find?_eq_none]
    intro r hr
    obtain ⟨j, hj⟩ := List.mem_iff_getElem?.1 hr
    simpa using h2 j r hj
  | some k =>
    rw [List.findIdx?_eq_some_iff_getElem] at h
    obtain ⟨hk, he, hb⟩ := h
    have hb' : ∀ (j : Nat) r', j < k → l[j]? = some r' → r'.name ≠ s := fun j r' hj hr' => by
      have := hb j hj
      rw [List.getElem?_eq_getElem (by omega)] at hr'
      cases hr'
      simpa using this
    have he' : (l[k]).name = s := by simpa using he
    refine Or.inr ⟨k, l[k], posR_at (List.getElem?_eq_getElem hk) he' hb', List.getElem?_eq_getElem hk, he', ?_, hb'⟩
    unfold firstR
    rw [List.find?_eq_some_iff_getElem]
    exact ⟨by simpa using he', k, hk, rfl, fun j hj => by simpa using hb j hj⟩
/-- the commit of a name among some refs -/
def namedO (l : List RefD) (s : ByteArray) : Option Int := (firstR l s).map (·.id)
def namedV : Option Int → Int × Bool
  | none => (0, false)
  | some i => (i, true)
def idT (v : Int × Bool) : Value := .tuple #[.int .u64 v.1, .bool v.2]
/-- the commit with which a name's line begins -/
def startO (l : List RefD) (v : ByteArray × Nat × Bool) : Option Int := if v.1 = ⟨#[]⟩ then some (v.2.1 : Int) else namedO l v.1
def atO (L : List (Int × CommitD)) (n : Nat) : Option Int → Option Int
  | none => none
  | some i => (lineL L i)[n]?
/-- the commit of a name -/
def findO (L : List (Int × CommitD)) (l : List RefD) (s : ByteArray) : Option Int :=
  if (splitV s).2.2 = false then none else atO L (splitV s).2.1 (startO l (refV (splitV s).1))
theorem split_size (s : ByteArray) : (splitV s).1.size ≤ s.size := by
  have := (cutV_size s).1
  unfold splitV
  split
  · exact Nat.zero_le _
  · split
    · exact this
    · cases stepsV (cutV s).2.1 with
      | none => exact Nat.zero_le _
      | some n => exact this
theorem split_steps {s : ByteArray} : (splitV s).2.1 ≤ 1000000 := by
  unfold splitV
  split
  · exact Nat.zero_le _
  · split
    · exact Nat.zero_le _
    · cases h : stepsV (cutV s).2.1 with
      | none => exact Nat.zero_le _
      | some n =>
        show n ≤ 1000000
        exact (steps_yes h).2.2

/-- a way from a ref to a commit -/
abbrev Way := ByteArray × Nat
def wayLess (a b : Way) : Bool := if a.2 = b.2 then Op.bytesLess a.1.toList b.1.toList else decide (a.2 < b.2)
def stepW : Option Way → Way → Option Way
  | none, w => some w
  | some b, w => if wayLess w b = true then some w else some b
def bestW (l : List Way) : Option Way := l.foldl stepW none
theorem bestW_snoc (l : List Way) (w : Way) : bestW (l ++ [w]) = stepW (bestW l) w := by simp [bestW]
/-- where a number stands in a row of them -/
def idxN (l : List Int) (x : Int) : Option Nat := l.findIdx? (fun y => decide (y = x))
theorem idxN_at {l : List Int} {x : Int} {k : Nat} (h : l[k]? = some x) (hb : ∀ (j : Nat) y, j < k → l[j]? = some y → y ≠ x) : idxN l x = some k := by
  obtain ⟨hk, he⟩ := List.getElem?_eq_some_iff.1 h
  unfold idxN
  rw [List.findIdx?_eq_some_iff_getElem]
  refine ⟨hk, by simpa using he, fun j hj => ?_⟩
  have hjl : j < l.length := by omega
  simpa using hb j _ hj (List.getElem?_eq_getElem hjl)
theorem idxN_no {l : List Int} {x : Int} (h : ∀ (j : Nat) y, l[j]? = some y → y ≠ x) : idxN l x = none := by
  unfold idxN
  rw [List.findIdx?_eq_none_iff]
  intro y hy
  obtain ⟨j, hj⟩ := List.mem_iff_getElem?.1 hy
  simpa using h j y hj
/-- no ref ahead has this one's name -/
def freshB (l : List RefD) (i : Nat) (s : ByteArray) : Bool := !(firstR (l.take i) s).isSome
theorem freshB_pos {l : List RefD} {i : Nat} {r : RefD} (h : l[i]? = some r) : freshB l i r.name = decide (posR l r.name = i) := by
  unfold freshB
  rcases posR_cases (l.take i) r.name with ⟨_, h2, h3⟩ | ⟨k, r', h1, h2, h3, h4, h5⟩
  · have : posR l r.name = i := posR_at h rfl fun j r' hj hr' => h3 j r' (by rw [List.getElem?_take, if_pos hj]; exact hr')
    rw [h2, this]; simp
  · have hk : k < i := by
      have := (List.getElem?_eq_some_iff.1 h2).1
      rw [List.length_take] at this
      omega
    have : posR l r.name = k := posR_at (by rw [List.getElem?_take, if_pos hk] at h2; exact h2) h3 fun j r'' hj hr' => h5 j r'' hj (by rw [List.getElem?_take, if_pos (by omega)]; exact hr')
    rw [h4, this]
    have : ¬ ((k : Int) = (i : Int)) := by omega
    simp [this]
def wayLine (n : ByteArray) : Option Nat → Option Way
  | none => none
  | some k => some (n, k)
def wayOf (L : List (Int × CommitD)) (l : List RefD) (id : Int) (i : Nat) (r : RefD) : Option Way :=
  if nameB r.name = true ∧ freshB l i r.name = true then wayLine r.name (idxN (lineL L r.id) id) else none
def waysL (L : List (Int × CommitD)) (l : List RefD) (id : Int) (k : Nat) : List Way := (List.range k).filterMap fun i => (l[i]?).bind (wayOf L l id i)
theorem ways_snoc (L : List (Int × CommitD)) (l : List RefD) (id : Int) (k : Nat) {r : RefD} (h : l[k]? = some r) : waysL L l id (k + 1) = waysL L l id k ++ (wayOf L l id k r).toList := by
  unfold waysL
  rw [List.range_succ, List.filterMap_append]
  simp only [List.filterMap_cons, List.filterMap_nil, h, Option.bind_some]
  cases wayOf L l id k r <;> rfl
theorem ways_len (L : List (Int × CommitD)) (l : List RefD) (id : Int) (k : Nat) : (waysL L l id k).length ≤ k := by
  unfold waysL
  exact Nat.le_trans (List.length_filterMap_le _ _) (by simp)
def textW (id : Nat) : Option Way → ByteArray
  | none => ⟨#[64]⟩ ++ dec id
  | some (n, k) => if k = 0 then n else n ++ ⟨#[126]⟩ ++ dec k
/-- what a commit is called -/
def ofV (L : List (Int × CommitD)) (l : List RefD) (id : Int) : ByteArray := textW id.toNat (bestW (waysL L l id l.length))
theorem line_falls {L : List (Int × CommitD)} (hF : Falls L) : ∀ (n : Nat) (i : Int), i.toNat ≤ n → (lineL L i).Pairwise (fun a b => b.toNat < a.toNat) ∧ ∀ x ∈ lineL L i, x.toNat ≤ i.toNat := by
  intro n
  induction n with
  | zero =>
    intro i hi
    cases hq : mget L i with
    | none => rw [lineL_none hq]; simp
    | some c =>
      cases hp : c.par with
      | nil => rw [lineL_end hq hp]; exact ⟨List.pairwise_singleton _ _, fun x hx => by rw [List.mem_singleton.1 hx]; exact Nat.le_refl _⟩
      | cons p ps => have := (hF i c hq).2 p (by rw [hp]; exact List.mem_cons_self); omega
  | succ n ih =>
    intro i hi
    cases hq : mget L i with
    | none => rw [lineL_none hq]; simp
    | some c =>
      cases hp : c.par with
      | nil => rw [lineL_end hq hp]; exact ⟨List.pairwise_singleton _ _, fun x hx => by rw [List.mem_singleton.1 hx]; exact Nat.le_refl _⟩
      | cons p ps =>
        have hlt := (hF i c hq).2 p (by rw [hp]; exact List.mem_cons_self)
        rw [lineL_on hq hp hlt]
        obtain ⟨h1, h2⟩ := ih p (by omega)
        refine ⟨List.pairwise_cons.2 ⟨fun x hx => by have := h2 x hx; omega, h1⟩, fun x hx => ?_⟩
        rcases List.mem_cons.1 hx with rfl | hx
        · exact Nat.le_refl _
        · have := h2 x hx; omega
theorem line_once {L : List (Int × CommitD)} (hF : Falls L) (i x : Int) {j k : Nat} (h1 : (lineL L i)[j]? = some x) (h2 : (lineL L i)[k]? = some x) : j = k := by
  have h := (line_falls hF i.toNat i (Nat.le_refl _)).1
  obtain ⟨hj, ej⟩ := List.getElem?_eq_some_iff.1 h1
  obtain ⟨hk, ek⟩ := List.getElem?_eq_some_iff.1 h2
  rw [List.pairwise_iff_getElem] at h
  rcases Nat.lt_trichotomy j k with hlt | rfl | hlt
  · have := h j k hj hk hlt; rw [ej, ek] at this; omega
  · rfl
  · have := h k j hk hj hlt; rw [ej, ek] at this; omega
/-! a name, a tilde and a number -/
theorem byteAt_app_l {a b : ByteArray} {k : Nat} (h : k < a.size) : byteAt (a ++ b) k = byteAt a k := by
  unfold byteAt
  have h' : k < a.data.toList.length := by simpa using h
  rw [ByteArray.data_append, Array.toList_append, List.getD_eq_getElem?_getD, List.getElem?_append_left h', List.getD_eq_getElem?_getD]
theorem byteAt_mid {a d : ByteArray} : byteAt (a ++ ⟨#[126]⟩ ++ d) a.size = 126 := by
  unfold byteAt
  have h' : a.size = a.data.toList.length := by simp
  rw [ByteArray.data_append, ByteArray.data_append, Array.toList_append, Array.toList_append, List.append_assoc, List.getD_eq_getElem?_getD, h', List.getElem?_append_right (Nat.le_refl _), Nat.sub_self]
  rfl
theorem cut_join {a d : ByteArray} (h : ∀ k, k < a.size → byteAt a k ≠ 126) : cutV (a ++ ⟨#[126]⟩ ++ d) = (a, d, true) := by
  have hs : (a ++ ⟨#[126]⟩ ++ d).size = a.size + 1 + d.size := by rw [ByteArray.size_append, ByteArray.size_append]; rfl
  have ht : tildeI (a ++ ⟨#[126]⟩ ++ d) = a.size := tildeI_at (by omega) byteAt_mid fun j hj => by
    rw [ByteArray.append_assoc, byteAt_app_l hj]
    exact h j hj
  rw [cutV_at ht]
  have e1 : (a ++ ⟨#[126]⟩ ++ d).extract 0 a.size = a := by
    rw [ByteArray.append_assoc]
    exact ByteArray.extract_append_eq_left rfl
  have e2 : (a ++ ⟨#[126]⟩ ++ d).extract (a.size + 1) (a ++ ⟨#[126]⟩ ++ d).size = d := by
    have e : (a ++ (⟨#[126]⟩ : ByteArray)).size = a.size + 1 := by rw [ByteArray.size_append]; rfl
    rw [← e]
    exact ByteArray.extract_append_eq_right rfl (by simp)
  rw [e1, e2]
theorem split_self {a : ByteArray} (h : ∀ k, k < a.size → byteAt a k ≠ 126) (h2 : (splitV a).2.2 = true) : (refV a).2.2 = true ∧ splitV a = (a, 0, true) := by
  have hc := cutV_no (tildeI_none h)
  have hr : (refV a).2.2 = true := by
    cases hq : (refV a).2.2 with
    | true => rfl
    | false => rw [split_no hc hq] at h2; cases h2
  exact ⟨hr, split_front hc hr⟩
theorem split_join {a : ByteArray} (h : ∀ k, k < a.size → byteAt a k ≠ 126) (h2 : (refV a).2.2 = true) {n : Nat} (hn : n ≤ 1000000) : splitV (a ++ ⟨#[126]⟩ ++ dec n) = (a, n, true) := by
  rw [split_tail (cut_join h) h2, steps_of hn]
  rfl
theorem ref_front {a : ByteArray} (h : (refV a).2.2 = true) (h0 : byteAt a 0 ≠ 64) : refV a = (a, 0, true) := by
  unfold refV at h ⊢
  split
  · rfl
  · rename_i h1
    rw [if_neg h1, if_pos (Or.inr h0)] at h
    cases h
theorem find_self {L : List (Int × CommitD)} {l : List RefD} {r : RefD} (hl : l[0]? = some r) (hne : r.name ≠ ⟨#[]⟩) (h0 : byteAt r.name 0 ≠ 64) (ht : ∀ k, k < r.name.size → byteAt r.name k ≠ 126) (hs : (splitV r.name).2.2 = true) :
    findO L l r.name = (lineL L r.id)[0]? ∧ ∀ n : Nat, n ≤ 1000000 → findO L l (r.name ++ ⟨#[126]⟩ ++ dec n) = (lineL L r.id)[n]? := by
  obtain ⟨hr, hsp⟩ := split_self ht hs
  have hrf := ref_front hr h0
  have hn : namedO l r.name = some r.id := by
    unfold namedO
    rcases posR_cases l r.name with ⟨_, _, h3⟩ | ⟨k, r', _, h2, h3, h4, h5⟩
    · exact absurd rfl (h3 0 r hl)
    · rw [h4]
      have : k = 0 := by
        rcases Nat.eq_zero_or_pos k with h | h
        · exact h
        · exact absurd rfl (h5 0 r h hl)
      subst this
      rw [hl] at h2
      cases h2
      rfl
  have hst : startO l (refV r.name) = some r.id := by
    rw [hrf]
    unfold startO
    rw [if_neg hne]
    exact hn
  refine ⟨?_, fun n hn => ?_⟩
  · unfold findO
    rw [hsp, if_neg (by simp)]
    show atO L 0 (startO l (refV r.name)) = _
    rw [hst]
    rfl
  · unfold findO
    rw [split_join ht hr hn, if_neg (by simp)]
    show atO L n (startO l (refV r.name)) = _
    rw [hst]
    rfl
end Go.Proofs.YtehneliphhgegaaGreatDoor
