/- Numbers and texts read out of bytes, in plain words: strict decoding, the inverse of 'Lib.uvarint'. -/
import Derived.Test.YtehneliphhgegaaDoorDPut
import Derived.Lib.VarintDec
set_option linter.unusedVariables false
set_option linter.unusedSimpArgs false
set_option maxRecDepth 100000
namespace Go.Proofs.YtehneliphhgegaaDoor
open Go.RowKit Go.Apo

def decF (i acc : Nat) : List UInt8 → Option (Nat × Nat)
  | [] => none
  | b :: r =>
    if 10 ≤ i ∨ (i = 9 ∧ 1 < b.toNat) then none
    else if b.toNat < 128 then (if b.toNat = 0 ∧ 0 < i then none else some (acc + b.toNat * 128 ^ i, i + 1))
    else decF (i + 1) (acc + b.toNat % 128 * 128 ^ i) r
/-- the number with which bytes begin, and its size -/
def decV (l : List UInt8) : Option (Nat × Nat) := decF 0 0 l

theorem toU8 {m : Nat} (h : m < 256) : m.toUInt8.toNat = m := by
  have : m.toUInt8.toNat = m % 256 := by simp
  rw [this]; omega
theorem ofU8 (b : UInt8) : b.toNat.toUInt8 = b := by simp
theorem split_mul (m u : Nat) : m % 128 * u + m / 128 * (u * 128) = m * u := by
  have h := congrArg (· * u) (Nat.mod_add_div m 128)
  simp only [Nat.add_mul] at h
  have e : m / 128 * (u * 128) = 128 * (m / 128) * u := by rw [Nat.mul_comm u 128, ← Nat.mul_assoc, Nat.mul_comm (m / 128) 128]
  rw [e]; exact h
theorem p128 (i : Nat) (hi : i ≤ 9) : (i = 0 ∧ (128 : Nat) ^ i = 1) ∨ (i = 1 ∧ (128 : Nat) ^ i = 128) ∨ (i = 2 ∧ (128 : Nat) ^ i = 16384) ∨ (i = 3 ∧ (128 : Nat) ^ i = 2097152) ∨ (i = 4 ∧ (128 : Nat) ^ i = 268435456) ∨ (i = 5 ∧ (128 : Nat) ^ i = 34359738368) ∨ (i = 6 ∧ (128 : Nat) ^ i = 4398046511104) ∨ (i = 7 ∧ (128 : Nat) ^ i = 562949953421312) ∨ (i = 8 ∧ (128 : Nat) ^ i = 72057594037927936) ∨ (i = 9 ∧ (128 : Nat) ^ i = 9223372036854775808) := by
  rcases (show i = 0 ∨ i = 1 ∨ i = 2 ∨ i = 3 ∨ i = 4 ∨ i = 5 ∨ i = 6 ∨ i = 7 ∨ i = 8 ∨ i = 9 by omega) with rfl | rfl | rfl | rfl | rfl | rfl | rfl | rfl | rfl | rfl
  · exact Or.inl ⟨rfl, rfl⟩
  · exact Or.inr (Or.inl ⟨rfl, rfl⟩)
  · exact Or.inr (Or.inr (Or.inl ⟨rfl, rfl⟩))
  · exact Or.inr (Or.inr (Or.inr (Or.inl ⟨rfl, rfl⟩)))
  · exact Or.inr (Or.inr (Or.inr (Or.inr (Or.inl ⟨rfl, rfl⟩))))
  · exact Or.inr (Or.inr (Or.inr (Or.inr (Or.inr (Or.inl ⟨rfl, rfl⟩)))))
  · exact Or.inr (Or.inr (Or.inr (Or.inr (Or.inr (Or.inr (Or.inl ⟨rfl, rfl⟩))))))
  · exact Or.inr (Or.inr (Or.inr (Or.inr (Or.inr (Or.inr (Or.inr (Or.inl ⟨rfl, rfl⟩)))))))
  · exact Or.inr (Or.inr (Or.inr (Or.inr (Or.inr (Or.inr (Or.inr (Or.inr (Or.inl ⟨rfl, rfl⟩))))))))
  · exact Or.inr (Or.inr (Or.inr (Or.inr (Or.inr (Or.inr (Or.inr (Or.inr (Or.inr (⟨rfl, rfl⟩)))))))))
theorem q128 (i : Nat) (hi : i ≤ 8) : ∃ q, q * ((128 : Nat) ^ i * 128) = 18446744073709551616 := by
  rcases (show i = 0 ∨ i = 1 ∨ i = 2 ∨ i = 3 ∨ i = 4 ∨ i = 5 ∨ i = 6 ∨ i = 7 ∨ i = 8 by omega) with rfl | rfl | rfl | rfl | rfl | rfl | rfl | rfl | rfl
  · exact ⟨144115188075855872, rfl⟩
  · exact ⟨1125899906842624, rfl⟩
  · exact ⟨8796093022208, rfl⟩
  · exact ⟨68719476736, rfl⟩
  · exact ⟨536870912, rfl⟩
  · exact ⟨4194304, rfl⟩
  · exact ⟨32768, rfl⟩
  · exact ⟨256, rfl⟩
  · exact ⟨2, rfl⟩
theorem sum_lt {i m b : Nat} (hi : i ≤ 8) (h : m * (128 ^ i * 128) < 18446744073709551616) : b % 128 * 128 ^ i + m * (128 ^ i * 128) < 18446744073709551616 := by
  obtain ⟨q, hq⟩ := q128 i hi
  have hpos : 0 < (128 : Nat) ^ i := Nat.pow_pos (by decide)
  generalize (128 : Nat) ^ i = U at h hq hpos ⊢
  rw [← hq] at h ⊢
  have hmq : m < q := Nat.lt_of_mul_lt_mul_right h
  have h1 : (m + 1) * (U * 128) ≤ q * (U * 128) := Nat.mul_le_mul_right _ hmq
  rw [Nat.add_mul, Nat.one_mul] at h1
  have h2 : b % 128 * U ≤ 127 * U := Nat.mul_le_mul_right _ (by omega)
  generalize m * (U * 128) = X at h1 ⊢
  generalize q * (U * 128) = Y at h1 ⊢
  generalize b % 128 * U = Z at h2 ⊢
  omega
theorem decF_put : ∀ (m i acc : Nat) (r : List UInt8), m * 128 ^ i < 18446744073709551616 → i ≤ 9 → (1 ≤ m ∨ i = 0) → decF i acc (Lib.uvarint m ++ r) = some (acc + m * 128 ^ i, i + (Lib.uvarint m).length) := by
  intro m
  induction m using Nat.strongRecOn with
  | ind m ih =>
    intro i acc r hm hi h1
    by_cases h : m < 128
    · rw [Lib.uvarint_small h]
      have e := toU8 (m := m) (by omega)
      have h9 : ¬(10 ≤ i ∨ (i = 9 ∧ 1 < m)) := by
        rintro (h' | ⟨rfl, h'⟩)
        · omega
        · have : (128 : Nat) ^ 9 = 9223372036854775808 := by decide
          rw [this] at hm; omega
      have h0 : ¬(m = 0 ∧ 0 < i) := by omega
      simp only [List.cons_append, List.nil_append, decF, e, if_neg h9, if_pos h, if_neg h0, List.length_singleton]
    · have h' : 128 ≤ m := by omega
      rw [Lib.uvarint_big h']
      have e := toU8 (m := m % 128 + 128) (by omega)
      have hi8 : i ≤ 8 := by
        rcases Nat.lt_or_ge i 9 with h9 | h9
        · omega
        · obtain rfl : i = 9 := by omega
          have : (128 : Nat) ^ 9 = 9223372036854775808 := by decide
          rw [this] at hm; omega
      have h9 : ¬(10 ≤ i ∨ (i = 9 ∧ 1 < m % 128 + 128)) := by omega
      have hlt : ¬(m % 128 + 128 < 128) := by omega
      have hs := split_mul m (128 ^ i)
      have hp : (128 : Nat) ^ (i + 1) = 128 ^ i * 128 := rfl
      have hrec := ih (m / 128) (by omega) (i + 1) (acc + (m % 128 + 128) % 128 * 128 ^ i) r (by rw [hp]; omega) (by omega) (Or.inl (by omega))
      simp only [List.cons_append, decF, e, if_neg h9, if_neg hlt]
      rw [hrec, hp]
      have e2 : (m % 128 + 128) % 128 = m % 128 := by omega
      rw [e2, List.length_cons]
      simp only [Option.some.injEq, Prod.mk.injEq]
      omega
theorem decF_some : ∀ (l : List UInt8) (i acc n k : Nat), i ≤ 9 → decF i acc l = some (n, k) → ∃ m rest, l = Lib.uvarint m ++ rest ∧ n = acc + m * 128 ^ i ∧ k = i + (Lib.uvarint m).length ∧ m * 128 ^ i < 18446744073709551616 ∧ (1 ≤ m ∨ i = 0) := by
  intro l
  induction l with
  | nil => intro i acc n k _ h; cases h
  | cons b r ih =>
    intro i acc n k hi h
    unfold decF at h
    have hb := b.toNat_lt
    split at h
    · cases h
    · rename_i h9
      split at h
      · rename_i hlt
        split at h
        · cases h
        · rename_i h0
          simp only [Option.some.injEq, Prod.mk.injEq] at h
          obtain ⟨rfl, rfl⟩ := h
          refine ⟨b.toNat, r, ?_, rfl, ?_, ?_, by omega⟩
          · rw [Lib.uvarint_small hlt, ofU8]; rfl
          · rw [Lib.uvarint_small hlt]; rfl
          · rcases p128 i hi with ⟨h, hp⟩ | ⟨h, hp⟩ | ⟨h, hp⟩ | ⟨h, hp⟩ | ⟨h, hp⟩ | ⟨h, hp⟩ | ⟨h, hp⟩ | ⟨h, hp⟩ | ⟨h, hp⟩ | ⟨h, hp⟩ <;> rw [hp] <;> omega
      · rename_i hge
        have hi8 : i ≤ 8 := by omega
        obtain ⟨m, rest, hr, hn, hk, hmm, h1⟩ := ih (i + 1) _ n k (by omega) h
        have h1' : 1 ≤ m := by omega
        have hbig : 128 ≤ b.toNat % 128 + 128 * m := by omega
        have hu : Lib.uvarint (b.toNat % 128 + 128 * m) = b :: Lib.uvarint m := by
          rw [Lib.uvarint_big hbig]
          have e1 : (b.toNat % 128 + 128 * m) % 128 + 128 = b.toNat := by omega
          have e2 : (b.toNat % 128 + 128 * m) / 128 = m := by omega
          rw [e1, e2, ofU8]
        have hp : (128 : Nat) ^ (i + 1) = 128 ^ i * 128 := rfl
        have hsum : (b.toNat % 128 + 128 * m) * 128 ^ i = b.toNat % 128 * 128 ^ i + m * 128 ^ (i + 1) := by
          rw [hp, Nat.add_mul]
          congr 1
          rw [Nat.mul_comm (128 ^ i) 128, ← Nat.mul_assoc, Nat.mul_comm m 128]
        refine ⟨b.toNat % 128 + 128 * m, rest, ?_, ?_, ?_, ?_, Or.inl (by omega)⟩
        · rw [hu, hr]; rfl
        · rw [hn, hsum]; omega
        · rw [hk, hu, List.length_cons]; omega
        · rw [hsum]
          rw [hp] at hmm ⊢
          exact sum_lt hi8 hmm
theorem decV_put (x : Nat) (hx : x < 18446744073709551616) (r : List UInt8) : decV (Lib.uvarint x ++ r) = some (x, (Lib.uvarint x).length) := by
  unfold decV
  rw [decF_put x 0 0 r (by simpa using hx) (by omega) (Or.inr rfl)]
  simp
theorem decV_some {l : List UInt8} {n k : Nat} (h : decV l = some (n, k)) : ∃ rest, l = Lib.uvarint n ++ rest ∧ k = (Lib.uvarint n).length ∧ n < 18446744073709551616 := by
  obtain ⟨m, rest, h1, h2, h3, h4, _⟩ := decF_some l 0 0 n k (by omega) h
  simp at h2 h3 h4
  subst h2
  exact ⟨rest, h1, h3, h4⟩
theorem decV_le {l : List UInt8} {n k : Nat} (h : decV l = some (n, k)) : k ≤ l.length ∧ 1 ≤ k := by
  obtain ⟨rest, h1, h2, _⟩ := decV_some h
  rw [h1, List.length_append, h2]
  exact ⟨by omega, Lib.uvarint_pos n⟩
/-- what the document's round knows -/
def Spelt (i acc : Nat) (pre : List UInt8) : Prop := pre.length = i ∧ ∀ m, (1 ≤ m ∨ i = 0) → Lib.uvarint (acc + m * 128 ^ i) = pre ++ Lib.uvarint m
theorem spelt_nil : Spelt 0 0 [] := ⟨rfl, fun m _ => by simp⟩
theorem Spelt.step {i acc : Nat} {pre : List UInt8} (h : Spelt i acc pre) (b : UInt8) (hb : 128 ≤ b.toNat) : Spelt (i + 1) (acc + b.toNat % 128 * 128 ^ i) (pre ++ [b]) := by
  refine ⟨by rw [List.length_append, h.1]; rfl, fun m hm => ?_⟩
  have hbl := b.toNat_lt
  have h1 : 1 ≤ m := by omega
  have hbig : 128 ≤ b.toNat % 128 + 128 * m := by omega
  have h2 := h.2 (b.toNat % 128 + 128 * m) (Or.inl (by omega))
  have hp : (128 : Nat) ^ (i + 1) = 128 ^ i * 128 := rfl
  have hsum : (b.toNat % 128 + 128 * m) * 128 ^ i = b.toNat % 128 * 128 ^ i + m * 128 ^ (i + 1) := by
    rw [hp, Nat.add_mul]
    congr 1
    rw [Nat.mul_comm (128 ^ i) 128, ← Nat.mul_assoc, Nat.mul_comm m 128]
  rw [hsum] at h2
  rw [Nat.add_assoc, h2, Lib.uvarint_big hbig]
  have e1 : (b.toNat % 128 + 128 * m) % 128 + 128 = b.toNat := by omega
  have e2 : (b.toNat % 128 + 128 * m) / 128 = m := by omega
  rw [e1, e2, ofU8, List.append_assoc]
  rfl
theorem uvarint_zero_end : ∀ (x : Nat) (q : List UInt8), Lib.uvarint x = q ++ [0] → q = [] := by
  intro x
  induction x using Nat.strongRecOn with
  | ind x ih =>
    intro q h
    by_cases hx : x < 128
    · rw [Lib.uvarint_small hx] at h
      have := congrArg List.length h
      simp at this
      exact this
    · rw [Lib.uvarint_big (by omega)] at h
      cases q with
      | nil =>
        have := congrArg List.length h
        have h2 := Lib.uvarint_pos (x / 128)
        simp at this
        have h3 : (Lib.uvarint (x / 128)).length = 0 := by rw [this]; rfl
        omega
      | cons a q' =>
        simp only [List.cons_append, List.cons.injEq] at h
        have hq := ih (x / 128) (by omega) q' h.2
        subst hq
        have h2 := h.2
        by_cases hy : x / 128 < 128
        · rw [Lib.uvarint_small hy] at h2
          have h3 := congrArg (fun l => (l.headD 1).toNat) h2
          have h4 : ((x / 128).toUInt8).toNat = 0 := by simpa using h3
          rw [toU8 (by omega)] at h4
          omega
        · rw [Lib.uvarint_big (by omega)] at h2
          have := congrArg List.length h2
          have h3 := Lib.uvarint_pos (x / 128 / 128)
          rw [List.length_cons] at this
          simp at this
          have h4 : (Lib.uvarint (x / 128 / 128)).length = 0 := by rw [this]; rfl
          omega
theorem Spelt.ends {i acc : Nat} {pre : List UInt8} (h : Spelt i acc pre) (b : UInt8) (hb : b.toNat < 128) : Lib.uvarint (acc + b.toNat * 128 ^ i) = pre ++ [b] ↔ ¬(b.toNat = 0 ∧ 0 < i) := by
  constructor
  · rintro he ⟨h0, hi⟩
    have e : b = 0 := by rw [← ofU8 b, h0]; rfl
    subst e
    have := uvarint_zero_end _ _ he
    rw [this] at h
    have := h.1
    simp at this
    omega
  · intro hn
    rw [h.2 b.toNat (by omega), Lib.uvarint_small hb, ofU8]

/-- a reader: the bytes that are left; none: it has failed -/
def rdN (most : Nat) : Option (List UInt8) → Nat × Option (List UInt8)
  | none => (0, none)
  | some l => match decV l with
    | none => (0, none)
    | some (n, k) => if most < n then (0, none) else (n, some (l.drop k))
def rdT (most : Nat) (st : Option (List UInt8)) : ByteArray × Option (List UInt8) :=
  match rdN most st with
  | (_, none) => (ByteArray.empty, none)
  | (n, some l) => if l.length < n then (ByteArray.empty, none) else (⟨(l.take n).toArray⟩, some (l.drop n))
structure CmdV where
  k : Nat
  nm : ByteArray
  ot : ByteArray
  ky : ByteArray
  vl : ByteArray
  u : Nat
  st : Option (List UInt8)
def readV (l : List UInt8) : CmdV :=
  let a := rdN 20 (some l)
  let b := rdT 300 a.2
  let c := rdT 300 b.2
  let d := rdT 300 c.2
  let e := rdT 300 d.2
  let f := rdN 18446744073709551615 e.2
  ⟨a.1, b.1, c.1, d.1, e.1, f.1, f.2⟩
def CmdV.n (c : CmdV) : Int := Lib.unzigzag c.u
def CmdV.good (c : CmdV) : Bool := decide (c.st = some []) && decide (checkV (c.k : Int) c.nm c.ot c.ky c.vl c.n = 0)
theorem rdN_le (most : Nat) (st : Option (List UInt8)) : (rdN most st).1 ≤ most := by
  unfold rdN
  split
  · exact Nat.zero_le _
  · split
    · exact Nat.zero_le _
    · split
      · exact Nat.zero_le _
      · simp; omega
theorem rdT_le (most : Nat) (st : Option (List UInt8)) : (rdT most st).1.size ≤ most := by
  have h := rdN_le most st
  unfold rdT
  split
  · exact Nat.zero_le _
  · rename_i n l e
    rw [e] at h
    split
    · exact Nat.zero_le _
    · show (l.take n).toArray.size ≤ most
      simp at h ⊢; omega
theorem rdN_len {most : Nat} {st : Option (List UInt8)} {l : List UInt8} {L : Nat} (hst : ∀ l0, st = some l0 → l0.length ≤ L) (h : (rdN most st).2 = some l) : l.length ≤ L := by
  unfold rdN at h
  split at h
  · cases h
  · rename_i l0
    split at h
    · cases h
    · split at h
      · cases h
      · simp at h
        have := hst l0 rfl
        rw [← h, List.length_drop]; omega
theorem rdT_len {most : Nat} {st : Option (List UInt8)} {l : List UInt8} {L : Nat} (hst : ∀ l0, st = some l0 → l0.length ≤ L) (h : (rdT most st).2 = some l) : l.length ≤ L := by
  unfold rdT at h
  split at h
  · cases h
  · rename_i n l1 e
    have h1 := rdN_len (most := most) hst (l := l1) (by rw [e])
    split at h
    · cases h
    · simp at h
      rw [← h, List.length_drop]; omega
theorem rdN_put (most x : Nat) (hx : x < 18446744073709551616) (r : List UInt8) : rdN most (some (Lib.uvarint x ++ r)) = if most < x then (0, none) else (x, some r) := by
  unfold rdN
  simp only [decV_put x hx r]
  simp
theorem rdT_put (most : Nat) (s : ByteArray) (hs : s.size ≤ most) (hs2 : s.size < 18446744073709551616) (r : List UInt8) : rdT most (some (textL s ++ r)) = (s, some r) := by
  have e : textL s ++ r = Lib.uvarint s.size ++ (s.data.toList ++ r) := by unfold textL; rw [List.append_assoc]
  have hl : s.data.toList.length = s.size := rfl
  unfold rdT
  rw [e, rdN_put most s.size hs2, if_neg (by omega)]
  simp only []
  rw [if_neg (by rw [List.length_append]; omega)]
  have e1 : (s.data.toList ++ r).take s.size = s.data.toList := by rw [← hl]; simp
  have e2 : (s.data.toList ++ r).drop s.size = r := by rw [← hl]; simp
  rw [e1, e2]
theorem rdN_some {most : Nat} {st : Option (List UInt8)} {n : Nat} {r : List UInt8} (h : rdN most st = (n, some r)) : st = some (Lib.uvarint n ++ r) ∧ n ≤ most ∧ n < 18446744073709551616 := by
  unfold rdN at h
  split at h
  · cases h
  · split at h
    · cases h
    · rename_i l0 n0 k hd
      split at h
      · cases h
      · simp only [Prod.mk.injEq, Option.some.injEq] at h
        obtain ⟨rfl, rfl⟩ := h
        obtain ⟨rest, h1, h2, h3⟩ := decV_some hd
        refine ⟨?_, by omega, h3⟩
        rw [h1, h2]; simp
theorem rdT_some {most : Nat} {st : Option (List UInt8)} {s : ByteArray} {r : List UInt8} (h : rdT most st = (s, some r)) : st = some (textL s ++ r) ∧ s.size ≤ most := by
  unfold rdT at h
  split at h
  · cases h
  · rename_i n l e
    split at h
    · cases h
    · rename_i hlen
      simp only [Prod.mk.injEq, Option.some.injEq] at h
      obtain ⟨rfl, rfl⟩ := h
      obtain ⟨h1, h2, _⟩ := rdN_some e
      have hsz : (⟨(l.take n).toArray⟩ : ByteArray).size = n := by
        show (l.take n).toArray.size = n
        simp; omega
      refine ⟨?_, by omega⟩
      rw [h1]
      unfold textL
      rw [hsz, List.append_assoc]
      show some (_ ++ l) = some (_ ++ ((l.take n).toArray.toList ++ l.drop n))
      simp
theorem zig_unzig {u : Nat} : Lib.zigzag (Lib.unzigzag u) = u := by
  unfold Lib.unzigzag Lib.zigzag
  split
  · rw [if_pos (by omega)]; omega
  · rw [if_neg (by omega)]; omega
theorem unzig_zig (x : Int) : Lib.unzigzag (Lib.zigzag x) = x := by
  unfold Lib.zigzag Lib.unzigzag
  split
  · rw [if_pos (by omega)]; omega
  · rw [if_neg (by omega)]; omega
theorem unzig_lo {u : Nat} (h : u < 18446744073709551616) : -9223372036854775808 ≤ Lib.unzigzag u ∧ Lib.unzigzag u ≤ 9223372036854775807 := by
  unfold Lib.unzigzag
  split <;> omega
theorem putL_app (k : Int) (nm ot ky vl : ByteArray) (n : Int) : putL k nm ot ky vl n = Lib.uvarint (u64N k) ++ (textL nm ++ (textL ot ++ (textL ky ++ (textL vl ++ (Lib.uvarint (Lib.zigzag n) ++ []))))) := by
  unfold putL preL
  simp [List.append_assoc]
/-- what is put is read back -/
theorem readV_put (k : Int) (nm ot ky vl : ByteArray) (n : Int) (h1 : nm.size ≤ 300) (h2 : ot.size ≤ 300) (h3 : ky.size ≤ 300) (h4 : vl.size ≤ 300) (hn1 : -9223372036854775808 ≤ n) (hn2 : n ≤ 9223372036854775807) (hk : u64N k ≤ 20) :
    readV (putL k nm ot ky vl n) = ⟨u64N k, nm, ot, ky, vl, Lib.zigzag n, some []⟩ := by
  have hz := Lib.zigzag_lt hn1 hn2
  unfold readV
  rw [putL_app]
  simp only [rdN_put 20 _ (u64N_lt k), if_neg (show ¬ 20 < u64N k by omega), rdT_put 300 nm h1 (by omega), rdT_put 300 ot h2 (by omega), rdT_put 300 ky h3 (by omega), rdT_put 300 vl h4 (by omega), rdN_put 18446744073709551615 _ hz, if_neg (show ¬ 18446744073709551615 < Lib.zigzag n by omega)]
theorem rdT_none (m : Nat) : rdT m none = (ByteArray.empty, none) := rfl
theorem rdN_none (m : Nat) : rdN m none = (0, none) := rfl
theorem readV_big (k : Int) (nm ot ky vl : ByteArray) (n : Int) (hk : 20 < u64N k) : (readV (putL k nm ot ky vl n)).st = none := by
  unfold readV
  rw [putL_app]
  simp only [rdN_put 20 _ (u64N_lt k), if_pos hk, rdT_none, rdN_none]
/-- bytes that are a command are its bytes -/
theorem readV_some {l : List UInt8} (h : (readV l).st = some []) : l = putL ((readV l).k : Int) (readV l).nm (readV l).ot (readV l).ky (readV l).vl (readV l).n := by
  have hk : (readV l).k ≤ 20 := rdN_le _ _
  have hku : u64N ((readV l).k : Int) = (readV l).k := by unfold u64N; omega
  rw [putL_app, hku]
  unfold CmdV.n
  rw [zig_unzig]
  unfold readV at h ⊢
  simp only [] at h ⊢
  have e5 := rdN_some (Prod.ext rfl h)
  have e4 := rdT_some (Prod.ext rfl e5.1)
  have e3 := rdT_some (Prod.ext rfl e4.1)
  have e2 := rdT_some (Prod.ext rfl e3.1)
  have e1 := rdT_some (Prod.ext rfl e2.1)
  have e0 := rdN_some (Prod.ext rfl e1.1)
  exact Option.some.inj e0.1
end Go.Proofs.YtehneliphhgegaaDoor
