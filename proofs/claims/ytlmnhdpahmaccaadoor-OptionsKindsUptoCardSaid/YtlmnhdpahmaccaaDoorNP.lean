/- Numbers and their texts, in plain Lean: the program's reading and the document's come to the same. -/
import Derived.Test.YtlmnhdpahmaccaaDoorOP
import Derived.Lib.AtoiAll
import Derived.Lib.ItoaMem
namespace Go.Proofs.YtlmnhdpahmaccaaDoor
open Go.Lib

/-- the greatest number -/
def top : Nat := 4611686018427387904
/-- a number's text -/
def putn (n : Nat) : List UInt8 := if n ≤ top then decDigits n else []
/-- the document's loop -/
def rloop : Nat → Nat → List UInt8 → Option Nat
  | _, n, [] => some n
  | i, n, c :: r => if c.toNat < 48 ∨ 57 < c.toNat ∨ 18 < i ∨ 461168601842738790 < n then none else rloop (i + 1) (10 * n + (c.toNat - 48)) r
/-- the document's number of a text -/
def rnum (s : List UInt8) : Option Nat := match rloop 0 0 s with | some n => if s = [] ∨ putn n ≠ s then none else some n | none => none
/-- the program's -/
def pnum (s : List UInt8) : Option Nat := match atoiAll s with | .ok v => if v < 0 ∨ s ≠ putn v.toNat then none else some v.toNat | _ => none

theorem nDigits_le {k n : Nat} (h : n < 10 ^ (k + 1)) : nDigits n ≤ k + 1 := by
  induction k generalizing n with
  | zero => rw [nDigits_small (by simpa using h)]; exact Nat.le_refl _
  | succ k ih =>
    by_cases h1 : n < 10
    · rw [nDigits_small h1]; omega
    · rw [nDigits_big h1]
      have := ih (n := n / 10) (by rw [Nat.pow_succ] at h; omega)
      omega
theorem top_digits {n : Nat} (h : n ≤ top) : nDigits n ≤ 19 := nDigits_le (k := 18) (by unfold top at h; omega)
theorem digit_nat {d : Nat} (h : d < 10) : (UInt8.ofNat (48 + d)).toNat = 48 + d := by
  rw [UInt8.toNat_ofNat']
  omega
theorem rloop_digits (t : List UInt8) (n : Nat) (h : n ≤ top) : ∀ i, i + nDigits n ≤ 19 → rloop i 0 (decDigits n ++ t) = rloop (i + nDigits n) n t := by
  induction n using Nat.strongRecOn generalizing t with
  | _ n ih =>
    intro i hi
    by_cases h1 : n < 10
    · rw [decDigits_one h1, nDigits_small h1] at *
      rw [List.singleton_append, rloop, digit_nat h1, if_neg (by omega)]
      congr 1
      omega
    · have hd : n % 10 < 10 := Nat.mod_lt _ (by decide)
      rw [nDigits_big h1] at hi ⊢
      rw [decDigits, dif_neg h1, List.append_assoc, ih (n / 10) (by omega) _ (by omega) i (by omega), List.singleton_append, rloop, digit_nat hd, if_neg (by unfold top at h; omega)]
      congr 1
      omega
theorem parse_digits (t : List UInt8) (n : Nat) (h : n ≤ top) : parseUint10 0 (decDigits n ++ t) = parseUint10 n t := by
  induction n using Nat.strongRecOn generalizing t with
  | _ n ih =>
    unfold top at h ih
    by_cases h1 : n < 10
    · rw [decDigits_one h1, List.singleton_append, parseUint10, digit_nat h1, if_pos (by omega), if_neg (by omega), if_neg (by omega)]
      congr 1
      omega
    · have hd : n % 10 < 10 := Nat.mod_lt _ (by decide)
      rw [decDigits, dif_neg h1, List.append_assoc, ih (n / 10) (by omega) _ (by omega), List.singleton_append, parseUint10, digit_nat hd, if_pos (by omega), if_neg (by omega), if_neg (by omega)]
      congr 1
      omega
theorem decDigits_head (n : Nat) : ∃ c r, decDigits n = c :: r ∧ 48 ≤ c.toNat ∧ c.toNat ≤ 57 := by
  induction n using Nat.strongRecOn with
  | _ n ih =>
    by_cases h1 : n < 10
    · exact ⟨_, [], decDigits_one h1, by rw [digit_nat h1]; omega, by rw [digit_nat h1]; omega⟩
    · obtain ⟨c, r, hc, h2, h3⟩ := ih (n / 10) (by omega)
      exact ⟨c, r ++ [UInt8.ofNat (48 + n % 10)], by rw [decDigits, dif_neg h1, hc]; rfl, h2, h3⟩
theorem atoi_digits {n : Nat} (h : n ≤ top) : atoiAll (decDigits n) = .ok n := by
  obtain ⟨c, r, hc, h2, h3⟩ := decDigits_head n
  have hp := parse_digits [] n h
  rw [List.append_nil] at hp
  unfold top at h
  rw [hc] at hp ⊢
  have hm : parseMag (c :: r) = .ok n := by
    unfold parseMag
    rw [if_neg (by simp), hp]
    rfl
  unfold atoiAll
  simp only []
  rw [if_neg (by omega), hm]
  simp only []
  rw [if_neg (by omega), if_neg (by omega), if_neg (by omega)]
theorem rnum_iff {s : List UInt8} {n : Nat} : rnum s = some n ↔ n ≤ top ∧ s = decDigits n := by
  unfold rnum putn
  constructor
  · intro h
    cases hl : rloop 0 0 s with
    | none => rw [hl] at h; cases h
    | some m =>
      rw [hl] at h
      simp only [] at h
      by_cases hm : m ≤ top
      · rw [if_pos hm] at h
        by_cases hh : s = [] ∨ decDigits m ≠ s
        · rw [if_pos hh] at h; cases h
        · rw [if_neg hh] at h
          injection h with h
          subst h
          exact ⟨hm, Decidable.byContradiction fun e => hh (.inr fun e2 => e e2.symm)⟩
      · rw [if_neg hm] at h
        by_cases hh : s = [] ∨ [] ≠ s
        · rw [if_pos hh] at h; cases h
        · exact absurd (.inl (Decidable.byContradiction fun e => hh (.inr fun e2 => e e2.symm))) hh
  · rintro ⟨h, rfl⟩
    have h1 := rloop_digits [] n h 0 (by have := top_digits h; omega)
    rw [List.append_nil] at h1
    rw [h1]
    obtain ⟨c, r, hc, -⟩ := decDigits_head n
    have hne : decDigits n ≠ [] := by rw [hc]; simp
    simp only [rloop]
    rw [if_neg (by rw [if_pos h]; simp [hne])]
theorem pnum_iff {s : List UInt8} {n : Nat} : pnum s = some n ↔ n ≤ top ∧ s = decDigits n := by
  unfold pnum putn
  constructor
  · intro h
    rcases hl : atoiAll s with v | _ | _
    · rw [hl] at h
      simp only [] at h
      by_cases hm : v.toNat ≤ top
      · rw [if_pos hm] at h
        by_cases hh : v < 0 ∨ s ≠ decDigits v.toNat
        · rw [if_pos hh] at h; cases h
        · rw [if_neg hh] at h
          injection h with h
          subst h
          exact ⟨hm, Decidable.byContradiction fun e => hh (.inr e)⟩
      · rw [if_neg hm] at h
        by_cases hh : v < 0 ∨ s ≠ []
        · rw [if_pos hh] at h; cases h
        · have : s = [] := Decidable.byContradiction fun e => hh (.inr e)
          subst this
          cases hl
    · rw [hl] at h; cases h
    · rw [hl] at h; cases h
  · rintro ⟨h, rfl⟩
    rw [atoi_digits h]
    simp only [Int.toNat_natCast]
    rw [if_pos h, if_neg (by simp)]
theorem pnum_rnum (s : List UInt8) : pnum s = rnum s := by
  cases h : rnum s with
  | some n => exact pnum_iff.2 (rnum_iff.1 h)
  | none =>
    cases h2 : pnum s with
    | none => rfl
    | some n => rw [rnum_iff.2 (pnum_iff.1 h2)] at h; cases h
theorem rnum_le {s : List UInt8} {n : Nat} (h : rnum s = some n) : n ≤ 4611686018427387904 := (rnum_iff.1 h).1
/-- is it a number from lo to hi? -/
def isNum (lo hi : Int) (s : ByteArray) : Bool := match rnum s.data.toList with | some n => decide (lo ≤ n) && decide ((n : Int) ≤ hi) | none => false
theorem decDigits_small {n : Nat} (h : n ≤ top) : (decDigits n).length ≤ 19 := by rw [decDigits_length]; exact top_digits h
theorem putn_len (n : Nat) : (putn n).length ≤ 19 := by
  unfold putn
  split
  · exact decDigits_small (by assumption)
  · simp
end Go.Proofs.YtlmnhdpahmaccaaDoor
