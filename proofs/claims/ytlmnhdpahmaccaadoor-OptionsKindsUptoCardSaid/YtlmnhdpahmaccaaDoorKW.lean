/- options: behind a Set that is taken: what Get answers, in plain Lean. -/
import Derived.Test.YtlmnhdpahmaccaaDoorKV
namespace Go.Proofs.YtlmnhdpahmaccaaDoor
open Go.RowKit QP

theorem look_cons {x : PK × ByteArray} {E : List (PK × ByteArray)} {a : PK} : look (x :: E) a = if x.1 = a then some x.2 else look E a := by
  unfold look
  rw [List.find?_cons]
  by_cases h : x.1 = a
  · rw [decide_eq_true h, if_pos h]; rfl
  · rw [decide_eq_false h, if_neg h]
theorem look_filter (E : List (PK × ByteArray)) (g : PK → Bool) (a : PK) : look (E.filter fun p => g p.1) a = if g a = true then look E a else none := by
  induction E with
  | nil => simp [look]
  | cons x r ih =>
    rw [List.filter_cons]
    by_cases hx : x.1 = a
    · by_cases hg : g a = true
      · rw [if_pos (by rw [hx]; exact hg), look_cons, look_cons, if_pos hx, if_pos hx, if_pos hg]
      · rw [if_neg (by rw [hx]; exact hg), ih, if_neg hg, if_neg hg]
    · by_cases hg : g x.1 = true
      · rw [if_pos hg, look_cons, look_cons, if_neg hx, if_neg hx, ih]
      · rw [if_neg hg, ih, look_cons, if_neg hx]
theorem look_append_none {E F : List (PK × ByteArray)} {a : PK} (h : look E a = none) : look (E ++ F) a = look F a := by
  induction E with
  | nil => rfl
  | cons x r ih =>
    rw [look_cons] at h
    by_cases hx : x.1 = a
    · rw [if_pos hx] at h; cases h
    · rw [if_neg hx] at h
      rw [List.cons_append, look_cons, if_neg hx, ih h]
theorem look_put (E : List (PK × ByteArray)) (a : PK) (v : ByteArray) : look (put E a v) a = some v := by
  unfold put
  by_cases hc : E.any (fun p => decide (p.1 = a)) = true
  · rw [if_pos hc]
    induction E with
    | nil => simp at hc
    | cons x r ih =>
      rw [List.map_cons, look_cons]
      by_cases hx : x.1 = a
      · rw [if_pos hx]; simp
      · rw [if_neg hx, if_neg hx]
        refine ih ?_
        simpa [hx] using hc
  · rw [if_neg hc, look_append_none (look_none fun p hp e => hc (List.any_eq_true.2 ⟨p, hp, by simpa using e⟩)), look_cons, if_pos rfl]

theorem scopes4 : ∀ k, ∀ h : k < 22, (table[k]'h).scope = 1 ∨ (table[k]'h).scope = 2 ∨ (table[k]'h).scope = 3 ∨ (table[k]'h).scope = 4 := by decide +kernel
theorem may_parts {sc id : Int} {name : ByteArray} (h : mayCode sc id name = 0) : ∃ r, rowOf name = some r ∧ ofRow name = r ∧ (sc = r.scope ∨ (r.scope = 4 ∧ sc = 3)) ∧ 0 ≤ id ∧ id ≤ 4611686018427387904 ∧ (sc = 1 → id = 0) ∧ (r.scope = 1 ∨ r.scope = 2 ∨ r.scope = 3 ∨ r.scope = 4) := by
  obtain ⟨r, hr, ho, -⟩ := may_row h
  obtain ⟨k, hk, hrk⟩ := row_cases (rowOf_mem hr).1
  have hs : r.scope = 1 ∨ r.scope = 2 ∨ r.scope = 3 ∨ r.scope = 4 := by rw [hrk]; exact scopes4 k hk
  unfold mayCode at h
  rw [hr] at h
  simp only at h
  by_cases h1 : sc ≠ r.scope ∧ (r.scope ≠ 4 ∨ sc ≠ 3)
  · rw [if_pos h1] at h; simp at h
  · rw [if_neg h1] at h
    by_cases h2 : id < 0 ∨ id > 4611686018427387904 ∨ (sc = 1 ∧ id ≠ 0)
    · rw [if_pos h2] at h; simp at h
    · exact ⟨r, hr, ho, by omega, by omega, by omega, by omega, hs⟩

/-- the places that the last question names -/
def sesOf (sc id : Int) : Int := if sc = 2 then id else 0
def winOf (sc id : Int) : Int := if sc = 3 then id else 0
def panOf (sc id : Int) : Int := if sc = 3 then 1099511627776 else if sc = 4 then id else 0
def lastE (E : List (PK × ByteArray)) (sc : Int) : List (PK × ByteArray) := if sc = 3 then dropE E 4 1099511627776 else E
theorem last_code {E : List (PK × ByteArray)} {sc id : Int} {name : ByteArray} (hm : mayCode sc id name = 0) (s wi p : Int) : (getVal (look E) name s wi p).2 = 0 := by
  obtain ⟨r, hr, -⟩ := may_parts hm
  unfold getVal
  rw [hr]
theorem last_get {E : List (PK × ByteArray)} {sc id : Int} {name v : ByteArray} (hm : mayCode sc id name = 0) (hnear : id ≠ 0 ∨ (ofRow name).scope = sc) :
    (getVal (look (lastE (put E (sc, id, name) v) sc)) name (sesOf sc id) (winOf sc id) (panOf sc id)).1 = v := by
  obtain ⟨r, hr, ho, hsc, h0, -, h1, hs⟩ := may_parts hm
  rw [ho] at hnear
  have hp := look_put E (sc, id, name) v
  unfold getVal
  rw [hr]
  simp only
  have hplain : sc ≠ 3 → look (lastE (put E (sc, id, name) v) sc) (sc, id, name) = some v := fun h => by
    unfold lastE; rw [if_neg h]; exact hp
  have hthree : sc = 3 → ∀ a, look (lastE (put E (sc, id, name) v) sc) a = if a.1 = 4 ∧ a.2.1 = 1099511627776 then none else look (put E (sc, id, name) v) a := fun h a => by
    unfold lastE dropE
    rw [if_pos h, if_neg (by decide), look_filter _ (fun q => !(decide (q.1 = 4) && decide (q.2.1 = 1099511627776))) a]
    by_cases ha : a.1 = 4 ∧ a.2.1 = 1099511627776
    · rw [if_pos ha, if_neg (by simp [ha.1, ha.2])]
    · rw [if_neg ha, if_pos]
      simp only [Bool.not_eq_true', Bool.and_eq_false_iff, decide_eq_false_iff_not]
      by_cases h4 : a.1 = 4
      · exact .inr fun h5 => ha ⟨h4, h5⟩
      · exact .inl h4
  generalize lastE (put E (sc, id, name) v) sc = F at hplain hthree
  rcases hs with hs | hs | hs | hs
  · have e1 : sc = 1 := by omega
    have e2 := h1 e1
    subst e1 e2
    have := hplain (by decide)
    rw [hs]
    simp [placesOf, this]
  · have e1 : sc = 2 := by omega
    subst e1
    have := hplain (by decide)
    rw [hs]
    simp [placesOf, sesOf, this]
  · have e1 : sc = 3 := by omega
    subst e1
    have := hthree rfl (3, id, name)
    simp at this
    rw [hs]
    simp [placesOf, winOf, this, hp]
  · by_cases e1 : sc = 4
    · subst e1
      have := hplain (by decide)
      rw [hs]
      simp [placesOf, panOf, this]
    · have e2 : sc = 3 := by omega
      subst e2
      have t1 := hthree rfl (3, id, name)
      have t2 := hthree rfl (4, 1099511627776, name)
      simp at t1 t2
      rw [hs]
      simp [placesOf, panOf, winOf, t1, t2, hp]
end Go.Proofs.YtlmnhdpahmaccaaDoor
