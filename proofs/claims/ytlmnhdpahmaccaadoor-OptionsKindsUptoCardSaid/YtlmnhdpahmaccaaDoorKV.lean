/- options: values of a kind, and what is set, in plain Lean. -/
import Derived.Test.YtlmnhdpahmaccaaDoorDP
import Derived.Test.YtlmnhdpahmaccaaDoorNP
import Derived.Test.YtlmnhdpahmaccaaDoorRA
import Derived.Test.YtlmnhdpahmaccaaDoorSG
import Derived.Shelf.Unicode.DecodeSlow
namespace Go.Proofs.YtlmnhdpahmaccaaDoor
open Go.RowKit QP

def plainT : ByteArray := ⟨#[112, 108, 97, 105, 110]⟩
def reverseT : ByteArray := ⟨#[114, 101, 118, 101, 114, 115, 101]⟩
def boldT : ByteArray := ⟨#[98, 111, 108, 100]⟩
def lineT : ByteArray := ⟨#[108, 105, 110, 101]⟩
def doubleT : ByteArray := ⟨#[100, 111, 117, 98, 108, 101]⟩
def blankT : ByteArray := ⟨#[98, 108, 97, 110, 107]⟩
def bottomT : ByteArray := ⟨#[98, 111, 116, 116, 111, 109]⟩
def topT : ByteArray := ⟨#[116, 111, 112]⟩
/-- the words of a choice -/
def wordsOf (t : ByteArray) : List ByteArray := if sameS t words1 then [plainT, reverseT, boldT] else if sameS t words2 then [lineT, doubleT, blankT] else if sameS t words3 then [bottomT, topT] else []
def isWord (t v : ByteArray) : Bool := (wordsOf t).any fun x => sameS x v
def isFlag (v : ByteArray) : Bool := sameS v onT || sameS v offT
def decG (s : ByteArray) : Int × Int := ((Lib.decodeGo s).1, (Lib.decodeGo s).2)
/-- is it a value of the option's kind? the program's answer -/
def takesVal (r : ORow) (v : ByteArray) : Bool :=
  if r.kind = 1 then isNum r.lo r.hi v else if r.kind = 2 then isWord r.words v else if r.kind = 3 then isFlag v else if r.kind = 4 then readCode decG v == 0 else decide (v.size ≤ 1024)
/-- the document's -/
def docVal (r : ORow) (v : ByteArray) : Bool :=
  if r.kind = 1 then isNum r.lo r.hi v else if r.kind = 2 then isWord r.words v else if r.kind = 3 then isFlag v else if r.kind = 4 then docRead v else decide (v.size ≤ 1024)
theorem doc_of_takes {r : ORow} {v : ByteArray} (h : takesVal r v = true) : docVal r v = true := by
  unfold takesVal at h
  unfold docVal
  repeat' split
  all_goals simp_all
  exact doc_of_read h

theorem row_cases {r : ORow} (h : r ∈ table) : ∃ k, ∃ h : k < 22, r = table[k]'h := by
  obtain ⟨k, hk, e⟩ := List.getElem_of_mem h
  exact ⟨k, hk, e.symm⟩
theorem rowOf_table : ∀ k, ∀ h : k < 22, rowOf (table[k]'h).name = some (table[k]'h) := by
  intro k h
  have hc : k = 0 ∨ k = 1 ∨ k = 2 ∨ k = 3 ∨ k = 4 ∨ k = 5 ∨ k = 6 ∨ k = 7 ∨ k = 8 ∨ k = 9 ∨ k = 10 ∨ k = 11 ∨ k = 12 ∨ k = 13 ∨ k = 14 ∨ k = 15 ∨ k = 16 ∨ k = 17 ∨ k = 18 ∨ k = 19 ∨ k = 20 ∨ k = 21 := by omega
  rcases hc with rfl | rfl | rfl | rfl | rfl | rfl | rfl | rfl | rfl | rfl | rfl | rfl | rfl | rfl | rfl | rfl | rfl | rfl | rfl | rfl | rfl | rfl
  · exact (show rowOf (table[0]'(by decide)).name = some (table[0]'(by decide)) by kernel_rfl)
  · exact (show rowOf (table[1]'(by decide)).name = some (table[1]'(by decide)) by kernel_rfl)
  · exact (show rowOf (table[2]'(by decide)).name = some (table[2]'(by decide)) by kernel_rfl)
  · exact (show rowOf (table[3]'(by decide)).name = some (table[3]'(by decide)) by kernel_rfl)
  · exact (show rowOf (table[4]'(by decide)).name = some (table[4]'(by decide)) by kernel_rfl)
  · exact (show rowOf (table[5]'(by decide)).name = some (table[5]'(by decide)) by kernel_rfl)
  · exact (show rowOf (table[6]'(by decide)).name = some (table[6]'(by decide)) by kernel_rfl)
  · exact (show rowOf (table[7]'(by decide)).name = some (table[7]'(by decide)) by kernel_rfl)
  · exact (show rowOf (table[8]'(by decide)).name = some (table[8]'(by decide)) by kernel_rfl)
  · exact (show rowOf (table[9]'(by decide)).name = some (table[9]'(by decide)) by kernel_rfl)
  · exact (show rowOf (table[10]'(by decide)).name = some (table[10]'(by decide)) by kernel_rfl)
  · exact (show rowOf (table[11]'(by decide)).name = some (table[11]'(by decide)) by kernel_rfl)
  · exact (show rowOf (table[12]'(by decide)).name = some (table[12]'(by decide)) by kernel_rfl)
  · exact (show rowOf (table[13]'(by decide)).name = some (table[13]'(by decide)) by kernel_rfl)
  · exact (show rowOf (table[14]'(by decide)).name = some (table[14]'(by decide)) by kernel_rfl)
  · exact (show rowOf (table[15]'(by decide)).name = some (table[15]'(by decide)) by kernel_rfl)
  · exact (show rowOf (table[16]'(by decide)).name = some (table[16]'(by decide)) by kernel_rfl)
  · exact (show rowOf (table[17]'(by decide)).name = some (table[17]'(by decide)) by kernel_rfl)
  · exact (show rowOf (table[18]'(by decide)).name = some (table[18]'(by decide)) by kernel_rfl)
  · exact (show rowOf (table[19]'(by decide)).name = some (table[19]'(by decide)) by kernel_rfl)
  · exact (show rowOf (table[20]'(by decide)).name = some (table[20]'(by decide)) by kernel_rfl)
  · exact (show rowOf (table[21]'(by decide)).name = some (table[21]'(by decide)) by kernel_rfl)
theorem num_any {lo hi : Int} {n : Nat} {s : ByteArray} (h : n ≤ top) (hs : s.data.toList = Lib.decDigits n) (h0 : lo ≤ n) (h1 : (n : Int) ≤ hi) : isNum lo hi s = true := by
  unfold isNum
  rw [rnum_iff.2 ⟨h, hs⟩]
  simp only [decide_eq_true h0, decide_eq_true h1, Bool.and_self]
theorem dig2 {n : Nat} (h : 10 ≤ n) (h1 : n < 100) : Lib.decDigits n = [UInt8.ofNat (48 + n / 10), UInt8.ofNat (48 + n % 10)] := by
  rw [Lib.decDigits, dif_neg (by omega), Lib.decDigits_one (by omega)]
  rfl
theorem dig3 {n : Nat} (h : 100 ≤ n) (h1 : n < 1000) : Lib.decDigits n = [UInt8.ofNat (48 + n / 10 / 10), UInt8.ofNat (48 + n / 10 % 10), UInt8.ofNat (48 + n % 10)] := by
  rw [Lib.decDigits, dif_neg (by omega), dig2 (by omega) (by omega)]
  rfl
theorem cb_doc : docRead ⟨#[67, 45, 98]⟩ = true := docRead_of (c := 98) (m := 4) (by kernel_rfl) (by kernel_rfl)
theorem first_doc : ∀ k, ∀ h : k < 22, docVal (table[k]'h) (table[k]'h).first = true := by
  intro k h
  have hc : k = 0 ∨ k = 1 ∨ k = 2 ∨ k = 3 ∨ k = 4 ∨ k = 5 ∨ k = 6 ∨ k = 7 ∨ k = 8 ∨ k = 9 ∨ k = 10 ∨ k = 11 ∨ k = 12 ∨ k = 13 ∨ k = 14 ∨ k = 15 ∨ k = 16 ∨ k = 17 ∨ k = 18 ∨ k = 19 ∨ k = 20 ∨ k = 21 := by omega
  rcases hc with rfl | rfl | rfl | rfl | rfl | rfl | rfl | rfl | rfl | rfl | rfl | rfl | rfl | rfl | rfl | rfl | rfl | rfl | rfl | rfl | rfl | rfl
  · exact num_any (lo := 0) (hi := 9999) (n := 0) (by decide) (by rw [Lib.decDigits_one (by decide)]; rfl) (by decide) (by decide)
  · exact num_any (lo := 1) (hi := 20) (n := 20) (by decide) (by rw [dig2 (by decide) (by decide)]; rfl) (by decide) (by decide)
  · exact num_any (lo := 1) (hi := 50) (n := 5) (by decide) (by rw [Lib.decDigits_one (by decide)]; rfl) (by decide) (by decide)
  · exact num_any (lo := 0) (hi := 100) (n := 1) (by decide) (by rw [Lib.decDigits_one (by decide)]; rfl) (by decide) (by decide)
  · exact num_any (lo := 0) (hi := 2000) (n := 200) (by decide) (by rw [dig3 (by decide) (by decide)]; rfl) (by decide) (by decide)
  · exact (show docVal (table[5]'(by decide)) (table[5]'(by decide)).first = true by kernel_rfl)
  · exact (show docVal (table[6]'(by decide)) (table[6]'(by decide)).first = true by kernel_rfl)
  · exact (show docVal (table[7]'(by decide)) (table[7]'(by decide)).first = true by kernel_rfl)
  · exact (show docVal (table[8]'(by decide)) (table[8]'(by decide)).first = true by kernel_rfl)
  · exact cb_doc
  · exact num_any (lo := 0) (hi := 100) (n := 2) (by decide) (by rw [Lib.decDigits_one (by decide)]; rfl) (by decide) (by decide)
  · exact (show docVal (table[11]'(by decide)) (table[11]'(by decide)).first = true by kernel_rfl)
  · exact (show docVal (table[12]'(by decide)) (table[12]'(by decide)).first = true by kernel_rfl)
  · exact (show docVal (table[13]'(by decide)) (table[13]'(by decide)).first = true by kernel_rfl)
  · exact (show docVal (table[14]'(by decide)) (table[14]'(by decide)).first = true by kernel_rfl)
  · exact (show docVal (table[15]'(by decide)) (table[15]'(by decide)).first = true by kernel_rfl)
  · exact (show docVal (table[16]'(by decide)) (table[16]'(by decide)).first = true by kernel_rfl)
  · exact (show docVal (table[17]'(by decide)) (table[17]'(by decide)).first = true by kernel_rfl)
  · exact (show docVal (table[18]'(by decide)) (table[18]'(by decide)).first = true by kernel_rfl)
  · exact (show docVal (table[19]'(by decide)) (table[19]'(by decide)).first = true by kernel_rfl)
  · exact (show docVal (table[20]'(by decide)) (table[20]'(by decide)).first = true by kernel_rfl)
  · exact (show docVal (table[21]'(by decide)) (table[21]'(by decide)).first = true by kernel_rfl)
theorem first_size : ∀ k, ∀ h : k < 22, (table[k]'h).first.size ≤ 100 := by decide +kernel

/-! ### what is set -/
structure Good (E : List (PK × ByteArray)) : Prop where
  val : ∀ p ∈ E, ∃ r, rowOf p.1.2.2 = some r ∧ takesVal r p.2 = true
  size : ∀ p ∈ E, p.2.size ≤ 1048576
  len : E.length ≤ 500
def tkOf (name v : ByteArray) : Bool := takesVal (ofRow name) v
theorem Good.nil : Good [] := ⟨by simp, by simp, by simp⟩
theorem Good.sub {E E' : List (PK × ByteArray)} (h : Good E) (hs : E'.Sublist E) : Good E' := ⟨fun p hp => h.val p (hs.subset hp), fun p hp => h.size p (hs.subset hp), Nat.le_trans hs.length_le h.len⟩
theorem set_ok {E : List (PK × ByteArray)} {sc id : Int} {name value : ByteArray} {tk : Bool} (h : setCode E sc id name value tk = 0) : mayCode sc id name = 0 ∧ tk = true ∧ ¬ (look E (sc, id, name) = none ∧ 500 ≤ E.length) ∧ ¬ ((ofRow name).kind = 5 ∧ 1024 < value.size) := by
  unfold setCode at h
  by_cases h1 : mayCode sc id name = 0
  · rw [if_neg (by simpa using h1)] at h
    by_cases h2 : (ofRow name).kind = 5 ∧ 1024 < value.size
    · rw [if_pos h2] at h; simp at h
    · rw [if_neg h2] at h
      cases tk with
      | false => simp at h
      | true =>
        simp only [Bool.true_eq_false, if_false] at h
        by_cases h3 : look E (sc, id, name) = none ∧ 500 ≤ E.length
        · rw [if_pos h3] at h; simp at h
        · exact ⟨h1, rfl, h3, h2⟩
  · rw [if_pos h1] at h
    exact absurd h h1
theorem put_len {E : List (PK × ByteArray)} {a : PK} {v : ByteArray} (h : E.length ≤ 500) (hn : ¬ (look E a = none ∧ 500 ≤ E.length)) : (put E a v).length ≤ 500 := by
  unfold put
  by_cases hc : E.any (fun p => decide (p.1 = a)) = true
  · rw [if_pos hc, List.length_map]; exact h
  · rw [if_neg hc, List.length_append]
    have : look E a = none := look_none fun p hp e => hc (List.any_eq_true.2 ⟨p, hp, by simpa using e⟩)
    have : ¬ 500 ≤ E.length := fun h5 => hn ⟨this, h5⟩
    simp
    omega
theorem Good.set {E : List (PK × ByteArray)} (h : Good E) (sc id : Int) (name value : ByteArray) (hs : value.size ≤ 1048576 ∨ (ofRow name).kind = 5) : Good (setE E sc id name value (tkOf name value)) := by
  unfold setE
  by_cases hc : setCode E sc id name value (tkOf name value) = 0
  · rw [if_pos hc]
    obtain ⟨h1, h2, h3, h4⟩ := set_ok hc
    obtain ⟨r, hr, hor, -⟩ := may_row h1
    refine ⟨fun p hp => ?_, fun p hp => ?_, put_len h.len h3⟩
    · rcases put_mem hp with hp | rfl
      · exact h.val p hp
      · exact ⟨r, hr, by rw [← hor]; exact h2⟩
    · rcases put_mem hp with hp | rfl
      · exact h.size p hp
      · rcases hs with hs | hs
        · exact hs
        · have : ¬ 1024 < value.size := fun h5 => h4 ⟨hs, h5⟩
          simp only
          omega
  · rw [if_neg hc]; exact h
theorem Good.add {E : List (PK × ByteArray)} (h : Good E) (sc id : Int) (name value : ByteArray) : Good (addE E sc id name value (tkOf name (nowVal E sc id name ++ value))) := by
  unfold addE
  split
  · rename_i hc
    exact h.set _ _ _ _ (.inr hc.2)
  · exact h
theorem turn_size (E : List (PK × ByteArray)) (sc id : Int) (name : ByteArray) : (turnVal E sc id name).size ≤ 3 := by
  unfold turnVal
  split <;> decide
theorem Good.turn {E : List (PK × ByteArray)} (h : Good E) (sc id : Int) (name : ByteArray) : Good (turnE E sc id name (tkOf name (turnVal E sc id name))) := by
  unfold turnE
  split
  · exact h.set _ _ _ _ (.inl (by have := turn_size E sc id name; omega))
  · exact h
theorem Good.unset {E : List (PK × ByteArray)} (h : Good E) (sc id : Int) (name : ByteArray) : Good (unsetE E sc id name) := by
  unfold unsetE
  split
  · exact h.sub List.filter_sublist
  · exact h
/-- Drop -/
def dropE (E : List (PK × ByteArray)) (sc id : Int) : List (PK × ByteArray) := if id = 0 then E else E.filter fun p => !(decide (p.1.1 = sc) && decide (p.1.2.1 = id))
theorem Good.drop {E : List (PK × ByteArray)} (h : Good E) (sc id : Int) : Good (dropE E sc id) := by
  unfold dropE
  split
  · exact h
  · exact h.sub List.filter_sublist
theorem first_of (name : ByteArray) : (ofRow name).first.size ≤ 100 := by
  unfold ofRow
  cases hr : rowOf name with
  | none => decide
  | some r =>
    obtain ⟨k, hk, rfl⟩ := row_cases (rowOf_mem hr).1
    exact first_size k hk
theorem Good.now {E : List (PK × ByteArray)} (h : Good E) (sc id : Int) (name : ByteArray) : (nowVal E sc id name).size ≤ 1048576 := by
  unfold nowVal
  cases hl : look E (sc, id, name) with
  | none =>
    have := first_of name
    simp only [Option.getD_none]
    omega
  | some v => exact h.size _ (look_some hl)

theorem places_name {sc : Int} {name : ByteArray} {s wi p : Int} {q : PK} (h : q ∈ placesOf sc name s wi p) : q.2.2 = name := by
  unfold placesOf at h
  rw [List.mem_append] at h
  rcases h with h | h
  · repeat' split at h
    all_goals simp at h
    · rw [h]
    · rw [h]
    · rcases h with h | h <;> rw [h]
  · simp at h
    rcases h with h | h <;> rw [h]
/-- what Get answers is a value of the option's kind -/
theorem Good.get {E : List (PK × ByteArray)} (h : Good E) (k : Nat) (hk : k < 22) (s wi p : Int) :
    (getVal (look E) (table[k]'hk).name s wi p).2 = 0 ∧ docVal (table[k]'hk) (getVal (look E) (table[k]'hk).name s wi p).1 = true ∧ (getVal (look E) (table[k]'hk).name s wi p).1.size ≤ 1048576 := by
  unfold getVal
  rw [rowOf_table k hk]
  refine ⟨rfl, ?_⟩
  simp only
  cases hf : (placesOf (table[k]'hk).scope (table[k]'hk).name s wi p).findSome? (look E) with
  | none =>
    have := first_size k hk
    exact ⟨first_doc k hk, by simp only [Option.getD_none]; omega⟩
  | some v =>
    obtain ⟨q, hq, hl⟩ := List.exists_of_findSome?_eq_some hf
    have hm := look_some hl
    obtain ⟨r, hr, ht⟩ := h.val _ hm
    have hn := places_name hq
    simp only at hr ht
    rw [hn, rowOf_table k hk] at hr
    injection hr with hr
    subst hr
    exact ⟨doc_of_takes ht, h.size _ hm⟩
end Go.Proofs.YtlmnhdpahmaccaaDoor
