/- options: Add, Turn, given what takes answers. -/
import Derived.Test.YtlmnhdpahmaccaaDoorSD
namespace Go.Proofs.YtlmnhdpahmaccaaDoor
open Go.RowKit QP

/-- what is set there now, or stands there at the beginning -/
def nowVal (E : List (PK × ByteArray)) (sc id : Int) (name : ByteArray) : ByteArray := (look E (sc, id, name)).getD (ofRow name).first
def addCode (E : List (PK × ByteArray)) (sc id : Int) (name value : ByteArray) (tk : Bool) : Int :=
  if mayCode sc id name ≠ 0 then mayCode sc id name else if (ofRow name).kind ≠ 5 then 125 else setCode E sc id name (nowVal E sc id name ++ value) tk
def addE (E : List (PK × ByteArray)) (sc id : Int) (name value : ByteArray) (tk : Bool) : List (PK × ByteArray) :=
  if mayCode sc id name = 0 ∧ (ofRow name).kind = 5 then setE E sc id name (nowVal E sc id name ++ value) tk else E
def onT : ByteArray := ⟨#[111, 110]⟩
def offT : ByteArray := ⟨#[111, 102, 102]⟩
def turnVal (E : List (PK × ByteArray)) (sc id : Int) (name : ByteArray) : ByteArray := if sameS (nowVal E sc id name) onT then offT else onT
def turnCode (E : List (PK × ByteArray)) (sc id : Int) (name : ByteArray) (tk : Bool) : Int :=
  if mayCode sc id name ≠ 0 then mayCode sc id name else if (ofRow name).kind ≠ 3 then 125 else setCode E sc id name (turnVal E sc id name) tk
def turnE (E : List (PK × ByteArray)) (sc id : Int) (name : ByteArray) (tk : Bool) : List (PK × ByteArray) :=
  if mayCode sc id name = 0 ∧ (ofRow name).kind = 3 then setE E sc id name (turnVal E sc id name) tk else E
theorem may_row {sc id : Int} {name : ByteArray} (h : mayCode sc id name = 0) : ∃ r, rowOf name = some r ∧ ofRow name = r ∧ r.name = name := by
  cases hr : rowOf name with
  | none => unfold mayCode at h; rw [hr] at h; simp at h
  | some r => exact ⟨r, rfl, by unfold ofRow; rw [hr]; rfl, (rowOf_mem hr).2⟩
theorem SetPost.after {w w1 w2 : World} {k b : Nat} {E' : List (PK × ByteArray)} (hb : Below w.heap.size w w1) (h : SetPost w1 k b E' w2) : SetPost w k b E' w2 := ⟨h.o, (Mod.of_below hb _).trans h.mod⟩

set_option maxHeartbeats 8000000 in
set_option maxRecDepth 100000 in
theorem add_c (k b : Nat) (E : List (PK × ByteArray)) (sc id : Int) (name value : ByteArray) (tk : Bool) (w : World) (h : OptIs w k b E) (hkb : k ≠ b) (hpk : OkPk (sc, id, name)) (hE : E.length ≤ 1000000) (hsum : (nowVal E sc id name).size + value.size ≤ 9223372036854775807)
    (ht : ∀ r, rowOf name = some r → ∀ w', Hid (Below w.heap.size w w') → Calls Tryd.prog 27 #[.agg #[.string r.name, .int .i64 r.scope, .int .i64 r.kind, .int .i64 r.lo, .int .i64 r.hi, .string r.words, .string r.first], .string (nowVal E sc id name ++ value)] w' fun e w'' => e = .returned (.bool tk) ∧ Hid (Below w'.heap.size w' w'')) :
    Calls Tryd.prog 16 #[.pointer (some ⟨k, 0, none⟩), .int .i64 sc, .int .i64 id, .string name, .string value] w fun e w' =>
      e = .returned (.int .i64 (addCode E sc id name value tk)) ∧ Hid (SetPost w k b (addE E sc id name value tk) w') := by
  have HO := Lib.hid h
  have HPK := Lib.hid hpk
  have HKB := Lib.hid hkb
  have HT := Lib.hid ht
  clear h hpk hkb ht
  obtain ⟨c, hc⟩ : ∃ c, addCode E sc id name value tk = c := ⟨_, rfl⟩
  have HC := Lib.hid hc
  rw [hc]
  obtain ⟨E', hE'⟩ : ∃ E', addE E sc id name value tk = E' := ⟨_, rfl⟩
  have HE' := Lib.hid hE'
  rw [hE']
  clear hc hE'
  go_enter Tryd.func16, Tryd.ntmps16
  go_wp2_with fail
  refine (may_c sc id name _).mono ?_
  rintro e w1 ⟨rfl, HB⟩
  by_cases hm : mayCode sc id name = 0
  · obtain ⟨r, hrow, hor, hrn⟩ := may_row hm
    rw [hor]
    have hm0 : (mayCode sc id name != 0) = false := by rw [hm]; rfl
    have HB2 := Lib.hid (below_box HB.out (.cells #[.string r.name, .int .i64 r.scope, .int .i64 r.kind, .int .i64 r.lo, .int .i64 r.hi, .string r.words, .string r.first] 54))
    have hnv : (look E (sc, id, r.name)).getD r.first = nowVal E sc id name := by unfold nowVal; rw [hor, hrn]
    by_cases hk5 : r.kind = 5
    · have q1 : (r.kind != 5) = false := by simpa using hk5
      have hcc : c = setCode E sc id name (nowVal E sc id name ++ value) tk := by rw [← HC.out]; unfold addCode; rw [if_neg (fun h => h hm), hor, if_neg (fun h => h hk5)]
      have hee : E' = setE E sc id name (nowVal E sc id name ++ value) tk := by rw [← HE'.out]; unfold addE; rw [if_pos ⟨hm, by rw [hor]; exact hk5⟩]
      have hnow := now_c k b E sc id r (w1.alloc (.cells #[.string r.name, .int .i64 r.scope, .int .i64 r.kind, .int .i64 r.lo, .int .i64 r.hi, .string r.words, .string r.first] 54)) (HO.out.below HB2.out) (by rw [hrn]; exact HPK.out)
      rw [hnv] at hnow
      have HCC := Lib.hid hcc
      have HEE := Lib.hid hee
      have hset := fun w' (hb : Below w.heap.size w w') => set_c k b E sc id name (nowVal E sc id name ++ value) tk w' (HO.out.below hb) HKB.out HPK.out hE (fun r hr w'' hb'' => HT.out r hr w'' (Lib.hid (below_of hb hb''.out)))
      obtain ⟨nv, hnve⟩ : ∃ nv, nowVal E sc id name = nv := ⟨_, rfl⟩
      simp only [hnve] at hnow hset hsum
      clear hm hrow hor hrn hnv hk5 hcc hee
      go_wp2_with fail
      refine hnow.mono ?_
      rintro e w3 ⟨rfl, HB3⟩
      have HB23 := Lib.hid (below_of HB2.out HB3.out)
      go_wp2_with fail
      refine (hset _ HB23.out).mono ?_
      rintro e w4 ⟨rfl, HP4⟩
      go_wp2
      go_ret
      exact ⟨by rw [HCC.out, hnve]; rfl, Lib.hid (by rw [HEE.out, hnve]; exact SetPost.after HB23.out HP4.out)⟩
    · have q1 : (r.kind != 5) = true := by simpa using hk5
      have hcc : c = 125 := by rw [← HC.out]; unfold addCode; rw [if_neg (fun h => h hm), hor, if_pos hk5]
      have hee : E' = E := by rw [← HE'.out]; unfold addE; rw [if_neg (fun h => hk5 (by rw [← hor]; exact h.2))]
      subst hcc hee
      clear hm hrow hor hrn hnv hk5
      go_wp2
      go_ret
      exact ⟨rfl, Lib.hid (SetPost.of_below HO.out HB2.out)⟩
  · have hm0 : (mayCode sc id name != 0) = true := by simpa using hm
    have hcc : c = mayCode sc id name := by rw [← HC.out]; unfold addCode; rw [if_pos hm]
    have hee : E' = E := by rw [← HE'.out]; unfold addE; rw [if_neg (fun h => hm h.1)]
    subst hee
    have HCC := Lib.hid hcc
    obtain ⟨r, hor⟩ : ∃ r, ofRow name = r := ⟨_, rfl⟩
    rw [hor]
    have HB2 := Lib.hid (below_box HB.out (.cells #[.string r.name, .int .i64 r.scope, .int .i64 r.kind, .int .i64 r.lo, .int .i64 r.hi, .string r.words, .string r.first] 54))
    clear hm hcc HC hor
    go_wp2
    go_ret
    exact ⟨by rw [HCC.out]; rfl, Lib.hid (SetPost.of_below HO.out HB2.out)⟩
end Go.Proofs.YtlmnhdpahmaccaaDoor
