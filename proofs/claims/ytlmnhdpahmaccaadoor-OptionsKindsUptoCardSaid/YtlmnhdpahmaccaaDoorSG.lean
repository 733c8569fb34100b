/- options: Turn, given what takes answers. -/
import Derived.Test.YtlmnhdpahmaccaaDoorSE
namespace Go.Proofs.YtlmnhdpahmaccaaDoor
open Go.RowKit QP

set_option maxHeartbeats 8000000 in
set_option maxRecDepth 100000 in
theorem turn_c (k b : Nat) (E : List (PK × ByteArray)) (sc id : Int) (name : ByteArray) (tk : Bool) (w : World) (h : OptIs w k b E) (hkb : k ≠ b) (hpk : OkPk (sc, id, name)) (hE : E.length ≤ 1000000)
    (ht : ∀ r, rowOf name = some r → ∀ w', Hid (Below w.heap.size w w') → Calls Tryd.prog 27 #[.agg #[.string r.name, .int .i64 r.scope, .int .i64 r.kind, .int .i64 r.lo, .int .i64 r.hi, .string r.words, .string r.first], .string (turnVal E sc id name)] w' fun e w'' => e = .returned (.bool tk) ∧ Hid (Below w'.heap.size w' w'')) :
    Calls Tryd.prog 17 #[.pointer (some ⟨k, 0, none⟩), .int .i64 sc, .int .i64 id, .string name] w fun e w' =>
      e = .returned (.int .i64 (turnCode E sc id name tk)) ∧ Hid (SetPost w k b (turnE E sc id name tk) w') := by
  have HO := Lib.hid h
  have HPK := Lib.hid hpk
  have HKB := Lib.hid hkb
  have HT := Lib.hid ht
  clear h hpk hkb ht
  obtain ⟨c, hc⟩ : ∃ c, turnCode E sc id name tk = c := ⟨_, rfl⟩
  have HC := Lib.hid hc
  rw [hc]
  obtain ⟨E', hE'⟩ : ∃ E', turnE E sc id name tk = E' := ⟨_, rfl⟩
  have HE' := Lib.hid hE'
  rw [hE']
  clear hc hE'
  go_enter Tryd.func17, Tryd.ntmps17
  go_wp2_with fail
  refine (may_c sc id name _).mono ?_
  rintro e w1 ⟨rfl, HB⟩
  by_cases hm : mayCode sc id name = 0
  · obtain ⟨r, hrow, hor, hrn⟩ := may_row hm
    rw [hor]
    have hm0 : (mayCode sc id name != 0) = false := by rw [hm]; rfl
    have HB2 := Lib.hid (below_box HB.out (.cells #[.string r.name, .int .i64 r.scope, .int .i64 r.kind, .int .i64 r.lo, .int .i64 r.hi, .string r.words, .string r.first] 54))
    have hnv : (look E (sc, id, r.name)).getD r.first = nowVal E sc id name := by unfold nowVal; rw [hor, hrn]
    by_cases hk5 : r.kind = 3
    · have q1 : (r.kind != 3) = false := by simpa using hk5
      have hcc : c = setCode E sc id name (turnVal E sc id name) tk := by rw [← HC.out]; unfold turnCode; rw [if_neg (fun h => h hm), hor, if_neg (fun h => h hk5)]
      have hee : E' = setE E sc id name (turnVal E sc id name) tk := by rw [← HE'.out]; unfold turnE; rw [if_pos ⟨hm, by rw [hor]; exact hk5⟩]
      have hnow := now_c k b E sc id r (w1.alloc (.cells #[.string r.name, .int .i64 r.scope, .int .i64 r.kind, .int .i64 r.lo, .int .i64 r.hi, .string r.words, .string r.first] 54)) (HO.out.below HB2.out) (by rw [hrn]; exact HPK.out)
      rw [hnv] at hnow
      have HCC := Lib.hid hcc
      have HEE := Lib.hid hee
      have hset := fun w' (hb : Below w.heap.size w w') => set_c k b E sc id name (turnVal E sc id name) tk w' (HO.out.below hb) HKB.out HPK.out hE (fun r hr w'' hb'' => HT.out r hr w'' (Lib.hid (below_of hb hb''.out)))
      obtain ⟨nv, hnve⟩ : ∃ nv, nowVal E sc id name = nv := ⟨_, rfl⟩
      simp only [hnve] at hnow hset
      clear hm hrow hor hrn hnv hk5 hcc hee
      obtain ⟨tv, htv⟩ : ∃ tv, turnVal E sc id name = tv := ⟨_, rfl⟩
      have htv2 : tv = if sameS nv onT then offT else onT := by rw [← htv]; unfold turnVal; rw [hnve]
      simp only [htv] at hset
      have HTV := Lib.hid htv
      clear htv
      go_wp2_with fail
      refine hnow.mono ?_
      rintro e w3 ⟨rfl, HB3⟩
      have HB23 := Lib.hid (below_of HB2.out HB3.out)
      cases hon : sameS nv onT with
      | true =>
        rw [hon] at htv2
        have hq : (nv.toList == onT.toList) = true := (sameS_beq _ _).trans hon
        have hq2 : (nv.toList == [111, 110]) = true := by rw [← hq, Go.ByteArray.toList_eq onT]; rfl
        have hset2 := hset _ HB23.out
        have hto : tv = offT := htv2
        rw [hto] at hset2
        have HTO := Lib.hid hto
        clear hset hon htv2 hto
        go_wp2_with fail
        refine hset2.mono ?_
        rintro e w4 ⟨rfl, HP4⟩
        go_wp2
        go_ret
        exact ⟨by rw [HCC.out, HTV.out, HTO.out]; rfl, Lib.hid (by rw [HEE.out, HTV.out, HTO.out]; exact SetPost.after HB23.out HP4.out)⟩
      | false =>
        rw [hon] at htv2
        have hq : (nv.toList == onT.toList) = false := (sameS_beq _ _).trans hon
        have hq1 : (nv.toList == (⟨#[111, 110]⟩ : ByteArray).toList) = false := hq
        have hq2 : (nv.toList == [111, 110]) = false := by rw [← hq, Go.ByteArray.toList_eq onT]; rfl
        have hset2 := hset _ HB23.out
        have hto : tv = onT := htv2
        rw [hto] at hset2
        have HTO := Lib.hid hto
        clear hset hon htv2 hto
        go_wp2_with fail
        refine hset2.mono ?_
        rintro e w4 ⟨rfl, HP4⟩
        go_wp2
        go_ret
        exact ⟨by rw [HCC.out, HTV.out, HTO.out]; rfl, Lib.hid (by rw [HEE.out, HTV.out, HTO.out]; exact SetPost.after HB23.out HP4.out)⟩
    · have q1 : (r.kind != 3) = true := by simpa using hk5
      have hcc : c = 125 := by rw [← HC.out]; unfold turnCode; rw [if_neg (fun h => h hm), hor, if_pos hk5]
      have hee : E' = E := by rw [← HE'.out]; unfold turnE; rw [if_neg (fun h => hk5 (by rw [← hor]; exact h.2))]
      subst hcc hee
      clear hm hrow hor hrn hnv hk5
      go_wp2
      go_ret
      exact ⟨rfl, Lib.hid (SetPost.of_below HO.out HB2.out)⟩
  · have hm0 : (mayCode sc id name != 0) = true := by simpa using hm
    have hcc : c = mayCode sc id name := by rw [← HC.out]; unfold turnCode; rw [if_pos hm]
    have hee : E' = E := by rw [← HE'.out]; unfold turnE; rw [if_neg (fun h => hm h.1)]
    subst hee
    have HCC := Lib.hid hcc
    obtain ⟨r, hor⟩ : ∃ r, ofRow name = r := ⟨_, rfl⟩
    rw [hor]
    have HB2 := Lib.hid (below_box HB.out (.cells #[.string r.name, .int .i64 r.scope, .int .i64 r.kind, .int .i64 r.lo, .int .i64 r.hi, .string r.words, .string r.first] 54))
    clear hm hcc HC hor
    go_wp2
    go_ret
    exact ⟨by rw [HCC.out]; rfl, Lib.hid (SetPost.of_below HO.out HB2.out)⟩
end Go.Proofs.YtlmnhdpahmaccaaDoor
