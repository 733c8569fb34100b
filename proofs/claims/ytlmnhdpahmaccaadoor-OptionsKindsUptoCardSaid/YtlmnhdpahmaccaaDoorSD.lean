/- options: now, Unset. -/
import Derived.Test.YtlmnhdpahmaccaaDoorSA
namespace Go.Proofs.YtlmnhdpahmaccaaDoor
open Go.RowKit QP

set_option maxHeartbeats 4000000 in
set_option maxRecDepth 100000 in
theorem now_c (k b : Nat) (E : List (PK × ByteArray)) (sc id : Int) (r : ORow) (w : World) (h : OptIs w k b E) (hpk : OkPk (sc, id, r.name)) :
    Calls Tryd.prog 28 #[.pointer (some ⟨k, 0, none⟩), .int .i64 sc, .int .i64 id, .agg #[.string r.name, .int .i64 r.scope, .int .i64 r.kind, .int .i64 r.lo, .int .i64 r.hi, .string r.words, .string r.first]] w fun e w' =>
      e = .returned (.string ((look E (sc, id, r.name)).getD r.first)) ∧ Hid (Below w.heap.size w w') := by
  have hb0 : Below w.heap.size w (w.alloc (.cells #[.string r.name, .int .i64 r.scope, .int .i64 r.kind, .int .i64 r.lo, .int .i64 r.hi, .string r.words, .string r.first] 54)) := (Below.refl _ _).alloc (Nat.le_refl _) _
  have ho := h.below hb0
  have kc : w.cell? ⟨k, 0, none⟩ = some (.map (some b)) := h.box.cell 0
  have hkl := h.box.lt
  have hlk := look_run (ho.map.drew) hpk
  have HB := Lib.hid hb0
  obtain ⟨v, hv⟩ : ∃ v, (look E (sc, id, r.name)).getD r.first = v := ⟨_, rfl⟩
  have HV := Lib.hid hv
  rw [hv]
  clear h ho hb0 hv
  cases hl : look E (sc, id, r.name) with
  | some u =>
    rw [hl] at hlk
    simp only [Option.map_some, Option.getD_some, Option.isSome_some] at hlk
    have hu : u = v := by have := HV.out; rw [hl] at this; exact this
    subst hu
    clear hl
    go_enter Tryd.func28, Tryd.ntmps28
    go_wp2_with fail
    go_region
    all_goals
      go_wp2
      go_ret
      exact ⟨rfl, Lib.hid HB.out.drew⟩
  | none =>
    rw [hl] at hlk
    simp only [Option.map_none, Option.getD_none, Option.isSome_none] at hlk
    have hu : r.first = v := by have := HV.out; rw [hl] at this; exact this
    have HU := Lib.hid hu
    clear hl hu
    go_enter Tryd.func28, Tryd.ntmps28
    go_wp2_with fail
    go_region
    all_goals
      go_wp2
      go_ret
      exact ⟨by rw [← HU.out]; rfl, Lib.hid HB.out.drew⟩

/-- what is set behind an Unset -/
def unsetE (E : List (PK × ByteArray)) (sc id : Int) (name : ByteArray) : List (PK × ByteArray) := if mayCode sc id name = 0 then drop E (sc, id, name) else E

set_option maxHeartbeats 4000000 in
set_option maxRecDepth 100000 in
theorem unset_c (k b : Nat) (E : List (PK × ByteArray)) (sc id : Int) (name : ByteArray) (w : World) (h : OptIs w k b E) (hkb : k ≠ b) (hpk : OkPk (sc, id, name)) :
    Calls Tryd.prog 18 #[.pointer (some ⟨k, 0, none⟩), .int .i64 sc, .int .i64 id, .string name] w fun e w' =>
      e = .returned (.int .i64 (mayCode sc id name)) ∧ Hid (SetPost w k b (unsetE E sc id name) w') := by
  have HO := Lib.hid h
  have HPK := Lib.hid hpk
  have HKB := Lib.hid hkb
  clear h hpk hkb
  obtain ⟨E', hE'⟩ : ∃ E', unsetE E sc id name = E' := ⟨_, rfl⟩
  have HE' := Lib.hid hE'
  rw [hE']
  clear hE'
  go_enter Tryd.func18, Tryd.ntmps18
  go_wp2_with fail
  refine (may_c sc id name _).mono ?_
  rintro e w1 ⟨rfl, HB⟩
  obtain ⟨r, hor⟩ : ∃ r, ofRow name = r := ⟨_, rfl⟩
  rw [hor]
  clear hor
  have HB2 := Lib.hid (below_box HB.out (.cells #[.string r.name, .int .i64 r.scope, .int .i64 r.kind, .int .i64 r.lo, .int .i64 r.hi, .string r.words, .string r.first] 54))
  by_cases hm : mayCode sc id name = 0
  · have hm0 : (mayCode sc id name != 0) = false := by rw [hm]; rfl
    have hee : E' = drop E (sc, id, name) := by rw [← HE'.out]; unfold unsetE; rw [if_pos hm]
    have HM := Lib.hid hm
    have HO2 := Lib.hid (HO.out.below HB2.out)
    have kc : w1.cell? ⟨k, 0, none⟩ = some (.map (some b)) := (HO.out.below HB.out).box.cell 0
    have hkl := (HO.out.below HB.out).box.lt
    obtain ⟨l, hl⟩ := keyOf_place HPK.out
    clear hm
    go_wp2_with (at_delete; refine wpList_map_drop C rfl (.tmp 24) (.tmp 28) 55 rfl keyed 9 Tryd.underlying55 rfl HO2.out.map (sc, id, name) rfl hl ?_; intro w3 hm3 hmod3; have HM3 := Lib.hid hm3; have HD3 := Lib.hid hmod3; clear hm3 hmod3)
    go_ret
    exact ⟨by rw [HM.out]; rfl, Lib.hid ⟨⟨HO2.out.box.keep HD3.out (fun e => HKB.out e), by rw [hee]; exact HM3.out⟩, (Mod.of_below HB2.out _).trans HD3.out⟩⟩
  · have hm0 : (mayCode sc id name != 0) = true := by simpa using hm
    have hee : E' = E := by rw [← HE'.out]; unfold unsetE; rw [if_neg hm]
    subst hee
    clear hm
    go_wp2
    go_ret
    exact ⟨rfl, Lib.hid (SetPost.of_below HO.out HB2.out)⟩
end Go.Proofs.YtlmnhdpahmaccaaDoor
