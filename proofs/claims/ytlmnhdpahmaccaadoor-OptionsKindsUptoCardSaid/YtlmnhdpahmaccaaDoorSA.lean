/- options: Set, given what 'takes' answers. -/
import Derived.Test.YtlmnhdpahmaccaaDoorTD
namespace Go.Proofs.YtlmnhdpahmaccaaDoor
open Go.RowKit QP

def setCode (E : List (PK × ByteArray)) (sc id : Int) (name value : ByteArray) (tk : Bool) : Int :=
  if mayCode sc id name ≠ 0 then mayCode sc id name else if (ofRow name).kind = 5 ∧ 1024 < value.size then 2 else if tk = false then 125 else if look E (sc, id, name) = none ∧ 500 ≤ E.length then 3 else 0
def setE (E : List (PK × ByteArray)) (sc id : Int) (name value : ByteArray) (tk : Bool) : List (PK × ByteArray) := if setCode E sc id name value tk = 0 then put E (sc, id, name) value else E

/-- Options behind a call that wrote its map alone -/
structure SetPost (w : World) (k b : Nat) (E' : List (PK × ByteArray)) (w' : World) : Prop where
  o : OptIs w' k b E'
  mod : Mod (fun j => j = b) w w'
theorem SetPost.of_below {w w' : World} {k b : Nat} {E : List (PK × ByteArray)} (h : OptIs w k b E) (hb : Below w.heap.size w w') : SetPost w k b E w' := ⟨h.below hb, Mod.of_below hb _⟩

theorem put_run {w : World} {b : Nat} {E : List (PK × ByteArray)} (h : MapIs C w b E) {q : PK} (hq : OkPk q) (v : ByteArray) :
    ∃ w1, (Instr.mapUpdate 55 (.map (some b)) (.agg #[.int .i64 q.1, .int .i64 q.2.1, .string q.2.2]) (.string v)).run Tryd.prog w = .ok () w1 ∧ MapIs C w1 b (put E q v) ∧ Mod (fun j => j = b) w w1 := by
  obtain ⟨l, hl⟩ := keyOf_place hq
  exact h.run_put keyed Tryd.underlying55 q hl v
theorem len_run {w : World} {b : Nat} {E : List (PK × ByteArray)} (h : MapIs C w b E) (ty : TypeId) : (Builtin.len_ #[55] ty #[.map (some b)]).run Tryd.prog w = .ok (.int .i64 E.length) w := h.run_len Tryd.underlying55 ty

set_option maxHeartbeats 8000000 in
set_option maxRecDepth 100000 in
theorem set_c (k b : Nat) (E : List (PK × ByteArray)) (sc id : Int) (name value : ByteArray) (tk : Bool) (w : World) (h : OptIs w k b E) (hkb : k ≠ b) (hpk : OkPk (sc, id, name)) (hE : E.length ≤ 1000000)
    (ht : ∀ r, rowOf name = some r → ∀ w', Hid (Below w.heap.size w w') → Calls Tryd.prog 27 #[.agg #[.string r.name, .int .i64 r.scope, .int .i64 r.kind, .int .i64 r.lo, .int .i64 r.hi, .string r.words, .string r.first], .string value] w' fun e w'' => e = .returned (.bool tk) ∧ Hid (Below w'.heap.size w' w'')) :
    Calls Tryd.prog 15 #[.pointer (some ⟨k, 0, none⟩), .int .i64 sc, .int .i64 id, .string name, .string value] w fun e w' =>
      e = .returned (.int .i64 (setCode E sc id name value tk)) ∧ Hid (SetPost w k b (setE E sc id name value tk) w') := by
  have HO := Lib.hid h
  have HPK := Lib.hid hpk
  have HT := Lib.hid ht
  have HKB := Lib.hid hkb
  clear h hpk ht hkb
  obtain ⟨c, hc⟩ : ∃ c, setCode E sc id name value tk = c := ⟨_, rfl⟩
  have HC := Lib.hid hc
  rw [hc]
  obtain ⟨E', hE'⟩ : ∃ E', setE E sc id name value tk = E' := ⟨_, rfl⟩
  have HE' := Lib.hid hE'
  rw [hE']
  clear hc hE'
  go_enter Tryd.func15, Tryd.ntmps15
  go_wp2_with fail
  refine (may_c sc id name _).mono ?_
  rintro e w1 ⟨rfl, HB⟩
  obtain ⟨r, hor⟩ : ∃ r, ofRow name = r := ⟨_, rfl⟩
  rw [hor]
  have HOR := Lib.hid hor
  clear hor
  have HB2 := Lib.hid (below_box HB.out (.cells #[.string r.name, .int .i64 r.scope, .int .i64 r.kind, .int .i64 r.lo, .int .i64 r.hi, .string r.words, .string r.first] 54))
  have hbx := Blk.new w1 54 #[.string r.name, .int .i64 r.scope, .int .i64 r.kind, .int .i64 r.lo, .int .i64 r.hi, .string r.words, .string r.first]
  have HBX := Lib.hid hbx
  clear hbx
  by_cases hm : mayCode sc id name = 0
  · have hm0 : (mayCode sc id name != 0) = false := by rw [hm]; rfl
    obtain ⟨r', hrow⟩ : ∃ r', rowOf name = some r' := by
      cases hr : rowOf name with
      | none => unfold mayCode at hm; rw [hr] at hm; simp at hm
      | some r' => exact ⟨r', rfl⟩
    have hrr : r' = r := by
      have := HOR.out
      unfold ofRow at this
      rw [hrow] at this
      exact this
    subst hrr
    have HTR := Lib.hid (HT.out r' hrow)
    have HM := Lib.hid hm
    by_cases hk5 : r'.kind = 5 ∧ 1024 < value.size
    · have q1 : (r'.kind == 5) = true := by simpa using hk5.1
      have q2 : decide ((value.size : Int) > 1024) = true := by simp; omega
      have hcc : c = 2 := by rw [← HC.out]; unfold setCode; rw [if_neg (fun h => h HM.out), HOR.out, if_pos hk5]
      have hee : E' = E := by rw [← HE'.out]; unfold setE; rw [HC.out, hcc, if_neg (by decide)]
      subst hcc hee
      clear hk5 hm hrow
      go_wp2
      go_ret
      exact ⟨rfl, Lib.hid (SetPost.of_below HO.out HB2.out)⟩
    · have hcv : c = if tk = false then 125 else if look E (sc, id, name) = none ∧ 500 ≤ E.length then 3 else 0 := by
        rw [← HC.out]; unfold setCode; rw [if_neg (fun h => h HM.out), HOR.out, if_neg hk5]
      have HCV := Lib.hid hcv
      have q12 : (r'.kind == 5) = false ∨ ((r'.kind == 5) = true ∧ decide ((value.size : Int) > 1024) = false) := by
        by_cases h5 : r'.kind = 5
        · exact .inr ⟨by simpa using h5, by simp; omega⟩
        · exact .inl (by simpa using h5)
      clear hk5 hm hrow hcv
      rcases q12 with q1 | ⟨q1, q2⟩
      all_goals
        obtain ⟨z0, z1, z2, z3, z4, z5, z6, -⟩ := seven HBX.out
        go_wp2_with fail
        refine (HTR.out _ (Lib.hid HB2.out)).mono ?_
        rintro e w3 ⟨rfl, HB3⟩
        have HB3' := Lib.hid (below_of HB2.out HB3.out)
        cases tk with
        | false =>
          have hcc : c = 125 := by rw [HCV.out]; rfl
          have hee : E' = E := by rw [← HE'.out]; unfold setE; rw [HC.out, hcc, if_neg (by decide)]
          subst hcc hee
          go_wp2
          go_ret
          exact ⟨rfl, Lib.hid (SetPost.of_below HO.out HB3'.out)⟩
        | true =>
          have HO3 := Lib.hid (HO.out.below HB3'.out)
          have kc : w3.cell? ⟨k, 0, none⟩ = some (.map (some b)) := HO3.out.box.cell 0
          have hkl := HO3.out.box.lt
          have HO4 := Lib.hid (HO3.out.below (w1 := w3.alloc (.cells #[.int .i64 sc, .int .i64 id, .string name] 62)) ((Below.refl _ _).alloc (Nat.le_refl _) _))
          have HB4 := Lib.hid (below_box HB3'.out (.cells #[.int .i64 sc, .int .i64 id, .string name] 62))
          have HM4 := Lib.hid HO4.out.map
          have hlk := look_run (HM4.out.drew) HPK.out
          clear z0 z1 z2 z3 z4 z5 z6
          cases hlq : look E (sc, id, name) with
          | some v =>
            rw [hlq] at hlk
            simp only [Option.map_some, Option.getD_some, Option.isSome_some] at hlk
            have hcc : c = 0 := by rw [HCV.out, if_neg (by decide), hlq, if_neg (by simp)]
            have hee : E' = put E (sc, id, name) value := by rw [← HE'.out]; unfold setE; rw [HC.out, hcc, if_pos rfl]
            subst hcc
            obtain ⟨w5, hrun, hm5, hmod5⟩ := put_run (HM4.out.drew.drew) HPK.out value
            have HP5 : Hid (SetPost w k b E' w5) := Lib.hid ⟨⟨(HO4.out.box.drew.drew).keep hmod5 (fun e => HKB.out e), by rw [hee]; exact hm5⟩, (Mod.of_below HB4.out.drew.drew _).trans hmod5⟩
            clear hm5 hmod5 hlq hee
            go_wp2_with fail
            go_region
            all_goals
              go_wp2
              try simp only [Act.put, List.getElem_toArray, List.getElem_cons_succ, List.getElem_cons_zero, List.setIfInBounds_toArray, List.set_cons_zero, List.set_cons_succ]
              go_region
              all_goals
                go_wp2
                go_ret
                exact ⟨rfl, HP5⟩
          | none =>
            rw [hlq] at hlk
            simp only [Option.map_none, Option.getD_none, Option.isSome_none] at hlk
            have hlen := len_run (HM4.out.drew) 3
            by_cases hfull : 500 ≤ E.length
            · have q5 : decide ((E.length : Int) ≥ 500) = true := by simp; omega
              have hcc : c = 3 := by rw [HCV.out, if_neg (by decide), if_pos ⟨hlq, hfull⟩]
              have hee : E' = E := by rw [← HE'.out]; unfold setE; rw [HC.out, hcc, if_neg (by decide)]
              subst hcc hee
              clear hlq hfull
              go_wp2_with fail
              go_region
              all_goals
                go_wp2
                go_ret
                exact ⟨rfl, Lib.hid (SetPost.of_below HO.out HB4.out.drew)⟩
            · have q5 : decide ((E.length : Int) ≥ 500) = false := by simp; omega
              have hcc : c = 0 := by rw [HCV.out, if_neg (by decide), if_neg (fun h => hfull h.2)]
              have hee : E' = put E (sc, id, name) value := by rw [← HE'.out]; unfold setE; rw [HC.out, hcc, if_pos rfl]
              subst hcc
              clear hfull
              obtain ⟨w5, hrun, hm5, hmod5⟩ := put_run (HM4.out.drew.drew) HPK.out value
              have HP5 : Hid (SetPost w k b E' w5) := Lib.hid ⟨⟨(HO4.out.box.drew.drew).keep hmod5 (fun e => HKB.out e), by rw [hee]; exact hm5⟩, (Mod.of_below HB4.out.drew.drew _).trans hmod5⟩
              clear hm5 hmod5 hlq hee
              go_wp2_with fail
              go_region
              all_goals
                go_wp2
                try simp only [Act.put, List.getElem_toArray, List.getElem_cons_succ, List.getElem_cons_zero, List.setIfInBounds_toArray, List.set_cons_zero, List.set_cons_succ]
                go_region
                all_goals
                  go_wp2
                  go_ret
                  exact ⟨rfl, HP5⟩
  · have hm0 : (mayCode sc id name != 0) = true := by simpa using hm
    have hcc : c = mayCode sc id name := by rw [← HC.out]; unfold setCode; rw [if_pos hm]
    have hee : E' = E := by rw [← HE'.out]; unfold setE; rw [HC.out, hcc, if_neg hm]
    subst hee
    have HCC := Lib.hid hcc
    clear hm hcc HC
    go_wp2
    go_ret
    exact ⟨by rw [HCC.out]; rfl, Lib.hid (SetPost.of_below HO.out HB2.out)⟩
end Go.Proofs.YtlmnhdpahmaccaaDoor
