/- keys: named, Valid. -/
import Derived.Test.YtlmnhdpahmaccaaDoorKA
namespace Go.Proofs.YtlmnhdpahmaccaaDoor
open Go.RowKit QP

theorem shape_cell {w : World} (h : ShapesAt w) (i : Nat) (hi : i < 22) : ∃ s, shapes[i]? = some s ∧ w.cell? ⟨2, i * 4, none⟩ = some (.string s.name) := by
  obtain ⟨s, h1, h2⟩ := shapesCells_get i hi 0 (by decide)
  refine ⟨s, h1, ?_⟩
  have := h (i * 4) (.string s.name) (by rw [← Nat.add_zero (i * 4), h2]; rfl)
  rwa [Nat.zero_add] at this

set_option maxHeartbeats 4000000 in
set_option maxRecDepth 100000 in
theorem named_c (c : Int) (w : World) (h : ShapesAt w) : Calls Tryd.prog 62 #[.int .i64 c] w fun e w' => e = .returned (.string (named c)) ∧ w = w' := by
  have HS := Lib.hid h
  clear h
  by_cases h1 : c = 32
  · subst h1
    go_enter Tryd.func62, Tryd.ntmps62
    go_wp2
    go_ret
    exact ⟨rfl, rfl⟩
  by_cases h2 : c = 13
  · subst h2
    go_enter Tryd.func62, Tryd.ntmps62
    go_wp2
    go_ret
    exact ⟨rfl, rfl⟩
  by_cases h3 : c = 9
  · subst h3
    go_enter Tryd.func62, Tryd.ntmps62
    go_wp2
    go_ret
    exact ⟨rfl, rfl⟩
  by_cases h4 : c = 27
  · subst h4
    go_enter Tryd.func62, Tryd.ntmps62
    go_wp2
    go_ret
    exact ⟨rfl, rfl⟩
  by_cases h5 : c = 127
  · subst h5
    go_enter Tryd.func62, Tryd.ntmps62
    go_wp2
    go_ret
    exact ⟨rfl, rfl⟩
  by_cases h6 : c = 16777239
  · subst h6
    go_enter Tryd.func62, Tryd.ntmps62
    go_wp2
    go_ret
    exact ⟨rfl, rfl⟩
  have hn : named c = match shapes[(c - 16777217).toNat]? with | some s => if special c then s.name else ⟨#[]⟩ | none => ⟨#[]⟩ := by
    unfold named
    rw [if_neg h1, if_neg h2, if_neg h3, if_neg h4, if_neg h5, if_neg h6]
    rfl
  have q1 : (c == 32) = false := by simpa using h1
  have q2 : (c == 13) = false := by simpa using h2
  have q3 : (c == 9) = false := by simpa using h3
  have q4 : (c == 27) = false := by simpa using h4
  have q5 : (c == 127) = false := by simpa using h5
  have q6 : (c == 16777239) = false := by simpa using h6
  have HN := Lib.hid hn
  clear hn h1 h2 h3 h4 h5 h6
  cases hs : special c with
  | false =>
    have hv : named c = ⟨#[]⟩ := by
      rw [HN.out, hs]
      split <;> rfl
    have HV := Lib.hid hv
    have HSP := Lib.hid hs
    clear hv hs HN
    go_enter Tryd.func62, Tryd.ntmps62
    go_wp2_with fail
    refine (special_c c w).mono ?_
    rintro e w1 ⟨rfl, rfl⟩
    rw [HSP.out]
    go_wp2
    go_ret
    exact ⟨by rw [HV.out]; rfl, rfl⟩
  | true =>
    have hr : 16777217 ≤ c ∧ c ≤ 16777238 := by
      simp [special] at hs
      exact hs
    obtain ⟨i, hi⟩ : ∃ i : Nat, c = 16777217 + i := ⟨(c - 16777217).toNat, by omega⟩
    obtain ⟨s, e1, e2⟩ := shape_cell HS.out i (by omega)
    have hv : named c = s.name := by
      rw [HN.out, hs, show (c - 16777217).toNat = i by omega, e1]
      rfl
    have HV := Lib.hid hv
    have HSP := Lib.hid hs
    have hi22 : (i : Int) < 22 := by omega
    have hsub : c - 16777217 = (i : Int) := by omega
    clear hv hs HN e1 hi
    go_enter Tryd.func62, Tryd.ntmps62
    go_wp2_with fail
    refine (special_c c w).mono ?_
    rintro e w1 ⟨rfl, rfl⟩
    rw [HSP.out]
    go_wp2
    go_ret
    exact ⟨by rw [HV.out]; rfl, rfl⟩

theorem plain_bits {m : Int} (h0 : 0 ≤ m) (h1 : m ≤ 7) : (bits BinOp.andNot IntKind.i64 m 2 == 0) = plainMods m := by
  rcases mods_cases h0 h1 with rfl | rfl | rfl | rfl | rfl | rfl | rfl | rfl <;> decide
theorem shift_bits {m : Int} (h0 : 0 ≤ m) (h1 : m ≤ 7) : (bits BinOp.and IntKind.i64 m 1 == 0) = !shifted m := by
  rcases mods_cases h0 h1 with rfl | rfl | rfl | rfl | rfl | rfl | rfl | rfl <;> decide

set_option maxHeartbeats 8000000 in
set_option maxRecDepth 100000 in
theorem valid_c (c m : Int) (h0 : 0 ≤ m) (h1 : m ≤ 7) (w : World) : Calls Tryd.prog 64 #[.agg #[.int .i64 c, .int .i64 m]] w fun e w' => e = .returned (.bool (validKey c m)) ∧ Hid (Below w.heap.size w w') := by
  have q0 : decide (m < 0) = false := by simpa using h0
  have q7 : decide (m > 7) = false := by simpa using h1
  have pb := plain_bits h0 h1
  have sb := shift_bits h0 h1
  obtain ⟨pl, hpl⟩ : ∃ pl, plainMods m = pl := ⟨_, rfl⟩
  obtain ⟨sh, hsh⟩ : ∃ sh, shifted m = sh := ⟨_, rfl⟩
  rw [hpl] at pb
  rw [hsh] at sb
  have hval : validKey c m = if special c then true else if c = 16777239 then decide (m = 0) else if c = 32 then !sh else if c = 13 ∨ c = 9 ∨ c = 27 ∨ c = 127 then pl else if pl then character c else !sh && QP.control c := by
    unfold validKey
    rw [if_neg (by omega), hpl, hsh]
  have HVAL := Lib.hid hval
  have HB := Lib.hid ((Below.refl w.heap.size w).alloc (Nat.le_refl _) (.cells #[.int .i64 c, .int .i64 m] 76))
  clear hval hpl hsh h0 h1
  obtain ⟨v, hv0⟩ : ∃ v, validKey c m = v := ⟨_, rfl⟩
  rw [hv0]
  have HV := Lib.hid (hv0.symm.trans HVAL.out)
  clear hv0 HVAL
  go_enter Tryd.func64, Tryd.ntmps64
  go_wp2_with fail
  refine (special_c c _).mono ?_
  rintro e w1 ⟨rfl, rfl⟩
  cases hs : special c with
  | true =>
    have hv : v = true := by rw [HV.out, hs]; rfl
    subst hv
    clear HV hs
    go_wp2
    go_ret
    exact ⟨rfl, HB⟩
  | false =>
    rw [hs, if_neg (by decide)] at HV
    clear hs
    by_cases a1 : c = 16777239
    · have hv : v = decide (m = 0) := by rw [HV.out, if_pos a1]
      have q1 : (c == 16777239) = true := by simpa using a1
      have hm0 : (m == 0) = decide (m = 0) := by rw [Bool.eq_iff_iff]; simp
      subst hv
      clear HV a1
      go_wp2
      go_ret
      exact ⟨by rw [← hm0]; rfl, HB⟩
    rw [if_neg a1] at HV
    have q1 : (c == 16777239) = false := by simpa using a1
    clear a1
    by_cases a2 : c = 32
    · have hv : v = !sh := by rw [HV.out, if_pos a2]
      have q2 : (c == 32) = true := by simpa using a2
      subst hv
      clear HV a2
      go_wp2
      go_ret
      exact ⟨rfl, HB⟩
    rw [if_neg a2] at HV
    have q2 : (c == 32) = false := by simpa using a2
    clear a2
    by_cases a3 : c = 13
    · have hv : v = pl := by rw [HV.out, if_pos (.inl a3)]
      have q3 : (c == 13) = true := by simpa using a3
      subst hv
      clear HV a3
      go_wp2
      go_ret
      exact ⟨rfl, HB⟩
    have q3 : (c == 13) = false := by simpa using a3
    have b3 := a3
    clear a3
    by_cases a3 : c = 9
    · have hv : v = pl := by rw [HV.out, if_pos (.inr (.inl a3))]
      have q4 : (c == 9) = true := by simpa using a3
      subst hv
      clear HV a3
      go_wp2
      go_ret
      exact ⟨rfl, HB⟩
    have q4 : (c == 9) = false := by simpa using a3
    have b4 := a3
    clear a3
    by_cases a3 : c = 27
    · have hv : v = pl := by rw [HV.out, if_pos (.inr (.inr (.inl a3)))]
      have q5 : (c == 27) = true := by simpa using a3
      subst hv
      clear HV a3
      go_wp2
      go_ret
      exact ⟨rfl, HB⟩
    have q5 : (c == 27) = false := by simpa using a3
    have b5 := a3
    clear a3
    by_cases a3 : c = 127
    · have hv : v = pl := by rw [HV.out, if_pos (.inr (.inr (.inr a3)))]
      have q6 : (c == 127) = true := by simpa using a3
      subst hv
      clear HV a3
      go_wp2
      go_ret
      exact ⟨rfl, HB⟩
    have q6 : (c == 127) = false := by simpa using a3
    have b6 := a3
    clear a3
    rw [if_neg (fun h => h.elim b3 fun h => h.elim b4 fun h => h.elim b5 b6)] at HV
    clear b3 b4 b5 b6
    cases pl with
    | true =>
      have hv : v = character c := HV.out
      subst hv
      clear HV
      go_wp2_with fail
      refine (character_c c _).mono ?_
      rintro e w1 ⟨rfl, rfl⟩
      go_wp2
      go_ret
      exact ⟨rfl, HB⟩
    | false =>
      cases sh with
      | true =>
        have hv : v = false := HV.out
        subst hv
        clear HV
        go_wp2
        go_ret
        exact ⟨rfl, HB⟩
      | false =>
        have hv : v = QP.control c := HV.out
        subst hv
        clear HV
        go_wp2_with fail
        refine (control_c c _).mono ?_
        rintro e w1 ⟨rfl, rfl⟩
        go_wp2
        go_ret
        exact ⟨rfl, HB⟩
end Go.Proofs.YtlmnhdpahmaccaaDoor
