/- the document's keys: special, character, controlled, words, Valid. -/
import Derived.Test.YtlmnhdpahmaccaaDoorKB
import Derived.Test.YtlmnhdpahmaccaaDoorDP
namespace Go.Proofs.YtlmnhdpahmaccaaDoor
open Go.RowKit QP

set_option maxHeartbeats 2000000 in
theorem dspecial_c (c : Int) (w : World) : Calls Tryd.prog 51 #[.int .i64 c] w fun e w' => e = .returned (.bool (special c)) ∧ w = w' := by
  by_cases h1 : c ≥ 16777217
  · have q1 : decide (c ≥ 16777217) = true := by simpa using h1
    by_cases h2 : c ≤ 16777238
    · have q2 : decide (c ≤ 16777238) = true := by simpa using h2
      have hv : special c = true := by rw [Bool.eq_iff_iff]; simp [special]; omega
      have HV := Lib.hid hv
      clear hv
      go_enter Tryd.func51, Tryd.ntmps51
      go_wp2
      go_ret
      exact ⟨by rw [HV.out]; rfl, rfl⟩
    · have q2 : decide (c ≤ 16777238) = false := by simpa using h2
      have hv : special c = false := by rw [Bool.eq_iff_iff]; simp [special]; omega
      have HV := Lib.hid hv
      clear hv
      go_enter Tryd.func51, Tryd.ntmps51
      go_wp2
      go_ret
      exact ⟨by rw [HV.out]; rfl, rfl⟩
  · have q1 : decide (c ≥ 16777217) = false := by simpa using h1
    have hv : special c = false := by rw [Bool.eq_iff_iff]; simp [special]; omega
    have HV := Lib.hid hv
    clear hv
    go_enter Tryd.func51, Tryd.ntmps51
    go_wp2
    go_ret
    exact ⟨by rw [HV.out]; rfl, rfl⟩

set_option maxHeartbeats 2000000 in
theorem dcharacter_c (c : Int) (w : World) : Calls Tryd.prog 52 #[.int .i64 c] w fun e w' => e = .returned (.bool (character c)) ∧ w = w' := by
  by_cases h1 : c ≥ 33
  · have q1 : decide (c ≥ 33) = true := by simpa using h1
    by_cases h2 : c ≤ 126
    · have q2 : decide (c ≤ 126) = true := by simpa using h2
      have hv : character c = true := by rw [Bool.eq_iff_iff]; simp [character]; omega
      have HV := Lib.hid hv
      clear hv
      go_enter Tryd.func52, Tryd.ntmps52
      go_wp2
      go_ret
      exact ⟨by rw [HV.out]; rfl, rfl⟩
    · have q2 : decide (c ≤ 126) = false := by simpa using h2
      by_cases h3 : c ≥ 160
      · have q3 : decide (c ≥ 160) = true := by simpa using h3
        by_cases h4 : c ≤ 1114111
        · have q4 : decide (c ≤ 1114111) = true := by simpa using h4
          by_cases h5 : c < 55296
          · have q5 : decide (c < 55296) = true := by simpa using h5
            have hv : character c = true := by rw [Bool.eq_iff_iff]; simp [character]; omega
            have HV := Lib.hid hv
            clear hv
            go_enter Tryd.func52, Tryd.ntmps52
            go_wp2
            go_ret
            exact ⟨by rw [HV.out]; rfl, rfl⟩
          · have q5 : decide (c < 55296) = false := by simpa using h5
            by_cases h6 : c > 57343
            · have q6 : decide (c > 57343) = true := by simpa using h6
              have hv : character c = true := by rw [Bool.eq_iff_iff]; simp [character]; omega
              have HV := Lib.hid hv
              clear hv
              go_enter Tryd.func52, Tryd.ntmps52
              go_wp2
              go_ret
              exact ⟨by rw [HV.out]; rfl, rfl⟩
            · have q6 : decide (c > 57343) = false := by simpa using h6
              have hv : character c = false := by rw [Bool.eq_iff_iff]; simp [character]; omega
              have HV := Lib.hid hv
              clear hv
              go_enter Tryd.func52, Tryd.ntmps52
              go_wp2
              go_ret
              exact ⟨by rw [HV.out]; rfl, rfl⟩
        · have q4 : decide (c ≤ 1114111) = false := by simpa using h4
          have hv : character c = false := by rw [Bool.eq_iff_iff]; simp [character]; omega
          have HV := Lib.hid hv
          clear hv
          go_enter Tryd.func52, Tryd.ntmps52
          go_wp2
          go_ret
          exact ⟨by rw [HV.out]; rfl, rfl⟩
      · have q3 : decide (c ≥ 160) = false := by simpa using h3
        have hv : character c = false := by rw [Bool.eq_iff_iff]; simp [character]; omega
        have HV := Lib.hid hv
        clear hv
        go_enter Tryd.func52, Tryd.ntmps52
        go_wp2
        go_ret
        exact ⟨by rw [HV.out]; rfl, rfl⟩
  · have q1 : decide (c ≥ 33) = false := by simpa using h1
    by_cases h7 : c ≥ 160
    · have q7 : decide (c ≥ 160) = true := by simpa using h7
      by_cases h8 : c ≤ 1114111
      · have q8 : decide (c ≤ 1114111) = true := by simpa using h8
        by_cases h9 : c < 55296
        · have q9 : decide (c < 55296) = true := by simpa using h9
          have hv : character c = true := by rw [Bool.eq_iff_iff]; simp [character]; omega
          have HV := Lib.hid hv
          clear hv
          go_enter Tryd.func52, Tryd.ntmps52
          go_wp2
          go_ret
          exact ⟨by rw [HV.out]; rfl, rfl⟩
        · have q9 : decide (c < 55296) = false := by simpa using h9
          by_cases h10 : c > 57343
          · have q10 : decide (c > 57343) = true := by simpa using h10
            have hv : character c = true := by rw [Bool.eq_iff_iff]; simp [character]; omega
            have HV := Lib.hid hv
            clear hv
            go_enter Tryd.func52, Tryd.ntmps52
            go_wp2
            go_ret
            exact ⟨by rw [HV.out]; rfl, rfl⟩
          · have q10 : decide (c > 57343) = false := by simpa using h10
            have hv : character c = false := by rw [Bool.eq_iff_iff]; simp [character]; omega
            have HV := Lib.hid hv
            clear hv
            go_enter Tryd.func52, Tryd.ntmps52
            go_wp2
            go_ret
            exact ⟨by rw [HV.out]; rfl, rfl⟩
      · have q8 : decide (c ≤ 1114111) = false := by simpa using h8
        have hv : character c = false := by rw [Bool.eq_iff_iff]; simp [character]; omega
        have HV := Lib.hid hv
        clear hv
        go_enter Tryd.func52, Tryd.ntmps52
        go_wp2
        go_ret
        exact ⟨by rw [HV.out]; rfl, rfl⟩
    · have q7 : decide (c ≥ 160) = false := by simpa using h7
      have hv : character c = false := by rw [Bool.eq_iff_iff]; simp [character]; omega
      have HV := Lib.hid hv
      clear hv
      go_enter Tryd.func52, Tryd.ntmps52
      go_wp2
      go_ret
      exact ⟨by rw [HV.out]; rfl, rfl⟩

set_option maxHeartbeats 2000000 in
theorem dcontrolled_c (c : Int) (w : World) : Calls Tryd.prog 53 #[.int .i64 c] w fun e w' => e = .returned (.bool (QP.control c)) ∧ w = w' := by
  by_cases h1 : c ≥ 97
  · have q1 : decide (c ≥ 97) = true := by simpa using h1
    by_cases h2 : c ≤ 122
    · have q2 : decide (c ≤ 122) = true := by simpa using h2
      by_cases h3 : c = 105
      · subst h3
        clear h1 q1 h2 q2
        go_enter Tryd.func53, Tryd.ntmps53
        go_wp2
        go_ret
        exact ⟨rfl, rfl⟩
      · have q3 : (c != 105) = true := by simpa using h3
        by_cases h4 : c = 109
        · subst h4
          clear h1 q1 h2 q2 h3 q3
          go_enter Tryd.func53, Tryd.ntmps53
          go_wp2
          go_ret
          exact ⟨rfl, rfl⟩
        · have q4 : (c != 109) = true := by simpa using h4
          have hv : QP.control c = true := by rw [Bool.eq_iff_iff]; simp [QP.control]; omega
          have HV := Lib.hid hv
          clear hv
          go_enter Tryd.func53, Tryd.ntmps53
          go_wp2
          go_ret
          exact ⟨by rw [HV.out]; rfl, rfl⟩
    · have q2 : decide (c ≤ 122) = false := by simpa using h2
      by_cases h5 : c = 92
      · subst h5
        clear h1 q1 h2 q2
        go_enter Tryd.func53, Tryd.ntmps53
        go_wp2
        go_ret
        exact ⟨rfl, rfl⟩
      · have q5 : (c == 92) = false := by simpa using h5
        by_cases h6 : c = 93
        · subst h6
          clear h1 q1 h2 q2 h5 q5
          go_enter Tryd.func53, Tryd.ntmps53
          go_wp2
          go_ret
          exact ⟨rfl, rfl⟩
        · have q6 : (c == 93) = false := by simpa using h6
          by_cases h7 : c = 94
          · subst h7
            clear h1 q1 h2 q2 h5 q5 h6 q6
            go_enter Tryd.func53, Tryd.ntmps53
            go_wp2
            go_ret
            exact ⟨rfl, rfl⟩
          · have q7 : (c == 94) = false := by simpa using h7
            by_cases h8 : c = 95
            · subst h8
              clear h1 q1 h2 q2 h5 q5 h6 q6 h7 q7
              go_enter Tryd.func53, Tryd.ntmps53
              go_wp2
              go_ret
              exact ⟨rfl, rfl⟩
            · have q8 : (c == 95) = false := by simpa using h8
              have hv : QP.control c = false := by rw [Bool.eq_iff_iff]; simp [QP.control]; omega
              have HV := Lib.hid hv
              clear hv
              go_enter Tryd.func53, Tryd.ntmps53
              go_wp2
              go_ret
              exact ⟨by rw [HV.out]; rfl, rfl⟩
  · have q1 : decide (c ≥ 97) = false := by simpa using h1
    by_cases h9 : c = 92
    · subst h9
      clear h1 q1
      go_enter Tryd.func53, Tryd.ntmps53
      go_wp2
      go_ret
      exact ⟨rfl, rfl⟩
    · have q9 : (c == 92) = false := by simpa using h9
      by_cases h10 : c = 93
      · subst h10
        clear h1 q1 h9 q9
        go_enter Tryd.func53, Tryd.ntmps53
        go_wp2
        go_ret
        exact ⟨rfl, rfl⟩
      · have q10 : (c == 93) = false := by simpa using h10
        by_cases h11 : c = 94
        · subst h11
          clear h1 q1 h9 q9 h10 q10
          go_enter Tryd.func53, Tryd.ntmps53
          go_wp2
          go_ret
          exact ⟨rfl, rfl⟩
        · have q11 : (c == 94) = false := by simpa using h11
          by_cases h12 : c = 95
          · subst h12
            clear h1 q1 h9 q9 h10 q10 h11 q11
            go_enter Tryd.func53, Tryd.ntmps53
            go_wp2
            go_ret
            exact ⟨rfl, rfl⟩
          · have q12 : (c == 95) = false := by simpa using h12
            have hv : QP.control c = false := by rw [Bool.eq_iff_iff]; simp [QP.control]; omega
            have HV := Lib.hid hv
            clear hv
            go_enter Tryd.func53, Tryd.ntmps53
            go_wp2
            go_ret
            exact ⟨by rw [HV.out]; rfl, rfl⟩

theorem valid_other {c m : Int} (h0 : 0 ≤ m) (h1 : m ≤ 7) (hs : special c = false) (n0 : c ≠ 16777239) (n1 : c ≠ 32) (n2 : c ≠ 13) (n3 : c ≠ 9) (n4 : c ≠ 27) (n5 : c ≠ 127) :
    validKey c m = if plainMods m then character c else !shifted m && QP.control c := by
  unfold validKey
  rw [if_neg (by omega), hs, if_neg (by simp), if_neg n0, if_neg n1, if_neg (fun h => h.elim n2 fun h => h.elim n3 fun h => h.elim n4 n5)]
theorem valid_special {c m : Int} (h0 : 0 ≤ m) (h1 : m ≤ 7) (hs : special c = true) : validKey c m = true := by
  unfold validKey
  rw [if_neg (by omega), hs, if_pos rfl]

set_option maxHeartbeats 16000000 in
set_option maxRecDepth 100000 in
theorem dvalid_c (c m : Int) (h0 : 0 ≤ m) (h1 : m ≤ 7) (w : World) : Calls Tryd.prog 39 #[.agg #[.int .i64 c, .int .i64 m]] w fun e w' => e = .returned (.bool (validKey c m)) ∧ Hid (Below w.heap.size w w') := by
  have HB := Lib.hid ((Below.refl w.heap.size w).alloc (Nat.le_refl _) (.cells #[.int .i64 c, .int .i64 m] 76))
  have hms := mods_cases h0 h1
  by_cases a32 : c = 32
  · subst a32
    rcases hms with rfl | rfl | rfl | rfl | rfl | rfl | rfl | rfl
    all_goals
      clear h0 h1
      go_enter Tryd.func39, Tryd.ntmps39
      go_wp2_with (first | (go_at_call 51; refine (dspecial_c _ _).mono ?_; rintro e w1 ⟨rfl, rfl⟩) | go_in)
      go_ret
      exact ⟨rfl, HB⟩
  have q32 : (c == 32) = false := by simpa using a32
  by_cases a13 : c = 13
  · subst a13
    rcases hms with rfl | rfl | rfl | rfl | rfl | rfl | rfl | rfl
    all_goals
      clear h0 h1
      go_enter Tryd.func39, Tryd.ntmps39
      go_wp2_with (first | (go_at_call 51; refine (dspecial_c _ _).mono ?_; rintro e w1 ⟨rfl, rfl⟩) | go_in)
      go_ret
      exact ⟨rfl, HB⟩
  have q13 : (c == 13) = false := by simpa using a13
  by_cases a9 : c = 9
  · subst a9
    rcases hms with rfl | rfl | rfl | rfl | rfl | rfl | rfl | rfl
    all_goals
      clear h0 h1
      go_enter Tryd.func39, Tryd.ntmps39
      go_wp2_with (first | (go_at_call 51; refine (dspecial_c _ _).mono ?_; rintro e w1 ⟨rfl, rfl⟩) | go_in)
      go_ret
      exact ⟨rfl, HB⟩
  have q9 : (c == 9) = false := by simpa using a9
  by_cases a27 : c = 27
  · subst a27
    rcases hms with rfl | rfl | rfl | rfl | rfl | rfl | rfl | rfl
    all_goals
      clear h0 h1
      go_enter Tryd.func39, Tryd.ntmps39
      go_wp2_with (first | (go_at_call 51; refine (dspecial_c _ _).mono ?_; rintro e w1 ⟨rfl, rfl⟩) | go_in)
      go_ret
      exact ⟨rfl, HB⟩
  have q27 : (c == 27) = false := by simpa using a27
  by_cases a127 : c = 127
  · subst a127
    rcases hms with rfl | rfl | rfl | rfl | rfl | rfl | rfl | rfl
    all_goals
      clear h0 h1
      go_enter Tryd.func39, Tryd.ntmps39
      go_wp2_with (first | (go_at_call 51; refine (dspecial_c _ _).mono ?_; rintro e w1 ⟨rfl, rfl⟩) | go_in)
      go_ret
      exact ⟨rfl, HB⟩
  have q127 : (c == 127) = false := by simpa using a127
  by_cases a16777239 : c = 16777239
  · subst a16777239
    rcases hms with rfl | rfl | rfl | rfl | rfl | rfl | rfl | rfl
    all_goals
      clear h0 h1
      go_enter Tryd.func39, Tryd.ntmps39
      go_wp2_with (first | (go_at_call 51; refine (dspecial_c _ _).mono ?_; rintro e w1 ⟨rfl, rfl⟩) | go_in)
      go_ret
      exact ⟨rfl, HB⟩
  have q16777239 : (c == 16777239) = false := by simpa using a16777239
  obtain ⟨v, hv⟩ : ∃ v, validKey c m = v := ⟨_, rfl⟩
  rw [hv]
  cases hs : special c with
  | true =>
    have : v = true := by rw [← hv, valid_special h0 h1 hs]
    subst this
    clear hv a32 a13 a9 a27 a127 a16777239
    rcases hms with rfl | rfl | rfl | rfl | rfl | rfl | rfl | rfl
    all_goals
      clear h0 h1
      go_enter Tryd.func39, Tryd.ntmps39
      go_wp2_with (first | (go_at_call 51; refine (dspecial_c _ _).mono ?_; rintro e w1 ⟨rfl, rfl⟩; rw [hs]) | go_in)
      go_ret
      exact ⟨rfl, HB⟩
  | false =>
    have ho := valid_other h0 h1 hs a16777239 a32 a13 a9 a27 a127
    rw [hv] at ho
    clear hv a32 a13 a9 a27 a127 a16777239
    cases hc : character c <;> cases hd : QP.control c
    all_goals
      rw [hc, hd] at ho
      rcases hms with rfl | rfl | rfl | rfl | rfl | rfl | rfl | rfl
      all_goals
        simp [plainMods, shifted] at ho
        subst ho
        clear h0 h1
        go_enter Tryd.func39, Tryd.ntmps39
        go_wp2_with (first | (go_at_call 51; refine (dspecial_c _ _).mono ?_; rintro e w1 ⟨rfl, rfl⟩; rw [hs]) | (go_at_call 52; refine (dcharacter_c _ _).mono ?_; rintro e w1 ⟨rfl, rfl⟩; rw [hc]) | (go_at_call 53; refine (dcontrolled_c _ _).mono ?_; rintro e w1 ⟨rfl, rfl⟩; rw [hd]) | go_in)
        go_ret
        exact ⟨rfl, HB⟩
end Go.Proofs.YtlmnhdpahmaccaaDoor
