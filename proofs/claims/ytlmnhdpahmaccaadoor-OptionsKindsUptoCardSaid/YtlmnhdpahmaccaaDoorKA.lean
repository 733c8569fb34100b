/- keys: special, character, control, marks, named. -/
import Derived.Test.YtlmnhdpahmaccaaDoorTA
import Derived.Test.YtlmnhdpahmaccaaDoorKP
import Derived.Deep.MidRow
namespace Go.Proofs.YtlmnhdpahmaccaaDoor
open Go.RowKit QP

set_option maxHeartbeats 2000000 in
theorem special_c (c : Int) (w : World) : Calls Tryd.prog 74 #[.int .i64 c] w fun e w' => e = .returned (.bool (special c)) ∧ w = w' := by
  by_cases h1 : c ≥ 16777217
  · have q1 : decide (c ≥ 16777217) = true := by simpa using h1
    by_cases h2 : c ≤ 16777238
    · have q2 : decide (c ≤ 16777238) = true := by simpa using h2
      have hv : special c = true := by rw [Bool.eq_iff_iff]; simp [special]; omega
      have HV := Lib.hid hv
      clear hv
      go_enter Tryd.func74, Tryd.ntmps74
      go_wp2
      go_ret
      exact ⟨by rw [HV.out]; rfl, rfl⟩
    · have q2 : decide (c ≤ 16777238) = false := by simpa using h2
      have hv : special c = false := by rw [Bool.eq_iff_iff]; simp [special]; omega
      have HV := Lib.hid hv
      clear hv
      go_enter Tryd.func74, Tryd.ntmps74
      go_wp2
      go_ret
      exact ⟨by rw [HV.out]; rfl, rfl⟩
  · have q1 : decide (c ≥ 16777217) = false := by simpa using h1
    have hv : special c = false := by rw [Bool.eq_iff_iff]; simp [special]; omega
    have HV := Lib.hid hv
    clear hv
    go_enter Tryd.func74, Tryd.ntmps74
    go_wp2
    go_ret
    exact ⟨by rw [HV.out]; rfl, rfl⟩

set_option maxHeartbeats 2000000 in
theorem character_c (c : Int) (w : World) : Calls Tryd.prog 76 #[.int .i64 c] w fun e w' => e = .returned (.bool (character c)) ∧ w = w' := by
  by_cases h1 : c ≥ 33
  · have q1 : decide (c ≥ 33) = true := by simpa using h1
    by_cases h2 : c ≤ 126
    · have q2 : decide (c ≤ 126) = true := by simpa using h2
      have hv : character c = true := by rw [Bool.eq_iff_iff]; simp [character]; omega
      have HV := Lib.hid hv
      clear hv
      go_enter Tryd.func76, Tryd.ntmps76
      go_wp2
      go_ret
      exact ⟨by rw [HV.out]; rfl, rfl⟩
    · have q2 : decide (c ≤ 126) = false := by simpa using h2
      by_cases h3 : c ≥ 160
      · have q3 : decide (c ≥ 160) = true := by simpa using h3
        by_cases h4 : c ≤ 1114111
        · have q4 : decide (c ≤ 1114111) = true := by simpa using h4
          by_cases h5 : c < 55296
          · have q5 : decide (c < 55296) = true := by simpa using h5
            have hv : character c = true := by rw [Bool.eq_iff_iff]; simp [character]; omega
            have HV := Lib.hid hv
            clear hv
            go_enter Tryd.func76, Tryd.ntmps76
            go_wp2
            go_ret
            exact ⟨by rw [HV.out]; rfl, rfl⟩
          · have q5 : decide (c < 55296) = false := by simpa using h5
            by_cases h6 : c > 57343
            · have q6 : decide (c > 57343) = true := by simpa using h6
              have hv : character c = true := by rw [Bool.eq_iff_iff]; simp [character]; omega
              have HV := Lib.hid hv
              clear hv
              go_enter Tryd.func76, Tryd.ntmps76
              go_wp2
              go_ret
              exact ⟨by rw [HV.out]; rfl, rfl⟩
            · have q6 : decide (c > 57343) = false := by simpa using h6
              have hv : character c = false := by rw [Bool.eq_iff_iff]; simp [character]; omega
              have HV := Lib.hid hv
              clear hv
              go_enter Tryd.func76, Tryd.ntmps76
              go_wp2
              go_ret
              exact ⟨by rw [HV.out]; rfl, rfl⟩
        · have q4 : decide (c ≤ 1114111) = false := by simpa using h4
          have hv : character c = false := by rw [Bool.eq_iff_iff]; simp [character]; omega
          have HV := Lib.hid hv
          clear hv
          go_enter Tryd.func76, Tryd.ntmps76
          go_wp2
          go_ret
          exact ⟨by rw [HV.out]; rfl, rfl⟩
      · have q3 : decide (c ≥ 160) = false := by simpa using h3
        have hv : character c = false := by rw [Bool.eq_iff_iff]; simp [character]; omega
        have HV := Lib.hid hv
        clear hv
        go_enter Tryd.func76, Tryd.ntmps76
        go_wp2
        go_ret
        exact ⟨by rw [HV.out]; rfl, rfl⟩
  · have q1 : decide (c ≥ 33) = false := by simpa using h1
    by_cases h7 : c ≥ 160
    · have q7 : decide (c ≥ 160) = true := by simpa using h7
      by_cases h8 : c ≤ 1114111
      · have q8 : decide (c ≤ 1114111) = true := by simpa using h8
        by_cases h9 : c < 55296
        · have q9 : decide (c < 55296) = true := by simpa using h9
          have hv : character c = true := by rw [Bool.eq_iff_iff]; simp [character]; omega
          have HV := Lib.hid hv
          clear hv
          go_enter Tryd.func76, Tryd.ntmps76
          go_wp2
          go_ret
          exact ⟨by rw [HV.out]; rfl, rfl⟩
        · have q9 : decide (c < 55296) = false := by simpa using h9
          by_cases h10 : c > 57343
          · have q10 : decide (c > 57343) = true := by simpa using h10
            have hv : character c = true := by rw [Bool.eq_iff_iff]; simp [character]; omega
            have HV := Lib.hid hv
            clear hv
            go_enter Tryd.func76, Tryd.ntmps76
            go_wp2
            go_ret
            exact ⟨by rw [HV.out]; rfl, rfl⟩
          · have q10 : decide (c > 57343) = false := by simpa using h10
            have hv : character c = false := by rw [Bool.eq_iff_iff]; simp [character]; omega
            have HV := Lib.hid hv
            clear hv
            go_enter Tryd.func76, Tryd.ntmps76
            go_wp2
            go_ret
            exact ⟨by rw [HV.out]; rfl, rfl⟩
      · have q8 : decide (c ≤ 1114111) = false := by simpa using h8
        have hv : character c = false := by rw [Bool.eq_iff_iff]; simp [character]; omega
        have HV := Lib.hid hv
        clear hv
        go_enter Tryd.func76, Tryd.ntmps76
        go_wp2
        go_ret
        exact ⟨by rw [HV.out]; rfl, rfl⟩
    · have q7 : decide (c ≥ 160) = false := by simpa using h7
      have hv : character c = false := by rw [Bool.eq_iff_iff]; simp [character]; omega
      have HV := Lib.hid hv
      clear hv
      go_enter Tryd.func76, Tryd.ntmps76
      go_wp2
      go_ret
      exact ⟨by rw [HV.out]; rfl, rfl⟩

set_option maxHeartbeats 2000000 in
theorem control_c (c : Int) (w : World) : Calls Tryd.prog 77 #[.int .i64 c] w fun e w' => e = .returned (.bool (QP.control c)) ∧ w = w' := by
  by_cases h1 : c ≥ 97
  · have q1 : decide (c ≥ 97) = true := by simpa using h1
    by_cases h2 : c ≤ 122
    · have q2 : decide (c ≤ 122) = true := by simpa using h2
      by_cases h3 : c = 105
      · subst h3
        clear h1 q1 h2 q2
        go_enter Tryd.func77, Tryd.ntmps77
        go_wp2
        go_ret
        exact ⟨rfl, rfl⟩
      · have q3 : (c != 105) = true := by simpa using h3
        by_cases h4 : c = 109
        · subst h4
          clear h1 q1 h2 q2 h3 q3
          go_enter Tryd.func77, Tryd.ntmps77
          go_wp2
          go_ret
          exact ⟨rfl, rfl⟩
        · have q4 : (c != 109) = true := by simpa using h4
          have hv : QP.control c = true := by rw [Bool.eq_iff_iff]; simp [QP.control]; omega
          have HV := Lib.hid hv
          clear hv
          go_enter Tryd.func77, Tryd.ntmps77
          go_wp2
          go_ret
          exact ⟨by rw [HV.out]; rfl, rfl⟩
    · have q2 : decide (c ≤ 122) = false := by simpa using h2
      by_cases h5 : c ≥ 92
      · have q5 : decide (c ≥ 92) = true := by simpa using h5
        by_cases h6 : c ≤ 95
        · have q6 : decide (c ≤ 95) = true := by simpa using h6
          have hv : QP.control c = true := by rw [Bool.eq_iff_iff]; simp [QP.control]; omega
          have HV := Lib.hid hv
          clear hv
          go_enter Tryd.func77, Tryd.ntmps77
          go_wp2
          go_ret
          exact ⟨by rw [HV.out]; rfl, rfl⟩
        · have q6 : decide (c ≤ 95) = false := by simpa using h6
          have hv : QP.control c = false := by rw [Bool.eq_iff_iff]; simp [QP.control]; omega
          have HV := Lib.hid hv
          clear hv
          go_enter Tryd.func77, Tryd.ntmps77
          go_wp2
          go_ret
          exact ⟨by rw [HV.out]; rfl, rfl⟩
      · have q5 : decide (c ≥ 92) = false := by simpa using h5
        have hv : QP.control c = false := by rw [Bool.eq_iff_iff]; simp [QP.control]; omega
        have HV := Lib.hid hv
        clear hv
        go_enter Tryd.func77, Tryd.ntmps77
        go_wp2
        go_ret
        exact ⟨by rw [HV.out]; rfl, rfl⟩
  · have q1 : decide (c ≥ 97) = false := by simpa using h1
    by_cases h7 : c ≥ 92
    · have q7 : decide (c ≥ 92) = true := by simpa using h7
      by_cases h8 : c ≤ 95
      · have q8 : decide (c ≤ 95) = true := by simpa using h8
        have hv : QP.control c = true := by rw [Bool.eq_iff_iff]; simp [QP.control]; omega
        have HV := Lib.hid hv
        clear hv
        go_enter Tryd.func77, Tryd.ntmps77
        go_wp2
        go_ret
        exact ⟨by rw [HV.out]; rfl, rfl⟩
      · have q8 : decide (c ≤ 95) = false := by simpa using h8
        have hv : QP.control c = false := by rw [Bool.eq_iff_iff]; simp [QP.control]; omega
        have HV := Lib.hid hv
        clear hv
        go_enter Tryd.func77, Tryd.ntmps77
        go_wp2
        go_ret
        exact ⟨by rw [HV.out]; rfl, rfl⟩
    · have q7 : decide (c ≥ 92) = false := by simpa using h7
      have hv : QP.control c = false := by rw [Bool.eq_iff_iff]; simp [QP.control]; omega
      have HV := Lib.hid hv
      clear hv
      go_enter Tryd.func77, Tryd.ntmps77
      go_wp2
      go_ret
      exact ⟨by rw [HV.out]; rfl, rfl⟩

theorem mods_cases {m : Int} (h0 : 0 ≤ m) (h1 : m ≤ 7) : m = 0 ∨ m = 1 ∨ m = 2 ∨ m = 3 ∨ m = 4 ∨ m = 5 ∨ m = 6 ∨ m = 7 := by omega
set_option maxHeartbeats 4000000 in
theorem marks_c (m : Int) (h0 : 0 ≤ m) (h1 : m ≤ 7) (w : World) : Calls Tryd.prog 48 #[.int .i64 m] w fun e w' => e = .returned (.string (marks m)) ∧ w = w' := by
  rcases mods_cases h0 h1 with rfl | rfl | rfl | rfl | rfl | rfl | rfl | rfl
  all_goals
    clear h0 h1
    go_enter Tryd.func48, Tryd.ntmps48
    go_wp2
    go_ret
    exact ⟨rfl, rfl⟩

/-! ### the special keys' shapes, as the program lays them -/
def shapeCells (s : Shape) : List Value := [.string s.name, .int .u8 s.letter, .int .i64 s.number, .bool s.far]
def shapesCells : List Value := shapes.flatMap shapeCells
def ShapesAt (w : World) : Prop := w.rangeAt 2 0 shapesCells
theorem flat4_get (l : List Shape) (i : Nat) (h : i < l.length) (j : Nat) (hj : j < 4) : (l.flatMap shapeCells)[i * 4 + j]? = (shapeCells l[i])[j]? := by
  induction l generalizing i with
  | nil => simp at h
  | cons p ps ih =>
    have hc : (p :: ps).flatMap shapeCells = shapeCells p ++ ps.flatMap shapeCells := by simp
    have hl : (shapeCells p).length = 4 := rfl
    rw [hc]
    cases i with
    | zero => rw [Nat.zero_mul, Nat.zero_add, List.getElem?_append_left (by omega)]; rfl
    | succ i => rw [List.getElem?_append_right (by omega), hl, show (i + 1) * 4 + j - 4 = i * 4 + j by omega, ih i (by simpa using h)]; rfl
theorem shapesCells_get (i : Nat) (h : i < 22) (j : Nat) (hj : j < 4) : ∃ s, shapes[i]? = some s ∧ shapesCells[i * 4 + j]? = (shapeCells s)[j]? :=
  ⟨shapes[i]'h, List.getElem?_eq_getElem h, flat4_get shapes i h j hj⟩
theorem ShapesAt.lt {w : World} (h : ShapesAt w) : 2 < w.heap.size := World.block_lt_of_cell? w _ (h 0 _ rfl)
theorem ShapesAt.below {w w1 : World} {B : Nat} (h : ShapesAt w) (hb : Below B w w1) (hB : w.heap.size ≤ B) : ShapesAt w1 := by
  intro j v hj
  rw [World.cell?_of_block (w := w) (hb.block _ (Nat.lt_of_lt_of_le h.lt hB))]
  exact h j v hj

end Go.Proofs.YtlmnhdpahmaccaaDoor
