/- options: may. The law's sameTexts. -/
import Derived.Test.YtlmnhdpahmaccaaDoorTC
namespace Go.Proofs.YtlmnhdpahmaccaaDoor
open Go.RowKit QP

/-- whether an option may be set there -/
def mayCode (sc id : Int) (name : ByteArray) : Int :=
  match rowOf name with
  | none => 230
  | some r => if sc ≠ r.scope ∧ (r.scope ≠ 4 ∨ sc ≠ 3) then 231 else if id < 0 ∨ id > 4611686018427387904 ∨ (sc = 1 ∧ id ≠ 0) then 1 else 0

set_option maxHeartbeats 40000000 in
set_option maxRecDepth 100000 in
theorem may_c (sc id : Int) (name : ByteArray) (w : World) : Calls Tryd.prog 26 #[.int .i64 sc, .int .i64 id, .string name] w fun e w' =>
    e = .returned (.tuple #[.agg #[.string (ofRow name).name, .int .i64 (ofRow name).scope, .int .i64 (ofRow name).kind, .int .i64 (ofRow name).lo, .int .i64 (ofRow name).hi, .string (ofRow name).words, .string (ofRow name).first], .int .i64 (mayCode sc id name)]) ∧ Hid (Below w.heap.size w w') := by
  have hk := Blk.new w 54 #[.string ⟨#[]⟩, .int .i64 0, .int .i64 0, .int .i64 0, .int .i64 0, .string ⟨#[]⟩, .string ⟨#[]⟩]
  have hb0 : Below w.heap.size w (w.alloc (.cells #[.string ⟨#[]⟩, .int .i64 0, .int .i64 0, .int .i64 0, .int .i64 0, .string ⟨#[]⟩, .string ⟨#[]⟩] 54)) := (Below.refl _ _).alloc (Nat.le_refl _) _
  have HB0 := Lib.hid hb0
  have HK0 := Lib.hid hk
  clear hb0 hk
  obtain ⟨c, hc⟩ : ∃ c, mayCode sc id name = c := ⟨_, rfl⟩
  rw [hc]
  go_enter Tryd.func26, Tryd.ntmps26
  go_wp2_with fail
  refine (of_c _ _).mono ?_
  rintro e w1 ⟨rfl, HB⟩
  have HB1 := Lib.hid (below_of HB0.out HB.out)
  have HK1 := Lib.hid (HK0.out.below_ HB.out)
  have hkl := HK1.out.lt
  obtain ⟨z0, z1, z2, z3, z4, z5, z6, f0, f1, f2, f3, f4, f5, f6⟩ := seven HK1.out
  clear HB HB0 HK0
  obtain ⟨r, hor⟩ : ∃ r, ofRow name = r := ⟨_, rfl⟩
  have hm := mod7 w1 w.heap.size (.string r.name) (.int .i64 r.scope) (.int .i64 r.kind) (.int .i64 r.lo) (.int .i64 r.hi) (.string r.words) (.string r.first)
  have hb := below_mod HB1.out hm HB1.out.size fun i hi e => by omega
  have HBB := Lib.hid hb
  clear hm hb
  rw [hor]
  have HOR := Lib.hid hor
  cases hr : rowOf name with
  | none =>
    have hcc : c = 230 := by rw [← hc]; unfold mayCode; rw [hr]
    subst hcc
    clear hc hor hr
    go_wp2
    refine bodyPost_ret (v := .tuple #[.agg #[.string r.name, .int .i64 r.scope, .int .i64 r.kind, .int .i64 r.lo, .int .i64 r.hi, .string r.words, .string r.first], .int .i64 230]) (by simp [results, Tryd.results26, go_sem, hkl, z0, z1, z2, z3, z4, z5, z6]) rfl ?_
    exact ⟨by rw [HOR.out], Lib.hid (below_box HBB.out _)⟩
  | some r' =>
    have hrr : r' = r := by rw [← hor]; unfold ofRow; rw [hr]; rfl
    subst hrr
    have hcv : c = if sc ≠ r'.scope ∧ (r'.scope ≠ 4 ∨ sc ≠ 3) then 231 else if id < 0 ∨ id > 4611686018427387904 ∨ (sc = 1 ∧ id ≠ 0) then 1 else 0 := by rw [← hc]; unfold mayCode; rw [hr]
    clear hc hor hr
    obtain ⟨rs, hrs⟩ : ∃ rs, r'.scope = rs := ⟨_, rfl⟩
    rw [hrs] at hcv HBB ⊢
    have HRS := Lib.hid hrs
    clear hrs
    by_cases h1 : sc = rs
    · have q1 : (sc != rs) = false := by simpa using h1
      by_cases h4 : id < 0
      · have q4 : decide (id < 0) = true := by simpa using h4
        have hcc : c = 1 := by rw [hcv]; split <;> (try split) <;> omega
        subst hcc
        clear hcv h1 h4
        go_wp2
        refine bodyPost_ret (v := .tuple #[.agg #[.string r'.name, .int .i64 rs, .int .i64 r'.kind, .int .i64 r'.lo, .int .i64 r'.hi, .string r'.words, .string r'.first], .int .i64 1]) (by simp [results, Tryd.results26, go_sem, hkl, z0, z1, z2, z3, z4, z5, z6]) rfl ?_
        exact ⟨by rw [HOR.out, HRS.out], Lib.hid (below_box HBB.out _)⟩
      · have q4 : decide (id < 0) = false := by simpa using h4
        by_cases h5 : id > 4611686018427387904
        · have q5 : decide (id > 4611686018427387904) = true := by simpa using h5
          have hcc : c = 1 := by rw [hcv]; split <;> (try split) <;> omega
          subst hcc
          clear hcv h1 h4 h5
          go_wp2
          refine bodyPost_ret (v := .tuple #[.agg #[.string r'.name, .int .i64 rs, .int .i64 r'.kind, .int .i64 r'.lo, .int .i64 r'.hi, .string r'.words, .string r'.first], .int .i64 1]) (by simp [results, Tryd.results26, go_sem, hkl, z0, z1, z2, z3, z4, z5, z6]) rfl ?_
          exact ⟨by rw [HOR.out, HRS.out], Lib.hid (below_box HBB.out _)⟩
        · have q5 : decide (id > 4611686018427387904) = false := by simpa using h5
          by_cases h6 : sc = 1
          · have q6 : (sc == 1) = true := by simpa using h6
            by_cases h7 : id = 0
            · have q7 : (id != 0) = false := by simpa using h7
              have hcc : c = 0 := by rw [hcv]; split <;> (try split) <;> omega
              subst hcc
              clear hcv h1 h4 h5 h6 h7
              go_wp2
              refine bodyPost_ret (v := .tuple #[.agg #[.string r'.name, .int .i64 rs, .int .i64 r'.kind, .int .i64 r'.lo, .int .i64 r'.hi, .string r'.words, .string r'.first], .int .i64 0]) (by simp [results, Tryd.results26, go_sem, hkl, z0, z1, z2, z3, z4, z5, z6]) rfl ?_
              exact ⟨by rw [HOR.out, HRS.out], Lib.hid (below_box HBB.out _)⟩
            · have q7 : (id != 0) = true := by simpa using h7
              have hcc : c = 1 := by rw [hcv]; split <;> (try split) <;> omega
              subst hcc
              clear hcv h1 h4 h5 h6 h7
              go_wp2
              refine bodyPost_ret (v := .tuple #[.agg #[.string r'.name, .int .i64 rs, .int .i64 r'.kind, .int .i64 r'.lo, .int .i64 r'.hi, .string r'.words, .string r'.first], .int .i64 1]) (by simp [results, Tryd.results26, go_sem, hkl, z0, z1, z2, z3, z4, z5, z6]) rfl ?_
              exact ⟨by rw [HOR.out, HRS.out], Lib.hid (below_box HBB.out _)⟩
          · have q6 : (sc == 1) = false := by simpa using h6
            have hcc : c = 0 := by rw [hcv]; split <;> (try split) <;> omega
            subst hcc
            clear hcv h1 h4 h5 h6
            go_wp2
            refine bodyPost_ret (v := .tuple #[.agg #[.string r'.name, .int .i64 rs, .int .i64 r'.kind, .int .i64 r'.lo, .int .i64 r'.hi, .string r'.words, .string r'.first], .int .i64 0]) (by simp [results, Tryd.results26, go_sem, hkl, z0, z1, z2, z3, z4, z5, z6]) rfl ?_
            exact ⟨by rw [HOR.out, HRS.out], Lib.hid (below_box HBB.out _)⟩
    · have q1 : (sc != rs) = true := by simpa using h1
      by_cases h2 : rs = 4
      · have q2 : (rs != 4) = false := by simpa using h2
        by_cases h3 : sc = 3
        · have q3 : (sc != 3) = false := by simpa using h3
          by_cases h4 : id < 0
          · have q4 : decide (id < 0) = true := by simpa using h4
            have hcc : c = 1 := by rw [hcv]; split <;> (try split) <;> omega
            subst hcc
            clear hcv h1 h2 h3 h4
            go_wp2
            refine bodyPost_ret (v := .tuple #[.agg #[.string r'.name, .int .i64 rs, .int .i64 r'.kind, .int .i64 r'.lo, .int .i64 r'.hi, .string r'.words, .string r'.first], .int .i64 1]) (by simp [results, Tryd.results26, go_sem, hkl, z0, z1, z2, z3, z4, z5, z6]) rfl ?_
            exact ⟨by rw [HOR.out, HRS.out], Lib.hid (below_box HBB.out _)⟩
          · have q4 : decide (id < 0) = false := by simpa using h4
            by_cases h5 : id > 4611686018427387904
            · have q5 : decide (id > 4611686018427387904) = true := by simpa using h5
              have hcc : c = 1 := by rw [hcv]; split <;> (try split) <;> omega
              subst hcc
              clear hcv h1 h2 h3 h4 h5
              go_wp2
              refine bodyPost_ret (v := .tuple #[.agg #[.string r'.name, .int .i64 rs, .int .i64 r'.kind, .int .i64 r'.lo, .int .i64 r'.hi, .string r'.words, .string r'.first], .int .i64 1]) (by simp [results, Tryd.results26, go_sem, hkl, z0, z1, z2, z3, z4, z5, z6]) rfl ?_
              exact ⟨by rw [HOR.out, HRS.out], Lib.hid (below_box HBB.out _)⟩
            · have q5 : decide (id > 4611686018427387904) = false := by simpa using h5
              by_cases h6 : sc = 1
              · have q6 : (sc == 1) = true := by simpa using h6
                by_cases h7 : id = 0
                · have q7 : (id != 0) = false := by simpa using h7
                  have hcc : c = 0 := by rw [hcv]; split <;> (try split) <;> omega
                  subst hcc
                  clear hcv h1 h2 h3 h4 h5 h6 h7
                  go_wp2
                  refine bodyPost_ret (v := .tuple #[.agg #[.string r'.name, .int .i64 rs, .int .i64 r'.kind, .int .i64 r'.lo, .int .i64 r'.hi, .string r'.words, .string r'.first], .int .i64 0]) (by simp [results, Tryd.results26, go_sem, hkl, z0, z1, z2, z3, z4, z5, z6]) rfl ?_
                  exact ⟨by rw [HOR.out, HRS.out], Lib.hid (below_box HBB.out _)⟩
                · have q7 : (id != 0) = true := by simpa using h7
                  have hcc : c = 1 := by rw [hcv]; split <;> (try split) <;> omega
                  subst hcc
                  clear hcv h1 h2 h3 h4 h5 h6 h7
                  go_wp2
                  refine bodyPost_ret (v := .tuple #[.agg #[.string r'.name, .int .i64 rs, .int .i64 r'.kind, .int .i64 r'.lo, .int .i64 r'.hi, .string r'.words, .string r'.first], .int .i64 1]) (by simp [results, Tryd.results26, go_sem, hkl, z0, z1, z2, z3, z4, z5, z6]) rfl ?_
                  exact ⟨by rw [HOR.out, HRS.out], Lib.hid (below_box HBB.out _)⟩
              · have q6 : (sc == 1) = false := by simpa using h6
                have hcc : c = 0 := by rw [hcv]; split <;> (try split) <;> omega
                subst hcc
                clear hcv h1 h2 h3 h4 h5 h6
                go_wp2
                refine bodyPost_ret (v := .tuple #[.agg #[.string r'.name, .int .i64 rs, .int .i64 r'.kind, .int .i64 r'.lo, .int .i64 r'.hi, .string r'.words, .string r'.first], .int .i64 0]) (by simp [results, Tryd.results26, go_sem, hkl, z0, z1, z2, z3, z4, z5, z6]) rfl ?_
                exact ⟨by rw [HOR.out, HRS.out], Lib.hid (below_box HBB.out _)⟩
        · have q3 : (sc != 3) = true := by simpa using h3
          have hcc : c = 231 := by rw [hcv]; split <;> (try split) <;> omega
          subst hcc
          clear hcv h1 h2 h3
          go_wp2
          refine bodyPost_ret (v := .tuple #[.agg #[.string r'.name, .int .i64 rs, .int .i64 r'.kind, .int .i64 r'.lo, .int .i64 r'.hi, .string r'.words, .string r'.first], .int .i64 231]) (by simp [results, Tryd.results26, go_sem, hkl, z0, z1, z2, z3, z4, z5, z6]) rfl ?_
          exact ⟨by rw [HOR.out, HRS.out], Lib.hid (below_box HBB.out _)⟩
      · have q2 : (rs != 4) = true := by simpa using h2
        have hcc : c = 231 := by rw [hcv]; split <;> (try split) <;> omega
        subst hcc
        clear hcv h1 h2
        go_wp2
        refine bodyPost_ret (v := .tuple #[.agg #[.string r'.name, .int .i64 rs, .int .i64 r'.kind, .int .i64 r'.lo, .int .i64 r'.hi, .string r'.words, .string r'.first], .int .i64 231]) (by simp [results, Tryd.results26, go_sem, hkl, z0, z1, z2, z3, z4, z5, z6]) rfl ?_
        exact ⟨by rw [HOR.out, HRS.out], Lib.hid (below_box HBB.out _)⟩
end Go.Proofs.YtlmnhdpahmaccaaDoor
