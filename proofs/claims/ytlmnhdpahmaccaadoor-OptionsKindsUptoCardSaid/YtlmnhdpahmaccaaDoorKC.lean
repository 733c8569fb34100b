/- keys: Name. -/
import Derived.Test.YtlmnhdpahmaccaaDoorKB
import Derived.Deep.RegionHeld3
import Derived.Laws.Cover4
namespace Go.Proofs.YtlmnhdpahmaccaaDoor
open Go.RowKit QP

/-- a key's name -/
def nameKey (c m : Int) : ByteArray := if validKey c m then marks m ++ (if (named c).size = 0 then Utf8.encode c else named c) else ⟨#[]⟩

theorem marks_size (m : Int) : (marks m).size ≤ 6 := by
  unfold marks
  simp only [ByteArray.size_append]
  repeat' split
  all_goals decide
theorem shapes_size : ∀ s ∈ shapes, 0 < s.name.size ∧ s.name.size ≤ 8 := by decide +kernel
theorem named_size (c : Int) : (named c).size ≤ 8 := by
  unfold named
  repeat' split
  all_goals first | decide | skip
  rename_i s hs _
  exact (shapes_size s (List.mem_of_getElem? hs)).2
theorem special_named {c : Int} (h : special c = true) : 0 < (named c).size := by
  have hr : 16777217 ≤ c ∧ c ≤ 16777238 := by simpa [special] using h
  have hi : (c - 16777217).toNat < 22 := by omega
  have hs : shapes[(c - 16777217).toNat]? = some (shapes[(c - 16777217).toNat]'hi) := List.getElem?_eq_getElem hi
  have hn : named c = (shapes[(c - 16777217).toNat]'hi).name := by
    unfold named
    rw [if_neg (by omega), if_neg (by omega), if_neg (by omega), if_neg (by omega), if_neg (by omega), if_neg (by omega), hs]
    simp only [h, if_true]
  rw [hn]
  exact (shapes_size _ (List.getElem_mem hi)).1
/-- a valid key that has no name of its own is a character -/
theorem valid_char {c m : Int} (hv : validKey c m = true) (hn : (named c).size = 0) : (plainMods m = true ∧ character c = true) ∨ (shifted m = false ∧ QP.control c = true) := by
  unfold validKey at hv
  split at hv
  · cases hv
  · split at hv
    · rename_i h
      have := special_named h
      omega
    · split at hv
      · rename_i h; subst h; exact absurd hn (by decide)
      · split at hv
        · rename_i h; subst h; exact absurd hn (by decide)
        · split at hv
          · rename_i h
            rcases h with h | h | h | h <;> subst h <;> exact absurd hn (by decide)
          · split at hv
            · rename_i h; exact .inl ⟨h, hv⟩
            · simp only [Bool.and_eq_true, Bool.not_eq_true'] at hv
              exact .inr hv
theorem char_range {c : Int} (h : character c = true ∨ QP.control c = true) : 33 ≤ c ∧ c ≤ 1114111 := by
  rcases h with h | h
  · simp [character] at h; omega
  · simp [QP.control] at h; omega
theorem empty_iff (s : ByteArray) : s.toList.isEmpty = decide (s.size = 0) := by
  rw [Go.ByteArray.toList_eq, Bool.eq_iff_iff, List.isEmpty_iff, decide_eq_true_eq]
  constructor
  · intro h
    have := congrArg List.length h
    simpa using this
  · intro h
    exact List.eq_nil_of_length_eq_zero (by simpa using h)

set_option maxHeartbeats 8000000 in
set_option maxRecDepth 100000 in
theorem name_c (c m : Int) (h0 : 0 ≤ m) (h1 : m ≤ 7) (w : World) (h : ShapesAt w) : Calls Tryd.prog 50 #[.agg #[.int .i64 c, .int .i64 m]] w fun e w' => e = .returned (.string (nameKey c m)) ∧ Hid (Below w.heap.size w w') := by
  have hs1 : ShapesAt (w.alloc (.cells #[.int .i64 c, .int .i64 m] 76)) := h.below ((Below.refl w.heap.size w).alloc (Nat.le_refl _) _) (Nat.le_refl _)
  have HB1 := Lib.hid ((Below.refl w.heap.size w).alloc (Nat.le_refl _) (.cells #[.int .i64 c, .int .i64 m] 76))
  have hk := Blk.new w 76 #[.int .i64 c, .int .i64 m]
  have HK := Lib.hid hk
  have HS1 := Lib.hid hs1
  clear hs1 h hk
  go_enter Tryd.func50, Tryd.ntmps50
  go_wp2_with fail
  refine (valid_c c m h0 h1 _).mono ?_
  rintro e w1 ⟨rfl, HB2⟩
  have c0 : w1.cell? ⟨w.heap.size, 0, none⟩ = some (.int .i64 c) := (HK.out.below_ HB2.out).cell 0
  have c1 : w1.cell? ⟨w.heap.size, 1, none⟩ = some (.int .i64 m) := (HK.out.below_ HB2.out).cell 1
  have HS2 := Lib.hid (HS1.out.below HB2.out (Nat.le_refl _))
  have HBW := Lib.hid (below_of HB1.out HB2.out)
  cases hv : validKey c m with
  | false =>
    have HN : Hid (nameKey c m = ⟨#[]⟩) := Lib.hid (by unfold nameKey; rw [hv]; rfl)
    clear hv
    go_wp2
    go_ret
    exact ⟨by rw [HN.out]; rfl, HBW⟩
  | true =>
    go_wp2_with fail
    refine (named_c c _ HS2.out).mono ?_
    rintro e w2 ⟨rfl, rfl⟩
    cases hn : !(named c).toList.isEmpty with
    | true =>
      have hne : ¬ (named c).size = 0 := by
        rw [empty_iff] at hn
        simpa using hn
      have HN : Hid (nameKey c m = marks m ++ named c) := Lib.hid (by unfold nameKey; rw [hv, if_pos rfl, if_neg hne])
      have hms := marks_size m
      have hns := named_size c
      have hsum : (marks m).size + (named c).size ≤ 9223372036854775807 := by omega
      clear hv hne
      go_wp2_with fail
      refine (marks_c m h0 h1 _).mono ?_
      rintro e w3 ⟨rfl, rfl⟩
      go_wp2
      go_ret
      exact ⟨by rw [HN.out]; rfl, HBW⟩
    | false =>
      have hne : (named c).size = 0 := by
        rw [empty_iff] at hn
        simpa using hn
      have HN : Hid (nameKey c m = marks m ++ Utf8.encode c) := Lib.hid (by unfold nameKey; rw [hv, if_pos rfl, if_pos hne])
      obtain ⟨hc0, hc1⟩ := char_range ((valid_char hv hne).imp (fun h => h.2) (fun h => h.2))
      have hwr : IntKind.wrap .i32 c = c := by simp [IntKind.wrap, IntKind.signed, IntKind.bits]; omega
      have hes := encode_size_le c
      have hms := marks_size m
      have hsum : ¬ 9223372036854775807 < (marks m).size + (Utf8.encode c).size := by omega
      have d0 : w1.drew.cell? ⟨w.heap.size, 0, none⟩ = some (.int .i64 c) := c0
      have d1 : w1.drew.cell? ⟨w.heap.size, 1, none⟩ = some (.int .i64 m) := c1
      have HBD := Lib.hid HBW.out.drew
      clear hv hne hes hms
      go_wp2_with fail
      go_region_held3 (fun w' => w'.cell? ⟨w.heap.size, 0, none⟩ = some (.int .i64 c) ∧ w'.cell? ⟨w.heap.size, 1, none⟩ = some (.int .i64 m) ∧ Hid (Below w.heap.size w w'))
        (exact ⟨d0, d1, HBD⟩)
        (first | (go_at_call 48; with_reducible refine (marks_c m h0 h1 _).mono ?_; rintro e w3 ⟨rfl, rfl⟩))
      rename_i hh
      obtain ⟨-, -, HB5⟩ := hh
      go_wp2
      go_ret
      exact ⟨by rw [HN.out]; rfl, HB5⟩
end Go.Proofs.YtlmnhdpahmaccaaDoor
