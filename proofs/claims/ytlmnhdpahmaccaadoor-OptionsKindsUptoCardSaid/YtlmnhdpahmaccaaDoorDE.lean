/- the document's keys: Name. -/
import Derived.Test.YtlmnhdpahmaccaaDoorDB
import Derived.Deep.RegionHeld3
namespace Go.Proofs.YtlmnhdpahmaccaaDoor
open Go.RowKit QP

theorem word_get {c : Int} {i : Nat} (hi : i < 23) (hc : c = 16777217 + i) : wordCells[i]? = some (.string (named c)) := by
  by_cases h : i = 22
  · subst h
    have : named c = btab := by
      unfold named
      rw [if_neg (by omega), if_neg (by omega), if_neg (by omega), if_neg (by omega), if_neg (by omega), if_pos (by omega)]
    rw [this]
    rfl
  · have hs : special c = true := by simp [special]; omega
    have hl : i < shapes.length := by rw [shapes_len]; omega
    have hn : named c = (shapes[i]'hl).name := by
      unfold named
      rw [if_neg (by omega), if_neg (by omega), if_neg (by omega), if_neg (by omega), if_neg (by omega), if_neg (by omega), show (c - 16777217).toNat = i by omega, List.getElem?_eq_getElem hl]
      simp only [hs, if_true]
    unfold wordCells
    rw [List.getElem?_append_left (by simpa using hl), List.getElem?_map, List.getElem?_eq_getElem hl, hn]
    rfl
theorem words_at (i : Nat) (hi : i < 23) (c : Int) (hc : c = 16777217 + i) (W w : World) (k : Nat) (hk : w.cell? ⟨k, 0, none⟩ = some (.int .i64 c)) (hb : Below W.heap.size W w) :
    Calls Tryd.prog 54 #[] w fun e w' => ∃ g, e = .returned (.slice (some ⟨g, 0, none⟩) 23 23) ∧ w'.cell? ⟨g, i, none⟩ = some (.string (named c)) ∧ w'.cell? ⟨k, 0, none⟩ = some (.int .i64 c) ∧ Hid (Below W.heap.size W w') := by
  refine (dwords_c w).mono ?_
  rintro e w' ⟨g, rfl, hr, hb2⟩
  obtain ⟨g', off, cap, hv, -, hcell⟩ := hr.at_ (by decide)
  cases hv
  have := hcell i _ (word_get hi hc)
  rw [Nat.zero_add] at this
  exact ⟨g, rfl, this, (hb2.cell (p := ⟨k, 0, none⟩) (World.block_lt_of_cell? w _ hk)).trans hk, Lib.hid (below_of hb hb2)⟩
theorem name_none {c m : Int} (hv : validKey c m = false) : nameKey c m = ⟨#[]⟩ := by unfold nameKey; rw [hv]; rfl
theorem name_named {c m : Int} (hv : validKey c m = true) (hn : ¬ (named c).size = 0) : nameKey c m = marks m ++ named c := by unfold nameKey; rw [hv, if_pos rfl, if_neg hn]
theorem name_char {c m : Int} (hv : validKey c m = true) (hn : (named c).size = 0) : nameKey c m = marks m ++ Utf8.encode c := by unfold nameKey; rw [hv, if_pos rfl, if_pos hn]
theorem char_ok {c m : Int} (hv : validKey c m = true) (hn : (named c).size = 0) : ∃ n : Nat, c = n ∧ okChar n = true ∧ n ≤ 1114111 := by
  obtain ⟨h0, h1⟩ := char_range ((valid_char hv hn).imp (fun h => h.2) (fun h => h.2))
  refine ⟨c.toNat, by omega, ?_, by omega⟩
  rcases valid_char hv hn with h | h
  · have := h.2
    simp [character] at this
    simp [okChar]
    omega
  · have := h.2
    simp [QP.control] at this
    simp [okChar]
    omega

set_option maxHeartbeats 16000000 in
set_option maxRecDepth 100000 in
theorem dname_none (c m : Int) (h0 : 0 ≤ m) (h1 : m ≤ 7) (hv : validKey c m = false) (w : World) : Calls Tryd.prog 40 #[.agg #[.int .i64 c, .int .i64 m]] w fun e w' => e = .returned (.string (nameKey c m)) ∧ Hid (Below w.heap.size w w') := by
  have HB1 := Lib.hid ((Below.refl w.heap.size w).alloc (Nat.le_refl _) (.cells #[.int .i64 c, .int .i64 m] 76))
  have hk := Blk.new w 76 #[.int .i64 c, .int .i64 m]
  have HK := Lib.hid hk
  clear hk
  have hval := dvalid_c c m h0 h1 (w.alloc (.cells #[.int .i64 c, .int .i64 m] 76))
  rw [hv] at hval
  rw [name_none hv]
  clear hv h0 h1
  go_enter Tryd.func40, Tryd.ntmps40
  go_wp2_with fail
  refine hval.mono ?_
  rintro e w1 ⟨rfl, HB2⟩
  have HBW := Lib.hid (below_of HB1.out HB2.out)
  go_wp2
  go_ret
  exact ⟨rfl, HBW⟩

set_option maxHeartbeats 16000000 in
set_option maxRecDepth 100000 in
theorem dname_space (m : Int) (h0 : 0 ≤ m) (h1 : m ≤ 7) (hv : validKey 32 m = true) (w : World) : Calls Tryd.prog 40 #[.agg #[.int .i64 32, .int .i64 m]] w fun e w' => e = .returned (.string (nameKey 32 m)) ∧ Hid (Below w.heap.size w w') := by
  have HB1 := Lib.hid ((Below.refl w.heap.size w).alloc (Nat.le_refl _) (.cells #[.int .i64 32, .int .i64 m] 76))
  have hk := Blk.new w 76 #[.int .i64 32, .int .i64 m]
  have HK := Lib.hid hk
  clear hk
  have hval := dvalid_c 32 m h0 h1 (w.alloc (.cells #[.int .i64 32, .int .i64 m] 76))
  rw [hv] at hval
  have HN : Hid (nameKey 32 m = marks m ++ space) := Lib.hid (name_named hv (by decide))
  clear hv
  rcases mods_cases h0 h1 with rfl | rfl | rfl | rfl | rfl | rfl | rfl | rfl
  all_goals
    clear h0 h1
    go_enter Tryd.func40, Tryd.ntmps40
    go_wp2_with fail
    refine hval.mono ?_
    rintro e w1 ⟨rfl, HB2⟩
    have c0 : w1.cell? ⟨w.heap.size, 0, none⟩ = some (.int .i64 32) := (HK.out.below_ HB2.out).cell 0
    have c1 : w1.cell? ⟨w.heap.size, 1, none⟩ = some (.int .i64 _) := (HK.out.below_ HB2.out).cell 1
    have HBW := Lib.hid (below_of HB1.out HB2.out)
    go_wp2
    go_ret
    exact ⟨by rw [HN.out]; rfl, HBW⟩

set_option maxHeartbeats 16000000 in
set_option maxRecDepth 100000 in
theorem dname_enter (m : Int) (h0 : 0 ≤ m) (h1 : m ≤ 7) (hv : validKey 13 m = true) (w : World) : Calls Tryd.prog 40 #[.agg #[.int .i64 13, .int .i64 m]] w fun e w' => e = .returned (.string (nameKey 13 m)) ∧ Hid (Below w.heap.size w w') := by
  have HB1 := Lib.hid ((Below.refl w.heap.size w).alloc (Nat.le_refl _) (.cells #[.int .i64 13, .int .i64 m] 76))
  have hk := Blk.new w 76 #[.int .i64 13, .int .i64 m]
  have HK := Lib.hid hk
  clear hk
  have hval := dvalid_c 13 m h0 h1 (w.alloc (.cells #[.int .i64 13, .int .i64 m] 76))
  rw [hv] at hval
  have HN : Hid (nameKey 13 m = marks m ++ enter) := Lib.hid (name_named hv (by decide))
  clear hv
  rcases mods_cases h0 h1 with rfl | rfl | rfl | rfl | rfl | rfl | rfl | rfl
  all_goals
    clear h0 h1
    go_enter Tryd.func40, Tryd.ntmps40
    go_wp2_with fail
    refine hval.mono ?_
    rintro e w1 ⟨rfl, HB2⟩
    have c0 : w1.cell? ⟨w.heap.size, 0, none⟩ = some (.int .i64 13) := (HK.out.below_ HB2.out).cell 0
    have c1 : w1.cell? ⟨w.heap.size, 1, none⟩ = some (.int .i64 _) := (HK.out.below_ HB2.out).cell 1
    have HBW := Lib.hid (below_of HB1.out HB2.out)
    go_wp2
    go_ret
    exact ⟨by rw [HN.out]; rfl, HBW⟩

set_option maxHeartbeats 16000000 in
set_option maxRecDepth 100000 in
theorem dname_tab (m : Int) (h0 : 0 ≤ m) (h1 : m ≤ 7) (hv : validKey 9 m = true) (w : World) : Calls Tryd.prog 40 #[.agg #[.int .i64 9, .int .i64 m]] w fun e w' => e = .returned (.string (nameKey 9 m)) ∧ Hid (Below w.heap.size w w') := by
  have HB1 := Lib.hid ((Below.refl w.heap.size w).alloc (Nat.le_refl _) (.cells #[.int .i64 9, .int .i64 m] 76))
  have hk := Blk.new w 76 #[.int .i64 9, .int .i64 m]
  have HK := Lib.hid hk
  clear hk
  have hval := dvalid_c 9 m h0 h1 (w.alloc (.cells #[.int .i64 9, .int .i64 m] 76))
  rw [hv] at hval
  have HN : Hid (nameKey 9 m = marks m ++ tab) := Lib.hid (name_named hv (by decide))
  clear hv
  rcases mods_cases h0 h1 with rfl | rfl | rfl | rfl | rfl | rfl | rfl | rfl
  all_goals
    clear h0 h1
    go_enter Tryd.func40, Tryd.ntmps40
    go_wp2_with fail
    refine hval.mono ?_
    rintro e w1 ⟨rfl, HB2⟩
    have c0 : w1.cell? ⟨w.heap.size, 0, none⟩ = some (.int .i64 9) := (HK.out.below_ HB2.out).cell 0
    have c1 : w1.cell? ⟨w.heap.size, 1, none⟩ = some (.int .i64 _) := (HK.out.below_ HB2.out).cell 1
    have HBW := Lib.hid (below_of HB1.out HB2.out)
    go_wp2
    go_ret
    exact ⟨by rw [HN.out]; rfl, HBW⟩

set_option maxHeartbeats 16000000 in
set_option maxRecDepth 100000 in
theorem dname_escape (m : Int) (h0 : 0 ≤ m) (h1 : m ≤ 7) (hv : validKey 27 m = true) (w : World) : Calls Tryd.prog 40 #[.agg #[.int .i64 27, .int .i64 m]] w fun e w' => e = .returned (.string (nameKey 27 m)) ∧ Hid (Below w.heap.size w w') := by
  have HB1 := Lib.hid ((Below.refl w.heap.size w).alloc (Nat.le_refl _) (.cells #[.int .i64 27, .int .i64 m] 76))
  have hk := Blk.new w 76 #[.int .i64 27, .int .i64 m]
  have HK := Lib.hid hk
  clear hk
  have hval := dvalid_c 27 m h0 h1 (w.alloc (.cells #[.int .i64 27, .int .i64 m] 76))
  rw [hv] at hval
  have HN : Hid (nameKey 27 m = marks m ++ escape) := Lib.hid (name_named hv (by decide))
  clear hv
  rcases mods_cases h0 h1 with rfl | rfl | rfl | rfl | rfl | rfl | rfl | rfl
  all_goals
    clear h0 h1
    go_enter Tryd.func40, Tryd.ntmps40
    go_wp2_with fail
    refine hval.mono ?_
    rintro e w1 ⟨rfl, HB2⟩
    have c0 : w1.cell? ⟨w.heap.size, 0, none⟩ = some (.int .i64 27) := (HK.out.below_ HB2.out).cell 0
    have c1 : w1.cell? ⟨w.heap.size, 1, none⟩ = some (.int .i64 _) := (HK.out.below_ HB2.out).cell 1
    have HBW := Lib.hid (below_of HB1.out HB2.out)
    go_wp2
    go_ret
    exact ⟨by rw [HN.out]; rfl, HBW⟩

set_option maxHeartbeats 16000000 in
set_option maxRecDepth 100000 in
theorem dname_bspace (m : Int) (h0 : 0 ≤ m) (h1 : m ≤ 7) (hv : validKey 127 m = true) (w : World) : Calls Tryd.prog 40 #[.agg #[.int .i64 127, .int .i64 m]] w fun e w' => e = .returned (.string (nameKey 127 m)) ∧ Hid (Below w.heap.size w w') := by
  have HB1 := Lib.hid ((Below.refl w.heap.size w).alloc (Nat.le_refl _) (.cells #[.int .i64 127, .int .i64 m] 76))
  have hk := Blk.new w 76 #[.int .i64 127, .int .i64 m]
  have HK := Lib.hid hk
  clear hk
  have hval := dvalid_c 127 m h0 h1 (w.alloc (.cells #[.int .i64 127, .int .i64 m] 76))
  rw [hv] at hval
  have HN : Hid (nameKey 127 m = marks m ++ bspace) := Lib.hid (name_named hv (by decide))
  clear hv
  rcases mods_cases h0 h1 with rfl | rfl | rfl | rfl | rfl | rfl | rfl | rfl
  all_goals
    clear h0 h1
    go_enter Tryd.func40, Tryd.ntmps40
    go_wp2_with fail
    refine hval.mono ?_
    rintro e w1 ⟨rfl, HB2⟩
    have c0 : w1.cell? ⟨w.heap.size, 0, none⟩ = some (.int .i64 127) := (HK.out.below_ HB2.out).cell 0
    have c1 : w1.cell? ⟨w.heap.size, 1, none⟩ = some (.int .i64 _) := (HK.out.below_ HB2.out).cell 1
    have HBW := Lib.hid (below_of HB1.out HB2.out)
    go_wp2
    go_ret
    exact ⟨by rw [HN.out]; rfl, HBW⟩

set_option maxHeartbeats 16000000 in
set_option maxRecDepth 100000 in
theorem dname_word (i : Nat) (m : Int) (h0 : 0 ≤ m) (h1 : m ≤ 7) (hi : i < 23) (hv : validKey (16777217 + (i : Int)) m = true) (w : World) : Calls Tryd.prog 40 #[.agg #[.int .i64 (16777217 + (i : Int)), .int .i64 m]] w fun e w' => e = .returned (.string (nameKey (16777217 + (i : Int)) m)) ∧ Hid (Below w.heap.size w w') := by
  have HB1 := Lib.hid ((Below.refl w.heap.size w).alloc (Nat.le_refl _) (.cells #[.int .i64 (16777217 + (i : Int)), .int .i64 m] 76))
  have hk := Blk.new w 76 #[.int .i64 (16777217 + (i : Int)), .int .i64 m]
  have HK := Lib.hid hk
  clear hk
  have hval := dvalid_c (16777217 + (i : Int)) m h0 h1 (w.alloc (.cells #[.int .i64 (16777217 + (i : Int)), .int .i64 m] 76))
  rw [hv] at hval
  have q1 : (16777217 + (i : Int) == 32) = false := by simp; omega
  have q2 : (16777217 + (i : Int) == 13) = false := by simp; omega
  have q3 : (16777217 + (i : Int) == 9) = false := by simp; omega
  have q4 : (16777217 + (i : Int) == 27) = false := by simp; omega
  have q5 : (16777217 + (i : Int) == 127) = false := by simp; omega
  have q6 : decide (16777217 + (i : Int) ≥ 16777217) = true := by simp; omega
  have hsub : 16777217 + (i : Int) - 16777217 = (i : Int) := by omega
  have hi0 : (0 : Int) ≤ (i : Int) := by omega
  have hp : wrap64 (i : Int) = (i : Int) := by simp [wrap64]; omega
  have hp2 : IntKind.wrap .i64 (i : Int) = (i : Int) := by simp [IntKind.wrap, IntKind.signed, IntKind.bits]; omega
  have hi23 : (i : Int) < 23 := by omega
  have hne : ¬ (named (16777217 + (i : Int))).size = 0 := by
    by_cases h : i = 22
    · have hb : named (16777217 + (i : Int)) = btab := by
        unfold named
        rw [if_neg (by omega), if_neg (by omega), if_neg (by omega), if_neg (by omega), if_neg (by omega), if_pos (by omega)]
      rw [hb]
      decide
    · have := special_named (c := 16777217 + (i : Int)) (by simp [special]; omega)
      omega
  have hsz := named_size (16777217 + (i : Int))
  have HW := fun W w k hk hb => words_at i hi (16777217 + (i : Int)) rfl W w k hk hb
  obtain ⟨nm, hnm⟩ : ∃ nm, named (16777217 + (i : Int)) = nm := ⟨_, rfl⟩
  rw [hnm] at HW hsz hne
  have HN : Hid (nameKey (16777217 + (i : Int)) m = marks m ++ nm) := Lib.hid (by rw [name_named hv (by rw [hnm]; exact hne), hnm])
  obtain ⟨nk, hnk⟩ : ∃ nk, nameKey (16777217 + (i : Int)) m = nk := ⟨_, rfl⟩
  rw [hnk] at HN
  rw [hnk]
  clear hv hne hnm hnk
  rcases mods_cases h0 h1 with rfl | rfl | rfl | rfl | rfl | rfl | rfl | rfl
  all_goals
    clear h0 h1
    go_enter Tryd.func40, Tryd.ntmps40
    go_wp2_with fail
    refine hval.mono ?_
    rintro e w1 ⟨rfl, HB2⟩
    have c0 : w1.cell? ⟨w.heap.size, 0, none⟩ = some (.int .i64 (16777217 + (i : Int))) := (HK.out.below_ HB2.out).cell 0
    have c1 : w1.cell? ⟨w.heap.size, 1, none⟩ = some (.int .i64 _) := (HK.out.below_ HB2.out).cell 1
    have HBW := Lib.hid (below_of HB1.out HB2.out)
    have d0 : w1.drew.cell? ⟨w.heap.size, 0, none⟩ = some (.int .i64 (16777217 + (i : Int))) := c0
    have HBD := Lib.hid HBW.out.drew
    have hwords := HW w w1.drew w.heap.size d0 HBD.out
    clear HW
    have hs1 : ¬ 9223372036854775807 < nm.size := by omega
    have hs2 : ¬ 9223372036854775807 < 2 + nm.size := by omega
    have hs3 : ¬ 9223372036854775807 < 4 + nm.size := by omega
    have hs4 : ¬ 9223372036854775807 < 6 + nm.size := by omega
    go_wp2_with fail
    refine wp_region_noPanic ?_
    go_region_with (first | (go_at_call 54; with_reducible refine hwords.mono ?_; rintro e w2 ⟨g, rfl, ecell, e0, HB3⟩))
    all_goals refine NoPanic.normal ?_
    all_goals
      go_wp2
      go_ret
      exact ⟨by rw [HN.out]; rfl, HB3⟩

set_option maxHeartbeats 16000000 in
set_option maxRecDepth 100000 in
theorem dname_char (c m : Int) (h0 : 0 ≤ m) (h1 : m ≤ 7) (hn : (named c).size = 0) (hv : validKey c m = true) (w : World) : Calls Tryd.prog 40 #[.agg #[.int .i64 c, .int .i64 m]] w fun e w' => e = .returned (.string (nameKey c m)) ∧ Hid (Below w.heap.size w w') := by
  have HB1 := Lib.hid ((Below.refl w.heap.size w).alloc (Nat.le_refl _) (.cells #[.int .i64 c, .int .i64 m] 76))
  have hk := Blk.new w 76 #[.int .i64 c, .int .i64 m]
  have HK := Lib.hid hk
  clear hk
  have hval := dvalid_c c m h0 h1 (w.alloc (.cells #[.int .i64 c, .int .i64 m] 76))
  rw [hv] at hval
  obtain ⟨n, hcn, hok, hn1⟩ := char_ok hv hn
  have hr := char_range ((valid_char hv hn).imp (fun h => h.2) (fun h => h.2))
  have hb : ∀ x ∈ [32, 13, 9, 27, 127], c ≠ x := by
    intro x hx e
    rw [e] at hn
    simp at hx
    rcases hx with rfl | rfl | rfl | rfl | rfl <;> exact absurd hn (by decide)
  have b1 := hb 32 (by simp)
  have b5 := hb 127 (by simp)
  have q1 : (c == 32) = false := by simpa using b1
  have q2 : (c == 13) = false := by simp; omega
  have q3 : (c == 9) = false := by simp; omega
  have q4 : (c == 27) = false := by simp; omega
  have q5 : (c == 127) = false := by simpa using b5
  have q6 : decide (c ≥ 16777217) = false := by simp; omega
  have HN := Lib.hid (name_char hv hn)
  rw [hcn, enc_eq hok, ← hcn] at HN
  have hutf := fun w => dutf8_c n (by omega) w
  rw [← hcn] at hutf
  have hul : (dutf8 n).length ≤ 4 := by
    unfold dutf8
    repeat' split
    all_goals simp
  obtain ⟨u, hu⟩ : ∃ u, (⟨(dutf8 n).toArray⟩ : ByteArray) = u := ⟨_, rfl⟩
  have hus : u.size ≤ 4 := by rw [← hu]; exact hul
  rw [hu] at hutf HN
  obtain ⟨nk, hnk⟩ : ∃ nk, nameKey c m = nk := ⟨_, rfl⟩
  rw [hnk] at HN
  rw [hnk]
  clear hv hn hcn hok hn1 hr hb b1 b5 hul hu hnk
  have hs1 : ¬ 9223372036854775807 < u.size := by omega
  have hs2 : ¬ 9223372036854775807 < 2 + u.size := by omega
  have hs3 : ¬ 9223372036854775807 < 4 + u.size := by omega
  have hs4 : ¬ 9223372036854775807 < 6 + u.size := by omega
  rcases mods_cases h0 h1 with rfl | rfl | rfl | rfl | rfl | rfl | rfl | rfl
  all_goals
    clear h0 h1
    go_enter Tryd.func40, Tryd.ntmps40
    go_wp2_with fail
    refine hval.mono ?_
    rintro e w1 ⟨rfl, HB2⟩
    have c0 : w1.cell? ⟨w.heap.size, 0, none⟩ = some (.int .i64 c) := (HK.out.below_ HB2.out).cell 0
    have c1 : w1.cell? ⟨w.heap.size, 1, none⟩ = some (.int .i64 _) := (HK.out.below_ HB2.out).cell 1
    have HBW := Lib.hid (below_of HB1.out HB2.out)
    go_wp2_with fail
    refine (hutf _).mono ?_
    rintro e w2 ⟨rfl, HB3⟩
    have HBX := Lib.hid (below_of HBW.out HB3.out)
    go_wp2
    go_ret
    exact ⟨by rw [HN.out]; rfl, HBX⟩

theorem dname_c (c m : Int) (h0 : 0 ≤ m) (h1 : m ≤ 7) (w : World) : Calls Tryd.prog 40 #[.agg #[.int .i64 c, .int .i64 m]] w fun e w' => e = .returned (.string (nameKey c m)) ∧ Hid (Below w.heap.size w w') := by
  cases hv : validKey c m with
  | false => exact dname_none c m h0 h1 hv w
  | true =>
    by_cases a1 : c = 32
    · subst a1; exact dname_space m h0 h1 hv w
    by_cases a2 : c = 13
    · subst a2; exact dname_enter m h0 h1 hv w
    by_cases a3 : c = 9
    · subst a3; exact dname_tab m h0 h1 hv w
    by_cases a4 : c = 27
    · subst a4; exact dname_escape m h0 h1 hv w
    by_cases a5 : c = 127
    · subst a5; exact dname_bspace m h0 h1 hv w
    by_cases a6 : 16777217 ≤ c ∧ c ≤ 16777239
    · obtain ⟨i, hi⟩ : ∃ i : Nat, c = 16777217 + (i : Int) := ⟨(c - 16777217).toNat, by omega⟩
      subst hi
      exact dname_word i m h0 h1 (by omega) hv w
    · refine dname_char c m h0 h1 ?_ hv w
      have hs : special c = false := by rw [Bool.eq_false_iff]; intro h; simp [special] at h; omega
      unfold named
      rw [if_neg a1, if_neg a2, if_neg a3, if_neg a4, if_neg a5, if_neg (by omega), hs]
      split <;> rfl
end Go.Proofs.YtlmnhdpahmaccaaDoor
