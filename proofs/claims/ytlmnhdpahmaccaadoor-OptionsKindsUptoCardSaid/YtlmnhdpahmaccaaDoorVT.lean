/- options: takes, in general. -/
import Derived.Test.YtlmnhdpahmaccaaDoorNA
import Derived.Test.YtlmnhdpahmaccaaDoorSB
import Derived.Test.YtlmnhdpahmaccaaDoorVD
namespace Go.Proofs.YtlmnhdpahmaccaaDoor
open Go.RowKit QP

theorem takes_num_eq {r : ORow} (h : r.kind = 1) (v : ByteArray) : takesVal r v = isNum r.lo r.hi v := by unfold takesVal; rw [if_pos h]
theorem takes_word_eq {r : ORow} (h : r.kind = 2) (v : ByteArray) : takesVal r v = isWord r.words v := by unfold takesVal; rw [if_neg (by omega), if_pos h]
theorem takes_flag_eq {r : ORow} (h : r.kind = 3) (v : ByteArray) : takesVal r v = isFlag v := by unfold takesVal; rw [if_neg (by omega), if_neg (by omega), if_pos h]
theorem takes_key_eq {r : ORow} (h : r.kind = 4) (v : ByteArray) : takesVal r v = (readCode decG v == 0) := by unfold takesVal; rw [if_neg (by omega), if_neg (by omega), if_neg (by omega), if_pos h]
theorem takes_text_eq {r : ORow} (h : r.kind = 5) (v : ByteArray) : takesVal r v = decide (v.size ≤ 1024) := by unfold takesVal; rw [if_neg (by omega), if_neg (by omega), if_neg (by omega), if_neg (by omega)]

structure TakesIn (W w : World) (r : ORow) (k : Int) : Prop where
  bel : Below W.heap.size W w
  box : Blk w W.heap.size 54 #[.string r.name, .int .i64 r.scope, .int .i64 k, .int .i64 r.lo, .int .i64 r.hi, .string r.words, .string r.first]
theorem TakesIn.below {W w w1 : World} {r : ORow} {k : Int} (h : TakesIn W w r k) (hb : Below w.heap.size w w1) : TakesIn W w1 r k := ⟨below_of h.bel hb, h.box.below_ hb⟩
theorem TakesIn.new (w : World) (r : ORow) (k : Int) : TakesIn w (w.alloc (.cells #[.string r.name, .int .i64 r.scope, .int .i64 k, .int .i64 r.lo, .int .i64 r.hi, .string r.words, .string r.first] 54)) r k :=
  ⟨(Below.refl _ _).alloc (Nat.le_refl _) _, Blk.new _ _ _⟩

set_option maxHeartbeats 4000000 in
set_option maxRecDepth 100000 in
theorem takes_num (r : ORow) (v : ByteArray) (hv : v.size ≤ 281474976710656) (w : World) (h : VarsAt w) :
    Calls Tryd.prog 27 #[.agg #[.string r.name, .int .i64 r.scope, .int .i64 1, .int .i64 r.lo, .int .i64 r.hi, .string r.words, .string r.first], .string v] w fun e w' => e = .returned (.bool (isNum r.lo r.hi v)) ∧ Hid (Below w.heap.size w w') := by
  have HI := Lib.hid (TakesIn.new w r 1)
  have hnum := number_c v hv _ (h.below HI.out.bel)
  rw [pnum_rnum] at hnum
  obtain ⟨p, hp⟩ : ∃ p, rnum v.data.toList = p := ⟨_, rfl⟩
  have hx : isNum r.lo r.hi v = numIn r.lo r.hi p := by rw [← hp]; exact isNum_eq _ _ _
  obtain ⟨x, hxe⟩ : ∃ x, isNum r.lo r.hi v = x := ⟨_, rfl⟩
  rw [hxe] at hx ⊢
  rw [hp] at hnum
  clear hp hv hxe h
  cases p with
  | none =>
    simp only [numIn] at hx
    subst hx
    go_enter Tryd.func27, Tryd.ntmps27
    go_wp2_with fail
    refine hnum.mono ?_
    rintro e w1 ⟨rfl, HB1⟩
    have HI1 := Lib.hid (HI.out.below HB1.out)
    go_wp2
    go_ret
    exact ⟨rfl, Lib.hid HI1.out.bel⟩
  | some n =>
    simp only [numIn] at hx
    simp only [Option.getD_some, Option.isSome_some] at hnum
    have HX := Lib.hid hx
    clear hx
    by_cases h1 : r.lo ≤ (n : Int)
    · have q1 : decide ((n : Int) ≥ r.lo) = true := by simpa using h1
      by_cases h2 : (n : Int) ≤ r.hi
      · have q2 : decide ((n : Int) ≤ r.hi) = true := by simpa using h2
        have hx : x = true := by rw [HX.out, decide_eq_true h1, decide_eq_true h2]; rfl
        subst hx
        clear HX
        go_enter Tryd.func27, Tryd.ntmps27
        go_wp2_with fail
        refine hnum.mono ?_
        rintro e w1 ⟨rfl, HB1⟩
        have HI1 := Lib.hid (HI.out.below HB1.out)
        obtain ⟨z0, z1, z2, z3, z4, z5, z6, -⟩ := seven HI1.out.box
        go_wp2
        go_ret
        exact ⟨rfl, Lib.hid HI1.out.bel⟩
      · have q2 : decide ((n : Int) ≤ r.hi) = false := by simpa using h2
        have hx : x = false := by rw [HX.out, decide_eq_true h1, decide_eq_false h2]; rfl
        subst hx
        clear HX
        go_enter Tryd.func27, Tryd.ntmps27
        go_wp2_with fail
        refine hnum.mono ?_
        rintro e w1 ⟨rfl, HB1⟩
        have HI1 := Lib.hid (HI.out.below HB1.out)
        obtain ⟨z0, z1, z2, z3, z4, z5, z6, -⟩ := seven HI1.out.box
        go_wp2
        go_ret
        exact ⟨rfl, Lib.hid HI1.out.bel⟩
    · have q1 : decide ((n : Int) ≥ r.lo) = false := by simpa using h1
      have hx : x = false := by rw [HX.out, decide_eq_false h1]; rfl
      subst hx
      clear HX
      go_enter Tryd.func27, Tryd.ntmps27
      go_wp2_with fail
      refine hnum.mono ?_
      rintro e w1 ⟨rfl, HB1⟩
      have HI1 := Lib.hid (HI.out.below HB1.out)
      obtain ⟨z0, z1, z2, z3, z4, z5, z6, -⟩ := seven HI1.out.box
      go_wp2
      go_ret
      exact ⟨rfl, Lib.hid HI1.out.bel⟩

set_option maxHeartbeats 4000000 in
set_option maxRecDepth 100000 in
theorem takes_flag (r : ORow) (v : ByteArray) (w : World) :
    Calls Tryd.prog 27 #[.agg #[.string r.name, .int .i64 r.scope, .int .i64 3, .int .i64 r.lo, .int .i64 r.hi, .string r.words, .string r.first], .string v] w fun e w' => e = .returned (.bool (isFlag v)) ∧ Hid (Below w.heap.size w w') := by
  have HI := Lib.hid (TakesIn.new w r 3)
  have h1 := onT_beq v
  have h2 := offT_beq v
  obtain ⟨x, hxe⟩ : ∃ x, isFlag v = x := ⟨_, rfl⟩
  have hx : x = (sameS v onT || sameS v offT) := by rw [← hxe]; rfl
  rw [hxe]
  clear hxe
  cases a : sameS v onT <;> cases b : sameS v offT
  all_goals
    rw [a] at h1
    rw [b] at h2
    rw [a, b] at hx
    simp at hx
    subst hx
    clear a b
    go_enter Tryd.func27, Tryd.ntmps27
    go_wp2
    go_ret
    exact ⟨rfl, Lib.hid HI.out.bel⟩

set_option maxHeartbeats 4000000 in
set_option maxRecDepth 100000 in
theorem takes_text (r : ORow) (v : ByteArray) (w : World) :
    Calls Tryd.prog 27 #[.agg #[.string r.name, .int .i64 r.scope, .int .i64 5, .int .i64 r.lo, .int .i64 r.hi, .string r.words, .string r.first], .string v] w fun e w' => e = .returned (.bool (decide (v.size ≤ 1024))) ∧ Hid (Below w.heap.size w w') := by
  have HI := Lib.hid (TakesIn.new w r 5)
  by_cases h : v.size ≤ 1024
  · have q : decide ((v.size : Int) ≤ 1024) = true := by simp; omega
    rw [decide_eq_true h]
    go_enter Tryd.func27, Tryd.ntmps27
    go_wp2
    go_ret
    exact ⟨rfl, Lib.hid HI.out.bel⟩
  · have q : decide ((v.size : Int) ≤ 1024) = false := by simp; omega
    rw [decide_eq_false h]
    go_enter Tryd.func27, Tryd.ntmps27
    go_wp2
    go_ret
    exact ⟨rfl, Lib.hid HI.out.bel⟩

theorem dec_c (s : ByteArray) (w : World) (h : VarsAt w) : Calls Tryd.prog 63 #[.string s] w fun e w'' => e = .returned (.tuple #[.int .i32 (decG s).1, .int .i64 (decG s).2]) ∧ Hid (Below w.heap.size w w'') :=
  (Tryd.utf8_DecodeRuneInString s w h.u8).mono fun _ _ hh => ⟨hh.1, Lib.hid hh.2⟩
theorem dec_small (s : ByteArray) : (Lib.decodeGo s).1 ≤ 1114111 ∨ (Lib.decodeGo s).1 < 2097152 := by
  right
  unfold Lib.decodeGo
  split
  · decide
  · unfold Utf8.decode
    simp only
    repeat' split
    all_goals first | omega | (simp [Utf8.runeError]; done) | skip
    all_goals simp only
    all_goals have := UInt8.toNat_lt (s.get! (0 + 0))
    all_goals omega
theorem dec_wrap (s : ByteArray) : IntKind.wrap .i64 (decG s).1 = (decG s).1 := by
  have h : (Lib.decodeGo s).1 < 2097152 := by
    rcases dec_small s with h | h <;> omega
  show IntKind.wrap .i64 ((Lib.decodeGo s).1 : Int) = ((Lib.decodeGo s).1 : Int)
  simp [IntKind.wrap, IntKind.signed, IntKind.bits]
  omega
theorem takes_key (r : ORow) (hk : r.kind = 4) (v : ByteArray) (w : World) (h : VarsAt w) :
    Calls Tryd.prog 27 #[.agg #[.string r.name, .int .i64 r.scope, .int .i64 r.kind, .int .i64 r.lo, .int .i64 r.hi, .string r.words, .string r.first], .string v] w fun e w' => e = .returned (.bool (readCode decG v == 0)) ∧ Hid (Below w.heap.size w w') :=
  takes_key_c decG r hk v w h.sh (fun _ _ _ w' hb => dec_c _ w' (h.below hb.out)) (fun _ _ => dec_wrap _)

theorem fields1 : (Lib.fields words1.data.toList).map (fun l => (⟨l.toArray⟩ : ByteArray)) = wordsOf words1 := by kernel_rfl
theorem fields2 : (Lib.fields words2.data.toList).map (fun l => (⟨l.toArray⟩ : ByteArray)) = wordsOf words2 := by kernel_rfl
theorem fields3 : (Lib.fields words3.data.toList).map (fun l => (⟨l.toArray⟩ : ByteArray)) = wordsOf words3 := by kernel_rfl
theorem contains_any (ws : List ByteArray) (v : ByteArray) : Lib.containsS ws v = ws.any fun x => sameS x v := by
  rw [Bool.eq_iff_iff, Lib.containsS_iff, List.any_eq_true]
  constructor
  · intro h
    exact ⟨v, h, (sameS_iff _ _).2 rfl⟩
  · rintro ⟨x, hx, e⟩
    rw [sameS_iff] at e
    exact e ▸ hx
theorem fields_c (t : ByteArray) (ws : List ByteArray) (hf : (Lib.fields t.data.toList).map (fun l => (⟨l.toArray⟩ : ByteArray)) = ws) (ht : t.data.toList.all (fun b => decide (b.toNat < 128)) = true) (hs : t.size < 4294967281) (w : World) (h : VarsAt w) :
    Calls Tryd.prog 35 #[.string t] w fun e w' => ∃ g, e = .returned (.slice (some ⟨g, 0, none⟩) ws.length ws.length) ∧ (∀ j, j < ws.length → w'.cell? ⟨g, 0 + j, none⟩ = some (.string (ws.getD j ByteArray.empty))) ∧ Hid (Below w.heap.size w w') := by
  refine (Tryd.strings_Fields_laid t w hs (fun j b hb => ?_) h.sp).mono ?_
  · have := List.all_eq_true.1 ht b (List.mem_of_getElem? hb)
    simpa using this
  · rintro e w' ⟨rfl, rfl⟩
    have hl : ws.length = (Lib.fields t.data.toList).length := by rw [← hf, List.length_map]
    rw [hl]
    refine ⟨_, rfl, fun j hj => ?_, Lib.hid ((Below.refl _ _).alloc (Nat.le_refl _) _)⟩
    rw [Nat.zero_add, (Blk.new w _ _).cell, ← hf]
    simp [List.getD, hj]
set_option maxHeartbeats 4000000 in
set_option maxRecDepth 100000 in
theorem takes_word (r : ORow) (ws : List ByteArray) (hl : ws.length ≤ 3) (hf : (Lib.fields r.words.data.toList).map (fun l => (⟨l.toArray⟩ : ByteArray)) = ws) (ht : r.words.data.toList.all (fun b => decide (b.toNat < 128)) = true) (hs : r.words.size < 4294967281) (hne : ∀ x ∈ ws, x.size ≠ 0)
    (v : ByteArray) (w : World) (h : VarsAt w) :
    Calls Tryd.prog 27 #[.agg #[.string r.name, .int .i64 r.scope, .int .i64 2, .int .i64 r.lo, .int .i64 r.hi, .string r.words, .string r.first], .string v] w fun e w' => e = .returned (.bool (ws.any fun x => sameS x v)) ∧ Hid (Below w.heap.size w w') := by
  have HI := Lib.hid (TakesIn.new w r 2)
  have hfc := fields_c r.words ws hf ht hs _ (h.below HI.out.bel)
  obtain ⟨x, hx⟩ : ∃ x, (ws.any fun x => sameS x v) = x := ⟨_, rfl⟩
  have HX := Lib.hid hx
  rw [hx]
  have HNE := Lib.hid hne
  clear hf ht hs hne h hx
  cases hz : v.toList.isEmpty with
  | true =>
    have hv0 : v.size = 0 := by rw [empty_iff] at hz; simpa using hz
    have hx : x = false := by
      rw [← HX.out, List.any_eq_false]
      intro y hy e
      rw [sameS_iff] at e
      exact HNE.out y hy (by rw [e]; exact hv0)
    subst hx
    clear HX hv0
    go_enter Tryd.func27, Tryd.ntmps27
    go_wp2
    go_ret
    exact ⟨rfl, Lib.hid HI.out.bel⟩
  | false =>
    obtain ⟨z0, z1, z2, z3, z4, z5, z6, -⟩ := seven HI.out.box
    go_enter Tryd.func27, Tryd.ntmps27
    go_wp2_with fail
    refine hfc.mono ?_
    rintro e w1 ⟨g, rfl, hc, HB1⟩
    have HI1 := Lib.hid (HI.out.below HB1.out)
    have hcon := Tryd.slices_Contains_string g 0 ws.length ws.length ws v w1 (Nat.le_refl _) (by omega) hc
    rw [List.take_length, contains_any, HX.out] at hcon
    clear hc HX
    go_wp2_with fail
    refine hcon.mono ?_
    rintro e w2 ⟨rfl, rfl⟩
    go_wp2
    go_ret
    exact ⟨rfl, Lib.hid HI1.out.bel⟩

theorem takes_c (r : ORow) (hr : r ∈ table) (v : ByteArray) (hv : v.size ≤ 281474976710656) (w : World) (h : VarsAt w) :
    Calls Tryd.prog 27 #[.agg #[.string r.name, .int .i64 r.scope, .int .i64 r.kind, .int .i64 r.lo, .int .i64 r.hi, .string r.words, .string r.first], .string v] w fun e w' => e = .returned (.bool (takesVal r v)) ∧ Hid (Below w.heap.size w w') := by
  rcases (kinds r hr).1 with e | e | e | e | e
  · rw [takes_num_eq e, e]
    exact takes_num r v hv w h
  · rw [takes_word_eq e, e]
    rcases (kinds r hr).2 e with a | a | a
    all_goals
      rw [sameS_iff] at a
      refine takes_word r _ (words_len _) ?_ ?_ ?_ ?_ v w h
    · rw [a]; exact fields1
    · rw [a]; decide
    · rw [a]; decide
    · rw [a]; decide
    · rw [a]; exact fields2
    · rw [a]; decide
    · rw [a]; decide
    · rw [a]; decide
    · rw [a]; exact fields3
    · rw [a]; decide
    · rw [a]; decide
    · rw [a]; decide
  · rw [takes_flag_eq e, e]
    exact takes_flag r v w
  · rw [takes_key_eq e]
    exact takes_key r e v w h
  · rw [takes_text_eq e, e]
    exact takes_text r v w
end Go.Proofs.YtlmnhdpahmaccaaDoor
