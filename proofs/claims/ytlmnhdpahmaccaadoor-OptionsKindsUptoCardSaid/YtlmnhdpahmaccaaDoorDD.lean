/- the document's keys: first. -/
import Derived.Test.YtlmnhdpahmaccaaDoorDC
import Derived.Deep.RegionHeld3
namespace Go.Proofs.YtlmnhdpahmaccaaDoor
open Go.RowKit QP

theorem firstAt_none {s : List UInt8} {n : Nat} (h : dworth (s.take n) = none) : firstAt s n = none := by
  unfold firstAt
  rw [h]
  split <;> rfl
theorem firstAt_some {s : List UInt8} {n c : Nat} (hs : n ≤ s.length) (h : dworth (s.take n) = some c) : firstAt s n = if dutf8 c = s.take n ∧ okChar c = true then some (c, n) else none := by
  unfold firstAt
  rw [h, if_neg (by omega)]
theorem dfirst_next {s : List UInt8} {k : Nat} (h : ((List.range 4).take k).findSome? (fun k => firstAt s (k + 1)) = none) (hk : k < 4) (he : firstAt s (k + 1) = none) : ((List.range 4).take (k + 1)).findSome? (fun k => firstAt s (k + 1)) = none := by
  have hl : k < (List.range 4).length := by simpa using hk
  have hg : (List.range 4)[k]'hl = k := by simp
  rw [List.take_succ_eq_append_getElem hl, List.findSome?_append, h, hg]
  simp [he]
theorem dfirst_hit {s : List UInt8} {k : Nat} {x : Nat × Nat} (h : ((List.range 4).take k).findSome? (fun k => firstAt s (k + 1)) = none) (hk : k < 4) (he : firstAt s (k + 1) = some x) : dfirst s = some x := by
  have hl : k < (List.range 4).length := by simpa using hk
  have hg : (List.range 4)[k]'hl = k := by simp
  unfold dfirst
  conv => lhs; rw [← List.take_append_drop k (List.range 4)]
  rw [List.findSome?_append, h, List.drop_eq_getElem_cons hl, hg, List.findSome?_cons, he]
  rfl
theorem dfirst_short {s : List UInt8} {k : Nat} (h : ((List.range 4).take k).findSome? (fun k => firstAt s (k + 1)) = none) (hk : 4 ≤ k ∨ s.length ≤ k) : dfirst s = none := by
  unfold dfirst
  by_cases h4 : 4 ≤ k
  · rw [List.take_of_length_le (by simpa using h4)] at h
    exact h
  · rw [← List.take_append_drop k (List.range 4), List.findSome?_append, h]
    show List.findSome? _ _ = none
    rw [List.findSome?_eq_none_iff]
    intro x hx
    obtain ⟨i, hi, rfl⟩ := List.getElem_of_mem hx
    unfold firstAt
    rw [if_pos]
    simp
    omega
def firstOut (s : List UInt8) : Value := match dfirst s with
  | some (c, n) => .tuple #[.int .i64 c, .int .i64 n, .bool true]
  | none => .tuple #[.int .i64 0, .int .i64 0, .bool false]

set_option maxHeartbeats 8000000 in
set_option maxRecDepth 100000 in
theorem dfirst_c (s : ByteArray) (_hs : s.size ≤ 9223372036854775807) (w : World) : Calls Tryd.prog 41 #[.string s] w fun e w' => e = .returned (firstOut s.data.toList) ∧ Hid (Below w.heap.size w w') := by
  obtain ⟨v, hv⟩ : ∃ v, firstOut s.data.toList = v := ⟨_, rfl⟩
  have HV := Lib.hid hv
  rw [hv]
  clear hv
  have HB : Hid (Below w.heap.size w w) := Lib.hid (Below.refl _ _)
  go_enter Tryd.func41, Tryd.ntmps41
  go_wp2
  go_loopw [5] (fun i wr => ∃ k : Nat, k ≤ 4 ∧ i = .int .i64 ((k : Int) + 1) ∧ Hid (((List.range 4).take k).findSome? (fun k => firstAt s.data.toList (k + 1)) = none) ∧ Hid (Below w.heap.size w wr)) (fun i _ => 5 - (intOf i).toNat)
  case atStart => exact ⟨0, Nat.zero_le _, rfl, Lib.hid rfl, HB⟩
  case round =>
    clear HB
    obtain ⟨k, hk, rfl, HN, HB⟩ := hrel
    by_cases h4 : k < 4
    · by_cases hl : k + 1 ≤ s.size
      · have z1 : (k : Int) + 1 ≤ 4 := by omega
        have z2 : (k : Int) + 1 ≤ (s.size : Int) := by omega
        have z3 : (0 : Int) ≤ (k : Int) + 1 := by omega
        obtain ⟨t, ht⟩ : ∃ t, s.extract 0 (k + 1) = t := ⟨_, rfl⟩
        have htl : t.data.toList = s.data.toList.take (k + 1) := by
          rw [← ht]
          simp
        have htz : t.size = k + 1 := by
          rw [← ht]
          simp
          omega
        have hworth := fun w => dworth_c t (by omega) (by omega) w
        have HT := Lib.hid htl
        go_wp2_with fail
        refine (hworth _).mono ?_
        rintro e w1 ⟨rfl, HB1⟩
        have HB2 := Lib.hid (below_of HB.out HB1.out)
        cases hd : dworth t.data.toList with
        | none =>
          have hwv : worthVal t.data.toList = -1 := by unfold worthVal; rw [hd]
          have HF : Hid (((List.range 4).take (k + 1)).findSome? (fun k => firstAt s.data.toList (k + 1)) = none) := Lib.hid (dfirst_next HN.out h4 (firstAt_none (by rw [← HT.out]; exact hd)))
          rw [hwv]
          have HBD := Lib.hid HB2.out.drew
          clear hd hwv hworth htl
          go_wp2_with fail
          go_region
          all_goals
            go_wp2
            go_roundw
            case rel => exact ⟨k + 1, by omega, by go_num, HF, HBD⟩
            case measure => simp [intOf]; omega
        | some c =>
          have hwv : worthVal t.data.toList = c := by unfold worthVal; rw [hd]
          have hc := dworth_lt (by rw [Array.length_toList]; show t.size ≤ 4; omega) hd
          have hsl : k + 1 ≤ s.data.toList.length := hl
          have HFA := Lib.hid (firstAt_some hsl (by rw [← HT.out]; exact hd))
          have hutf := fun w => dutf8_c c hc w
          have hc0 : (0 : Int) ≤ (c : Int) := by omega
          obtain ⟨u, hu⟩ : ∃ u, (⟨(dutf8 c).toArray⟩ : ByteArray) = u := ⟨_, rfl⟩
          rw [hu] at hutf
          rw [hwv]
          have hut := hutf w1.drew
          have HBD := Lib.hid HB2.out.drew
          have HU := Lib.hid hu
          clear hd hwv hworth hutf hu
          by_cases he : u.toList = t.toList
          · have q1 : (u.toList == t.toList) = true := by rw [he]; exact beq_self_eq_true _
            have hdu : dutf8 c = s.data.toList.take (k + 1) := by
              rw [← HT.out]
              have h1 := congrArg (fun z : ByteArray => z.data.toList) HU.out
              simp only at h1
              rw [h1]
              simpa [ByteArray.toList_eq] using he
            have HDU := Lib.hid hdu
            clear he hdu htl
            by_cases c1 : c ≤ 1114111
            · have c1i : decide ((c : Int) ≤ 1114111) = true := by simp; omega
              have c1n : decide (c ≤ 1114111) = true := by simp; omega
              by_cases c2 : c < 55296
              · have c2i : decide ((c : Int) < 55296) = true := by simp; omega
                have c2n : decide (c < 55296) = true := by simp; omega
                have HF : Hid (dfirst s.data.toList = some (c, k + 1)) := Lib.hid (dfirst_hit HN.out h4 (by rw [HFA.out, if_pos ⟨HDU.out, by simp [okChar]; omega⟩]))
                have hv : v = .tuple #[.int .i64 c, .int .i64 ((k : Int) + 1), .bool true] := by rw [← HV.out]; unfold firstOut; rw [HF.out]; rfl
                subst hv
                clear HV
                go_wp2_with fail
                refine wp_region_noPanic ?_
                refine wp_region_held_drew (S := fun w' => Hid (Below w.heap.size w w')) (by kernel_rfl) HBD (fun hHeld => ?_)
                refine wpAnyH_take (i := 0) (oi := { dst := some 21, op := Op.move (Operand.tmp 6), type := 3, pos := "ref.go:139", after := #[], guard := none }) (v := ?_) rfl (by kernel_rfl) (by kernel_rfl) (by kernel_rfl) (fun _ _ _ h => h) (Or.inl ⟨by rfl, ?_⟩) hHeld ?_
                rotate_left
                · (intro w hSw; go_simp; try with_reducible rfl)
                try simp only [Act.put, List.setIfInBounds_toArray, List.set_cons_zero, List.set_cons_succ]
                refine wpAnyH_take (i := 1) (oi := { dst := some 22, op := Op.binOp BinOp.geq 3 (Operand.tmp 21) (Operand.const (Value.int IntKind.i64 0)) 3, type := 4, pos := "ref.go:139", after := #[{ on := 0, ground := Ground.data }], guard := none }) (v := ?_) rfl (by kernel_rfl) (by kernel_rfl) (by kernel_rfl) (fun _ _ _ h => h) (Or.inl ⟨by rfl, ?_⟩) hHeld ?_
                rotate_left
                · (intro w hSw; go_simp; try with_reducible rfl)
                try simp only [Act.put, List.setIfInBounds_toArray, List.set_cons_zero, List.set_cons_succ]
                refine wpAnyH_take (i := 2) (oi := { dst := some 23, op := Op.move (Operand.tmp 22), type := 4, pos := "ref.go:139", after := #[{ on := 1, ground := Ground.data }], guard := none }) (v := ?_) rfl (by kernel_rfl) (by kernel_rfl) (by kernel_rfl) (fun _ _ _ h => h) (Or.inl ⟨by rfl, ?_⟩) hHeld ?_
                rotate_left
                · (intro w hSw; go_simp; try with_reducible rfl)
                try simp only [Act.put, List.setIfInBounds_toArray, List.set_cons_zero, List.set_cons_succ]
                refine wpAnyH_take (i := 3) (oi := { dst := some 24, op := Op.move (Operand.tmp 6), type := 3, pos := "ref.go:139", after := #[{ on := 2, ground := Ground.guard }], guard := some (2, true) }) (v := ?_) rfl (by kernel_rfl) (by kernel_rfl) (by kernel_rfl) (fun _ _ _ h => h) (Or.inl ⟨by rfl, ?_⟩) hHeld ?_
                rotate_left
                · (intro w hSw; go_simp; try with_reducible rfl)
                try simp only [Act.put, List.setIfInBounds_toArray, List.set_cons_zero, List.set_cons_succ]
                refine wpAnyH_take (i := 5) (oi := { dst := some 26, op := Op.move (Operand.tmp 0), type := 9, pos := "ref.go:139", after := #[{ on := 2, ground := Ground.guard }], guard := some (2, true) }) (v := ?_) rfl (by kernel_rfl) (by kernel_rfl) (by kernel_rfl) (fun _ _ _ h => h) (Or.inl ⟨by rfl, ?_⟩) hHeld ?_
                rotate_left
                · (intro w hSw; go_simp; try with_reducible rfl)
                try simp only [Act.put, List.setIfInBounds_toArray, List.set_cons_zero, List.set_cons_succ]
                refine wpAnyH_take (i := 6) (oi := { dst := some 27, op := Op.move (Operand.tmp 5), type := 3, pos := "ref.go:139", after := #[{ on := 2, ground := Ground.guard }], guard := some (2, true) }) (v := ?_) rfl (by kernel_rfl) (by kernel_rfl) (by kernel_rfl) (fun _ _ _ h => h) (Or.inl ⟨by rfl, ?_⟩) hHeld ?_
                rotate_left
                · (intro w hSw; go_simp; try with_reducible rfl)
                try simp only [Act.put, List.setIfInBounds_toArray, List.set_cons_zero, List.set_cons_succ]
                refine wpAnyH_take (i := 7) (oi := { dst := some 28, op := Op.slice 9 (Operand.tmp 26) none (some (Operand.tmp 27)) none, type := 9, pos := "ref.go:139", after := #[{ on := 5, ground := Ground.data }, { on := 6, ground := Ground.data }, { on := 2, ground := Ground.guard }], guard := some (2, true) }) (v := ?_) rfl (by kernel_rfl) (by kernel_rfl) (by kernel_rfl) (fun _ _ _ h => h) (Or.inl ⟨by rfl, ?_⟩) hHeld ?_
                rotate_left
                · (intro w hSw; go_simp; try with_reducible rfl)
                try simp only [Act.put, List.setIfInBounds_toArray, List.set_cons_zero, List.set_cons_succ]
                refine wpAnyH_ready (rs := [4]) (by kernel_rfl) (by simp) ?_
                refine AllReadyH.cons (o := { dst := some 25, op := Op.call { callee := Callee.value (Operand.func 55), args := #[Operand.tmp 24], argTypes := #[3] }, type := 9, pos := "ref.go:139", after := #[{ on := 3, ground := Ground.data }, { on := 2, ground := Ground.chain }, { on := 2, ground := Ground.guard }], guard := some (2, true) }) rfl (fun K hK => ?_) AllReadyH.nil
                go_simp
                go_at_call 55; with_reducible refine hut.mono ?_; rintro e w2 ⟨rfl, HB3⟩
                go_wp2_with fail
                have hh := Lib.hid (below_of HBD.out HB3.out)
                refine hK.out _ _ hh (fun hHeld => ?_)
                clear hK K
                try simp only [Act.put, List.setIfInBounds_toArray, List.set_cons_zero, List.set_cons_succ]
                refine wpAnyH_take (i := 8) (oi := { dst := some 29, op := Op.binOp BinOp.eql 9 (Operand.tmp 25) (Operand.tmp 28) 9, type := 4, pos := "ref.go:139", after := #[{ on := 4, ground := Ground.data }, { on := 7, ground := Ground.data }, { on := 2, ground := Ground.guard }], guard := some (2, true) }) (v := ?_) rfl (by kernel_rfl) (by kernel_rfl) (by kernel_rfl) (fun _ _ _ h => h) (Or.inl ⟨by rfl, ?_⟩) hHeld ?_
                rotate_left
                · (intro w hSw; go_simp; try with_reducible rfl)
                try simp only [Act.put, List.setIfInBounds_toArray, List.set_cons_zero, List.set_cons_succ]
                refine wpAnyH_take (i := 9) (oi := { dst := some 30, op := Op.pick (Operand.tmp 23) (Operand.tmp 29) (Operand.const (Value.bool false)), type := 4, pos := "ref.go:139", after := #[{ on := 2, ground := Ground.data }, { on := 8, ground := Ground.data }], guard := none }) (v := ?_) rfl (by kernel_rfl) (by kernel_rfl) (by kernel_rfl) (fun _ _ _ h => h) (Or.inl ⟨by rfl, ?_⟩) hHeld ?_
                rotate_left
                · (intro w hSw; go_simp; try with_reducible rfl)
                try simp only [Act.put, List.setIfInBounds_toArray, List.set_cons_zero, List.set_cons_succ]
                refine wpAnyH_take (i := 10) (oi := { dst := some 31, op := Op.move (Operand.tmp 30), type := 4, pos := "ref.go:139", after := #[{ on := 9, ground := Ground.data }, { on := 4, ground := Ground.chain }], guard := none }) (v := ?_) rfl (by kernel_rfl) (by kernel_rfl) (by kernel_rfl) (fun _ _ _ h => h) (Or.inl ⟨by rfl, ?_⟩) hHeld ?_
                rotate_left
                · (intro w hSw; go_simp; try with_reducible rfl)
                try simp only [Act.put, List.setIfInBounds_toArray, List.set_cons_zero, List.set_cons_succ]
                refine wpAnyH_take (i := 11) (oi := { dst := some 32, op := Op.move (Operand.tmp 6), type := 3, pos := "ref.go:139", after := #[{ on := 10, ground := Ground.guard }], guard := some (10, true) }) (v := ?_) rfl (by kernel_rfl) (by kernel_rfl) (by kernel_rfl) (fun _ _ _ h => h) (Or.inl ⟨by rfl, ?_⟩) hHeld ?_
                rotate_left
                · (intro w hSw; go_simp; try with_reducible rfl)
                try simp only [Act.put, List.setIfInBounds_toArray, List.set_cons_zero, List.set_cons_succ]
                refine wpAnyH_take (i := 12) (oi := { dst := some 33, op := Op.binOp BinOp.leq 3 (Operand.tmp 32) (Operand.const (Value.int IntKind.i64 1114111)) 3, type := 4, pos := "ref.go:139", after := #[{ on := 11, ground := Ground.data }, { on := 10, ground := Ground.guard }], guard := some (10, true) }) (v := ?_) rfl (by kernel_rfl) (by kernel_rfl) (by kernel_rfl) (fun _ _ _ h => h) (Or.inl ⟨by rfl, ?_⟩) hHeld ?_
                rotate_left
                · (intro w hSw; go_simp; try with_reducible rfl)
                try simp only [Act.put, List.setIfInBounds_toArray, List.set_cons_zero, List.set_cons_succ]
                refine wpAnyH_take (i := 13) (oi := { dst := some 34, op := Op.pick (Operand.tmp 31) (Operand.tmp 33) (Operand.const (Value.bool false)), type := 4, pos := "ref.go:139", after := #[{ on := 10, ground := Ground.data }, { on := 12, ground := Ground.data }], guard := none }) (v := ?_) rfl (by kernel_rfl) (by kernel_rfl) (by kernel_rfl) (fun _ _ _ h => h) (Or.inl ⟨by rfl, ?_⟩) hHeld ?_
                rotate_left
                · (intro w hSw; go_simp; try with_reducible rfl)
                try simp only [Act.put, List.setIfInBounds_toArray, List.set_cons_zero, List.set_cons_succ]
                refine wpAnyH_take (i := 14) (oi := { dst := some 35, op := Op.move (Operand.tmp 34), type := 4, pos := "ref.go:139", after := #[{ on := 13, ground := Ground.data }, { on := 10, ground := Ground.chain }], guard := none }) (v := ?_) rfl (by kernel_rfl) (by kernel_rfl) (by kernel_rfl) (fun _ _ _ h => h) (Or.inl ⟨by rfl, ?_⟩) hHeld ?_
                rotate_left
                · (intro w hSw; go_simp; try with_reducible rfl)
                try simp only [Act.put, List.setIfInBounds_toArray, List.set_cons_zero, List.set_cons_succ]
                refine wpAnyH_take (i := 15) (oi := { dst := some 36, op := Op.move (Operand.tmp 6), type := 3, pos := "ref.go:139", after := #[{ on := 14, ground := Ground.guard }], guard := some (14, true) }) (v := ?_) rfl (by kernel_rfl) (by kernel_rfl) (by kernel_rfl) (fun _ _ _ h => h) (Or.inl ⟨by rfl, ?_⟩) hHeld ?_
                rotate_left
                · (intro w hSw; go_simp; try with_reducible rfl)
                try simp only [Act.put, List.setIfInBounds_toArray, List.set_cons_zero, List.set_cons_succ]
                refine wpAnyH_take (i := 16) (oi := { dst := some 37, op := Op.binOp BinOp.lss 3 (Operand.tmp 36) (Operand.const (Value.int IntKind.i64 55296)) 3, type := 4, pos := "ref.go:139", after := #[{ on := 15, ground := Ground.data }, { on := 14, ground := Ground.guard }], guard := some (14, true) }) (v := ?_) rfl (by kernel_rfl) (by kernel_rfl) (by kernel_rfl) (fun _ _ _ h => h) (Or.inl ⟨by rfl, ?_⟩) hHeld ?_
                rotate_left
                · (intro w hSw; go_simp; try with_reducible rfl)
                try simp only [Act.put, List.setIfInBounds_toArray, List.set_cons_zero, List.set_cons_succ]
                refine wpAnyH_take (i := 17) (oi := { dst := some 38, op := Op.move (Operand.tmp 37), type := 4, pos := "ref.go:139", after := #[{ on := 16, ground := Ground.data }, { on := 14, ground := Ground.chain }, { on := 14, ground := Ground.guard }], guard := some (14, true) }) (v := ?_) rfl (by kernel_rfl) (by kernel_rfl) (by kernel_rfl) (fun _ _ _ h => h) (Or.inl ⟨by rfl, ?_⟩) hHeld ?_
                rotate_left
                · (intro w hSw; go_simp; try with_reducible rfl)
                try simp only [Act.put, List.setIfInBounds_toArray, List.set_cons_zero, List.set_cons_succ]
                refine wpAnyH_take (i := 18) (oi := { dst := some 39, op := Op.move (Operand.tmp 6), type := 3, pos := "ref.go:139", after := #[{ on := 17, ground := Ground.guard }], guard := some (17, false) }) (v := undef) rfl (by kernel_rfl) (by kernel_rfl) (by kernel_rfl) (fun _ _ _ h => h) (Or.inr ⟨by rfl, rfl⟩) hHeld ?_
                try simp only [Act.put, List.setIfInBounds_toArray, List.set_cons_zero, List.set_cons_succ]
                refine wpAnyH_take (i := 19) (oi := { dst := some 40, op := Op.binOp BinOp.gtr 3 (Operand.tmp 39) (Operand.const (Value.int IntKind.i64 57343)) 3, type := 4, pos := "ref.go:139", after := #[{ on := 18, ground := Ground.data }, { on := 17, ground := Ground.guard }], guard := some (17, false) }) (v := undef) rfl (by kernel_rfl) (by kernel_rfl) (by kernel_rfl) (fun _ _ _ h => h) (Or.inr ⟨by rfl, rfl⟩) hHeld ?_
                try simp only [Act.put, List.setIfInBounds_toArray, List.set_cons_zero, List.set_cons_succ]
                refine wpAnyH_take (i := 20) (oi := { dst := some 41, op := Op.pick (Operand.tmp 38) (Operand.const (Value.bool true)) (Operand.tmp 40), type := 4, pos := "ref.go:139", after := #[{ on := 17, ground := Ground.data }, { on := 19, ground := Ground.data }, { on := 14, ground := Ground.guard }], guard := some (14, true) }) (v := ?_) rfl (by kernel_rfl) (by kernel_rfl) (by kernel_rfl) (fun _ _ _ h => h) (Or.inl ⟨by rfl, ?_⟩) hHeld ?_
                rotate_left
                · (intro w hSw; go_simp; try with_reducible rfl)
                try simp only [Act.put, List.setIfInBounds_toArray, List.set_cons_zero, List.set_cons_succ]
                refine wpAnyH_take (i := 21) (oi := { dst := some 42, op := Op.pick (Operand.tmp 35) (Operand.tmp 41) (Operand.const (Value.bool false)), type := 4, pos := "ref.go:139", after := #[{ on := 14, ground := Ground.data }, { on := 20, ground := Ground.data }], guard := none }) (v := ?_) rfl (by kernel_rfl) (by kernel_rfl) (by kernel_rfl) (fun _ _ _ h => h) (Or.inl ⟨by rfl, ?_⟩) hHeld ?_
                rotate_left
                · (intro w hSw; go_simp; try with_reducible rfl)
                try simp only [Act.put, List.setIfInBounds_toArray, List.set_cons_zero, List.set_cons_succ]
                refine wpAnyH_done (by kernel_rfl) ?_ _
                refine NoPanic.normal ?_
                go_wp2
                go_ret3
                exact ⟨rfl, hh⟩
              · have c2i : decide ((c : Int) < 55296) = false := by simp; omega
                have c2n : decide (c < 55296) = false := by simp; omega
                by_cases c3 : c > 57343
                · have c3i : decide ((c : Int) > 57343) = true := by simp; omega
                  have c3n : decide (c > 57343) = true := by simp; omega
                  have HF : Hid (dfirst s.data.toList = some (c, k + 1)) := Lib.hid (dfirst_hit HN.out h4 (by rw [HFA.out, if_pos ⟨HDU.out, by simp [okChar]; omega⟩]))
                  have hv : v = .tuple #[.int .i64 c, .int .i64 ((k : Int) + 1), .bool true] := by rw [← HV.out]; unfold firstOut; rw [HF.out]; rfl
                  subst hv
                  clear HV
                  go_wp2_with fail
                  first | (go_region_held3 (fun w' => Hid (Below w.heap.size w w')) (first | exact HBD | exact Lib.hid (below_of HBD.out HB3.out)) (first | (go_at_call 55; with_reducible refine hut.mono ?_; rintro e w2 ⟨rfl, HB3⟩))) | fail
                  rename_i hh
                  go_wp2
                  go_ret3
                  exact ⟨rfl, hh⟩
                · have c3i : decide ((c : Int) > 57343) = false := by simp; omega
                  have c3n : decide (c > 57343) = false := by simp; omega
                  have HF : Hid (((List.range 4).take (k + 1)).findSome? (fun k => firstAt s.data.toList (k + 1)) = none) := Lib.hid (dfirst_next HN.out h4 (by rw [HFA.out, if_neg (by rintro ⟨-, h⟩; simp [okChar] at h; omega)]))
                  go_wp2_with fail
                  first | (go_region_held3 (fun w' => Hid (Below w.heap.size w w')) (first | exact HBD | exact Lib.hid (below_of HBD.out HB3.out)) (first | (go_at_call 55; with_reducible refine hut.mono ?_; rintro e w2 ⟨rfl, HB3⟩))) | fail
                  rename_i hh
                  go_wp2
                  go_roundw
                  case rel => exact ⟨k + 1, by omega, by go_num, HF, hh⟩
                  case measure => simp [intOf]; omega
            · have c1i : decide ((c : Int) ≤ 1114111) = false := by simp; omega
              have c1n : decide (c ≤ 1114111) = false := by simp; omega
              have HF : Hid (((List.range 4).take (k + 1)).findSome? (fun k => firstAt s.data.toList (k + 1)) = none) := Lib.hid (dfirst_next HN.out h4 (by rw [HFA.out, if_neg (by rintro ⟨-, h⟩; simp [okChar] at h; omega)]))
              go_wp2_with fail
              have hud : undef = Value.tuple #[] := rfl
              refine wp_region_noPanic ?_
              refine wp_region_held_drew (S := fun w' => Hid (Below w.heap.size w w')) (by kernel_rfl) HBD (fun hHeld => ?_)
              refine wpAnyH_take (i := 0) (oi := { dst := some 21, op := Op.move (Operand.tmp 6), type := 3, pos := "ref.go:139", after := #[], guard := none }) (v := ?_) rfl (by kernel_rfl) (by kernel_rfl) (by kernel_rfl) (fun _ _ _ h => h) (Or.inl ⟨by rfl, ?_⟩) hHeld ?_
              rotate_left
              · (intro w hSw; go_simp; try with_reducible rfl)
              try simp only [Act.put, List.setIfInBounds_toArray, List.set_cons_zero, List.set_cons_succ]
              refine wpAnyH_take (i := 1) (oi := { dst := some 22, op := Op.binOp BinOp.geq 3 (Operand.tmp 21) (Operand.const (Value.int IntKind.i64 0)) 3, type := 4, pos := "ref.go:139", after := #[{ on := 0, ground := Ground.data }], guard := none }) (v := ?_) rfl (by kernel_rfl) (by kernel_rfl) (by kernel_rfl) (fun _ _ _ h => h) (Or.inl ⟨by rfl, ?_⟩) hHeld ?_
              rotate_left
              · (intro w hSw; go_simp; try with_reducible rfl)
              try simp only [Act.put, List.setIfInBounds_toArray, List.set_cons_zero, List.set_cons_succ]
              refine wpAnyH_take (i := 2) (oi := { dst := some 23, op := Op.move (Operand.tmp 22), type := 4, pos := "ref.go:139", after := #[{ on := 1, ground := Ground.data }], guard := none }) (v := ?_) rfl (by kernel_rfl) (by kernel_rfl) (by kernel_rfl) (fun _ _ _ h => h) (Or.inl ⟨by rfl, ?_⟩) hHeld ?_
              rotate_left
              · (intro w hSw; go_simp; try with_reducible rfl)
              try simp only [Act.put, List.setIfInBounds_toArray, List.set_cons_zero, List.set_cons_succ]
              refine wpAnyH_take (i := 3) (oi := { dst := some 24, op := Op.move (Operand.tmp 6), type := 3, pos := "ref.go:139", after := #[{ on := 2, ground := Ground.guard }], guard := some (2, true) }) (v := ?_) rfl (by kernel_rfl) (by kernel_rfl) (by kernel_rfl) (fun _ _ _ h => h) (Or.inl ⟨by rfl, ?_⟩) hHeld ?_
              rotate_left
              · (intro w hSw; go_simp; try with_reducible rfl)
              try simp only [Act.put, List.setIfInBounds_toArray, List.set_cons_zero, List.set_cons_succ]
              refine wpAnyH_take (i := 5) (oi := { dst := some 26, op := Op.move (Operand.tmp 0), type := 9, pos := "ref.go:139", after := #[{ on := 2, ground := Ground.guard }], guard := some (2, true) }) (v := ?_) rfl (by kernel_rfl) (by kernel_rfl) (by kernel_rfl) (fun _ _ _ h => h) (Or.inl ⟨by rfl, ?_⟩) hHeld ?_
              rotate_left
              · (intro w hSw; go_simp; try with_reducible rfl)
              try simp only [Act.put, List.setIfInBounds_toArray, List.set_cons_zero, List.set_cons_succ]
              refine wpAnyH_take (i := 6) (oi := { dst := some 27, op := Op.move (Operand.tmp 5), type := 3, pos := "ref.go:139", after := #[{ on := 2, ground := Ground.guard }], guard := some (2, true) }) (v := ?_) rfl (by kernel_rfl) (by kernel_rfl) (by kernel_rfl) (fun _ _ _ h => h) (Or.inl ⟨by rfl, ?_⟩) hHeld ?_
              rotate_left
              · (intro w hSw; go_simp; try with_reducible rfl)
              try simp only [Act.put, List.setIfInBounds_toArray, List.set_cons_zero, List.set_cons_succ]
              refine wpAnyH_take (i := 7) (oi := { dst := some 28, op := Op.slice 9 (Operand.tmp 26) none (some (Operand.tmp 27)) none, type := 9, pos := "ref.go:139", after := #[{ on := 5, ground := Ground.data }, { on := 6, ground := Ground.data }, { on := 2, ground := Ground.guard }], guard := some (2, true) }) (v := ?_) rfl (by kernel_rfl) (by kernel_rfl) (by kernel_rfl) (fun _ _ _ h => h) (Or.inl ⟨by rfl, ?_⟩) hHeld ?_
              rotate_left
              · (intro w hSw; go_simp; try with_reducible rfl)
              try simp only [Act.put, List.setIfInBounds_toArray, List.set_cons_zero, List.set_cons_succ]
              refine wpAnyH_ready (rs := [4]) (by kernel_rfl) (by simp) ?_
              refine AllReadyH.cons (o := { dst := some 25, op := Op.call { callee := Callee.value (Operand.func 55), args := #[Operand.tmp 24], argTypes := #[3] }, type := 9, pos := "ref.go:139", after := #[{ on := 3, ground := Ground.data }, { on := 2, ground := Ground.chain }, { on := 2, ground := Ground.guard }], guard := some (2, true) }) rfl (fun K hK => ?_) AllReadyH.nil
              go_simp
              go_at_call 55; with_reducible refine hut.mono ?_; rintro e w2 ⟨rfl, HB3⟩
              go_wp2_with fail
              have hh := Lib.hid (below_of HBD.out HB3.out)
              refine hK.out _ _ hh (fun hHeld => ?_)
              clear hK K
              try simp only [Act.put, List.setIfInBounds_toArray, List.set_cons_zero, List.set_cons_succ]
              refine wpAnyH_take (i := 8) (oi := { dst := some 29, op := Op.binOp BinOp.eql 9 (Operand.tmp 25) (Operand.tmp 28) 9, type := 4, pos := "ref.go:139", after := #[{ on := 4, ground := Ground.data }, { on := 7, ground := Ground.data }, { on := 2, ground := Ground.guard }], guard := some (2, true) }) (v := ?_) rfl (by kernel_rfl) (by kernel_rfl) (by kernel_rfl) (fun _ _ _ h => h) (Or.inl ⟨by rfl, ?_⟩) hHeld ?_
              rotate_left
              · (intro w hSw; go_simp; try with_reducible rfl)
              try simp only [Act.put, List.setIfInBounds_toArray, List.set_cons_zero, List.set_cons_succ]
              refine wpAnyH_take (i := 9) (oi := { dst := some 30, op := Op.pick (Operand.tmp 23) (Operand.tmp 29) (Operand.const (Value.bool false)), type := 4, pos := "ref.go:139", after := #[{ on := 2, ground := Ground.data }, { on := 8, ground := Ground.data }], guard := none }) (v := ?_) rfl (by kernel_rfl) (by kernel_rfl) (by kernel_rfl) (fun _ _ _ h => h) (Or.inl ⟨by rfl, ?_⟩) hHeld ?_
              rotate_left
              · (intro w hSw; go_simp; try with_reducible rfl)
              try simp only [Act.put, List.setIfInBounds_toArray, List.set_cons_zero, List.set_cons_succ]
              refine wpAnyH_take (i := 10) (oi := { dst := some 31, op := Op.move (Operand.tmp 30), type := 4, pos := "ref.go:139", after := #[{ on := 9, ground := Ground.data }, { on := 4, ground := Ground.chain }], guard := none }) (v := ?_) rfl (by kernel_rfl) (by kernel_rfl) (by kernel_rfl) (fun _ _ _ h => h) (Or.inl ⟨by rfl, ?_⟩) hHeld ?_
              rotate_left
              · (intro w hSw; go_simp; try with_reducible rfl)
              try simp only [Act.put, List.setIfInBounds_toArray, List.set_cons_zero, List.set_cons_succ]
              refine wpAnyH_take (i := 11) (oi := { dst := some 32, op := Op.move (Operand.tmp 6), type := 3, pos := "ref.go:139", after := #[{ on := 10, ground := Ground.guard }], guard := some (10, true) }) (v := ?_) rfl (by kernel_rfl) (by kernel_rfl) (by kernel_rfl) (fun _ _ _ h => h) (Or.inl ⟨by rfl, ?_⟩) hHeld ?_
              rotate_left
              · (intro w hSw; go_simp; try with_reducible rfl)
              try simp only [Act.put, List.setIfInBounds_toArray, List.set_cons_zero, List.set_cons_succ]
              refine wpAnyH_take (i := 12) (oi := { dst := some 33, op := Op.binOp BinOp.leq 3 (Operand.tmp 32) (Operand.const (Value.int IntKind.i64 1114111)) 3, type := 4, pos := "ref.go:139", after := #[{ on := 11, ground := Ground.data }, { on := 10, ground := Ground.guard }], guard := some (10, true) }) (v := ?_) rfl (by kernel_rfl) (by kernel_rfl) (by kernel_rfl) (fun _ _ _ h => h) (Or.inl ⟨by rfl, ?_⟩) hHeld ?_
              rotate_left
              · (intro w hSw; go_simp; try with_reducible rfl)
              try simp only [Act.put, List.setIfInBounds_toArray, List.set_cons_zero, List.set_cons_succ]
              refine wpAnyH_take (i := 13) (oi := { dst := some 34, op := Op.pick (Operand.tmp 31) (Operand.tmp 33) (Operand.const (Value.bool false)), type := 4, pos := "ref.go:139", after := #[{ on := 10, ground := Ground.data }, { on := 12, ground := Ground.data }], guard := none }) (v := ?_) rfl (by kernel_rfl) (by kernel_rfl) (by kernel_rfl) (fun _ _ _ h => h) (Or.inl ⟨by rfl, ?_⟩) hHeld ?_
              rotate_left
              · (intro w hSw; go_simp; try with_reducible rfl)
              try simp only [Act.put, List.setIfInBounds_toArray, List.set_cons_zero, List.set_cons_succ]
              refine wpAnyH_take (i := 14) (oi := { dst := some 35, op := Op.move (Operand.tmp 34), type := 4, pos := "ref.go:139", after := #[{ on := 13, ground := Ground.data }, { on := 10, ground := Ground.chain }], guard := none }) (v := ?_) rfl (by kernel_rfl) (by kernel_rfl) (by kernel_rfl) (fun _ _ _ h => h) (Or.inl ⟨by rfl, ?_⟩) hHeld ?_
              rotate_left
              · (intro w hSw; go_simp; try with_reducible rfl)
              try simp only [Act.put, List.setIfInBounds_toArray, List.set_cons_zero, List.set_cons_succ]
              refine wpAnyH_take (i := 15) (oi := { dst := some 36, op := Op.move (Operand.tmp 6), type := 3, pos := "ref.go:139", after := #[{ on := 14, ground := Ground.guard }], guard := some (14, true) }) (v := undef) rfl (by kernel_rfl) (by kernel_rfl) (by kernel_rfl) (fun _ _ _ h => h) (Or.inr ⟨by rfl, rfl⟩) hHeld ?_
              try simp only [Act.put, List.setIfInBounds_toArray, List.set_cons_zero, List.set_cons_succ]
              refine wpAnyH_take (i := 16) (oi := { dst := some 37, op := Op.binOp BinOp.lss 3 (Operand.tmp 36) (Operand.const (Value.int IntKind.i64 55296)) 3, type := 4, pos := "ref.go:139", after := #[{ on := 15, ground := Ground.data }, { on := 14, ground := Ground.guard }], guard := some (14, true) }) (v := undef) rfl (by kernel_rfl) (by kernel_rfl) (by kernel_rfl) (fun _ _ _ h => h) (Or.inr ⟨by rfl, rfl⟩) hHeld ?_
              try simp only [Act.put, List.setIfInBounds_toArray, List.set_cons_zero, List.set_cons_succ]
              refine wpAnyH_take (i := 17) (oi := { dst := some 38, op := Op.move (Operand.tmp 37), type := 4, pos := "ref.go:139", after := #[{ on := 16, ground := Ground.data }, { on := 14, ground := Ground.chain }, { on := 14, ground := Ground.guard }], guard := some (14, true) }) (v := undef) rfl (by kernel_rfl) (by kernel_rfl) (by kernel_rfl) (fun _ _ _ h => h) (Or.inr ⟨by rfl, rfl⟩) hHeld ?_
              try simp only [Act.put, List.setIfInBounds_toArray, List.set_cons_zero, List.set_cons_succ]
              refine wpAnyH_take (i := 18) (oi := { dst := some 39, op := Op.move (Operand.tmp 6), type := 3, pos := "ref.go:139", after := #[{ on := 17, ground := Ground.guard }], guard := some (17, false) }) (v := undef) rfl (by kernel_rfl) (by kernel_rfl) (by kernel_rfl) (fun _ _ _ h => h) (Or.inr ⟨by rfl, rfl⟩) hHeld ?_
              try simp only [Act.put, List.setIfInBounds_toArray, List.set_cons_zero, List.set_cons_succ]
              refine wpAnyH_take (i := 19) (oi := { dst := some 40, op := Op.binOp BinOp.gtr 3 (Operand.tmp 39) (Operand.const (Value.int IntKind.i64 57343)) 3, type := 4, pos := "ref.go:139", after := #[{ on := 18, ground := Ground.data }, { on := 17, ground := Ground.guard }], guard := some (17, false) }) (v := undef) rfl (by kernel_rfl) (by kernel_rfl) (by kernel_rfl) (fun _ _ _ h => h) (Or.inr ⟨by rfl, rfl⟩) hHeld ?_
              try simp only [Act.put, List.setIfInBounds_toArray, List.set_cons_zero, List.set_cons_succ]
              refine wpAnyH_take (i := 20) (oi := { dst := some 41, op := Op.pick (Operand.tmp 38) (Operand.const (Value.bool true)) (Operand.tmp 40), type := 4, pos := "ref.go:139", after := #[{ on := 17, ground := Ground.data }, { on := 19, ground := Ground.data }, { on := 14, ground := Ground.guard }], guard := some (14, true) }) (v := undef) rfl (by kernel_rfl) (by kernel_rfl) (by kernel_rfl) (fun _ _ _ h => h) (Or.inr ⟨by rfl, rfl⟩) hHeld ?_
              try simp only [Act.put, List.setIfInBounds_toArray, List.set_cons_zero, List.set_cons_succ]
              refine wpAnyH_take (i := 21) (oi := { dst := some 42, op := Op.pick (Operand.tmp 35) (Operand.tmp 41) (Operand.const (Value.bool false)), type := 4, pos := "ref.go:139", after := #[{ on := 14, ground := Ground.data }, { on := 20, ground := Ground.data }], guard := none }) (v := ?_) rfl (by kernel_rfl) (by kernel_rfl) (by kernel_rfl) (fun _ _ _ h => h) (Or.inl ⟨by rfl, ?_⟩) hHeld ?_
              rotate_left
              · (intro w hSw; go_simp; try with_reducible rfl)
              try simp only [Act.put, List.setIfInBounds_toArray, List.set_cons_zero, List.set_cons_succ]
              refine wpAnyH_done (by kernel_rfl) ?_ _
              refine NoPanic.normal ?_
              clear hud
              simp only [show Value.tuple #[] = undef from rfl]
              go_wp2
              go_roundw
              case rel => exact ⟨k + 1, by omega, by go_num, HF, hh⟩
              case measure => simp [intOf]; omega
          · have q1 : (u.toList == t.toList) = false := by simpa using he
            have hdu : dutf8 c ≠ s.data.toList.take (k + 1) := by
              intro h1
              apply he
              rw [← HU.out, ByteArray.toList_eq, ByteArray.toList_eq, HT.out]
              exact h1
            have HDU := Lib.hid hdu
            clear he hdu htl
            have HF : Hid (((List.range 4).take (k + 1)).findSome? (fun k => firstAt s.data.toList (k + 1)) = none) := Lib.hid (dfirst_next HN.out h4 (by rw [HFA.out, if_neg (by exact fun h => HDU.out h.1)]))
            go_wp2_with fail
            have hud : undef = Value.tuple #[] := rfl
            refine wp_region_noPanic ?_
            refine wp_region_held_drew (S := fun w' => Hid (Below w.heap.size w w')) (by kernel_rfl) HBD (fun hHeld => ?_)
            refine wpAnyH_take (i := 0) (oi := { dst := some 21, op := Op.move (Operand.tmp 6), type := 3, pos := "ref.go:139", after := #[], guard := none }) (v := ?_) rfl (by kernel_rfl) (by kernel_rfl) (by kernel_rfl) (fun _ _ _ h => h) (Or.inl ⟨by rfl, ?_⟩) hHeld ?_
            rotate_left
            · (intro w hSw; go_simp; try with_reducible rfl)
            try simp only [Act.put, List.setIfInBounds_toArray, List.set_cons_zero, List.set_cons_succ]
            refine wpAnyH_take (i := 1) (oi := { dst := some 22, op := Op.binOp BinOp.geq 3 (Operand.tmp 21) (Operand.const (Value.int IntKind.i64 0)) 3, type := 4, pos := "ref.go:139", after := #[{ on := 0, ground := Ground.data }], guard := none }) (v := ?_) rfl (by kernel_rfl) (by kernel_rfl) (by kernel_rfl) (fun _ _ _ h => h) (Or.inl ⟨by rfl, ?_⟩) hHeld ?_
            rotate_left
            · (intro w hSw; go_simp; try with_reducible rfl)
            try simp only [Act.put, List.setIfInBounds_toArray, List.set_cons_zero, List.set_cons_succ]
            refine wpAnyH_take (i := 2) (oi := { dst := some 23, op := Op.move (Operand.tmp 22), type := 4, pos := "ref.go:139", after := #[{ on := 1, ground := Ground.data }], guard := none }) (v := ?_) rfl (by kernel_rfl) (by kernel_rfl) (by kernel_rfl) (fun _ _ _ h => h) (Or.inl ⟨by rfl, ?_⟩) hHeld ?_
            rotate_left
            · (intro w hSw; go_simp; try with_reducible rfl)
            try simp only [Act.put, List.setIfInBounds_toArray, List.set_cons_zero, List.set_cons_succ]
            refine wpAnyH_take (i := 3) (oi := { dst := some 24, op := Op.move (Operand.tmp 6), type := 3, pos := "ref.go:139", after := #[{ on := 2, ground := Ground.guard }], guard := some (2, true) }) (v := ?_) rfl (by kernel_rfl) (by kernel_rfl) (by kernel_rfl) (fun _ _ _ h => h) (Or.inl ⟨by rfl, ?_⟩) hHeld ?_
            rotate_left
            · (intro w hSw; go_simp; try with_reducible rfl)
            try simp only [Act.put, List.setIfInBounds_toArray, List.set_cons_zero, List.set_cons_succ]
            refine wpAnyH_take (i := 5) (oi := { dst := some 26, op := Op.move (Operand.tmp 0), type := 9, pos := "ref.go:139", after := #[{ on := 2, ground := Ground.guard }], guard := some (2, true) }) (v := ?_) rfl (by kernel_rfl) (by kernel_rfl) (by kernel_rfl) (fun _ _ _ h => h) (Or.inl ⟨by rfl, ?_⟩) hHeld ?_
            rotate_left
            · (intro w hSw; go_simp; try with_reducible rfl)
            try simp only [Act.put, List.setIfInBounds_toArray, List.set_cons_zero, List.set_cons_succ]
            refine wpAnyH_take (i := 6) (oi := { dst := some 27, op := Op.move (Operand.tmp 5), type := 3, pos := "ref.go:139", after := #[{ on := 2, ground := Ground.guard }], guard := some (2, true) }) (v := ?_) rfl (by kernel_rfl) (by kernel_rfl) (by kernel_rfl) (fun _ _ _ h => h) (Or.inl ⟨by rfl, ?_⟩) hHeld ?_
            rotate_left
            · (intro w hSw; go_simp; try with_reducible rfl)
            try simp only [Act.put, List.setIfInBounds_toArray, List.set_cons_zero, List.set_cons_succ]
            refine wpAnyH_take (i := 7) (oi := { dst := some 28, op := Op.slice 9 (Operand.tmp 26) none (some (Operand.tmp 27)) none, type := 9, pos := "ref.go:139", after := #[{ on := 5, ground := Ground.data }, { on := 6, ground := Ground.data }, { on := 2, ground := Ground.guard }], guard := some (2, true) }) (v := ?_) rfl (by kernel_rfl) (by kernel_rfl) (by kernel_rfl) (fun _ _ _ h => h) (Or.inl ⟨by rfl, ?_⟩) hHeld ?_
            rotate_left
            · (intro w hSw; go_simp; try with_reducible rfl)
            try simp only [Act.put, List.setIfInBounds_toArray, List.set_cons_zero, List.set_cons_succ]
            refine wpAnyH_ready (rs := [4]) (by kernel_rfl) (by simp) ?_
            refine AllReadyH.cons (o := { dst := some 25, op := Op.call { callee := Callee.value (Operand.func 55), args := #[Operand.tmp 24], argTypes := #[3] }, type := 9, pos := "ref.go:139", after := #[{ on := 3, ground := Ground.data }, { on := 2, ground := Ground.chain }, { on := 2, ground := Ground.guard }], guard := some (2, true) }) rfl (fun K hK => ?_) AllReadyH.nil
            go_simp
            go_at_call 55; with_reducible refine hut.mono ?_; rintro e w2 ⟨rfl, HB3⟩
            go_wp2_with fail
            have hh := Lib.hid (below_of HBD.out HB3.out)
            refine hK.out _ _ hh (fun hHeld => ?_)
            clear hK K
            try simp only [Act.put, List.setIfInBounds_toArray, List.set_cons_zero, List.set_cons_succ]
            refine wpAnyH_take (i := 8) (oi := { dst := some 29, op := Op.binOp BinOp.eql 9 (Operand.tmp 25) (Operand.tmp 28) 9, type := 4, pos := "ref.go:139", after := #[{ on := 4, ground := Ground.data }, { on := 7, ground := Ground.data }, { on := 2, ground := Ground.guard }], guard := some (2, true) }) (v := ?_) rfl (by kernel_rfl) (by kernel_rfl) (by kernel_rfl) (fun _ _ _ h => h) (Or.inl ⟨by rfl, ?_⟩) hHeld ?_
            rotate_left
            · (intro w hSw; go_simp; try with_reducible rfl)
            try simp only [Act.put, List.setIfInBounds_toArray, List.set_cons_zero, List.set_cons_succ]
            refine wpAnyH_take (i := 9) (oi := { dst := some 30, op := Op.pick (Operand.tmp 23) (Operand.tmp 29) (Operand.const (Value.bool false)), type := 4, pos := "ref.go:139", after := #[{ on := 2, ground := Ground.data }, { on := 8, ground := Ground.data }], guard := none }) (v := ?_) rfl (by kernel_rfl) (by kernel_rfl) (by kernel_rfl) (fun _ _ _ h => h) (Or.inl ⟨by rfl, ?_⟩) hHeld ?_
            rotate_left
            · (intro w hSw; go_simp; try with_reducible rfl)
            try simp only [Act.put, List.setIfInBounds_toArray, List.set_cons_zero, List.set_cons_succ]
            refine wpAnyH_take (i := 10) (oi := { dst := some 31, op := Op.move (Operand.tmp 30), type := 4, pos := "ref.go:139", after := #[{ on := 9, ground := Ground.data }, { on := 4, ground := Ground.chain }], guard := none }) (v := ?_) rfl (by kernel_rfl) (by kernel_rfl) (by kernel_rfl) (fun _ _ _ h => h) (Or.inl ⟨by rfl, ?_⟩) hHeld ?_
            rotate_left
            · (intro w hSw; go_simp; try with_reducible rfl)
            try simp only [Act.put, List.setIfInBounds_toArray, List.set_cons_zero, List.set_cons_succ]
            refine wpAnyH_take (i := 11) (oi := { dst := some 32, op := Op.move (Operand.tmp 6), type := 3, pos := "ref.go:139", after := #[{ on := 10, ground := Ground.guard }], guard := some (10, true) }) (v := undef) rfl (by kernel_rfl) (by kernel_rfl) (by kernel_rfl) (fun _ _ _ h => h) (Or.inr ⟨by rfl, rfl⟩) hHeld ?_
            try simp only [Act.put, List.setIfInBounds_toArray, List.set_cons_zero, List.set_cons_succ]
            refine wpAnyH_take (i := 12) (oi := { dst := some 33, op := Op.binOp BinOp.leq 3 (Operand.tmp 32) (Operand.const (Value.int IntKind.i64 1114111)) 3, type := 4, pos := "ref.go:139", after := #[{ on := 11, ground := Ground.data }, { on := 10, ground := Ground.guard }], guard := some (10, true) }) (v := undef) rfl (by kernel_rfl) (by kernel_rfl) (by kernel_rfl) (fun _ _ _ h => h) (Or.inr ⟨by rfl, rfl⟩) hHeld ?_
            try simp only [Act.put, List.setIfInBounds_toArray, List.set_cons_zero, List.set_cons_succ]
            refine wpAnyH_take (i := 13) (oi := { dst := some 34, op := Op.pick (Operand.tmp 31) (Operand.tmp 33) (Operand.const (Value.bool false)), type := 4, pos := "ref.go:139", after := #[{ on := 10, ground := Ground.data }, { on := 12, ground := Ground.data }], guard := none }) (v := ?_) rfl (by kernel_rfl) (by kernel_rfl) (by kernel_rfl) (fun _ _ _ h => h) (Or.inl ⟨by rfl, ?_⟩) hHeld ?_
            rotate_left
            · (intro w hSw; go_simp; try with_reducible rfl)
            try simp only [Act.put, List.setIfInBounds_toArray, List.set_cons_zero, List.set_cons_succ]
            refine wpAnyH_take (i := 14) (oi := { dst := some 35, op := Op.move (Operand.tmp 34), type := 4, pos := "ref.go:139", after := #[{ on := 13, ground := Ground.data }, { on := 10, ground := Ground.chain }], guard := none }) (v := ?_) rfl (by kernel_rfl) (by kernel_rfl) (by kernel_rfl) (fun _ _ _ h => h) (Or.inl ⟨by rfl, ?_⟩) hHeld ?_
            rotate_left
            · (intro w hSw; go_simp; try with_reducible rfl)
            try simp only [Act.put, List.setIfInBounds_toArray, List.set_cons_zero, List.set_cons_succ]
            refine wpAnyH_take (i := 15) (oi := { dst := some 36, op := Op.move (Operand.tmp 6), type := 3, pos := "ref.go:139", after := #[{ on := 14, ground := Ground.guard }], guard := some (14, true) }) (v := undef) rfl (by kernel_rfl) (by kernel_rfl) (by kernel_rfl) (fun _ _ _ h => h) (Or.inr ⟨by rfl, rfl⟩) hHeld ?_
            try simp only [Act.put, List.setIfInBounds_toArray, List.set_cons_zero, List.set_cons_succ]
            refine wpAnyH_take (i := 16) (oi := { dst := some 37, op := Op.binOp BinOp.lss 3 (Operand.tmp 36) (Operand.const (Value.int IntKind.i64 55296)) 3, type := 4, pos := "ref.go:139", after := #[{ on := 15, ground := Ground.data }, { on := 14, ground := Ground.guard }], guard := some (14, true) }) (v := undef) rfl (by kernel_rfl) (by kernel_rfl) (by kernel_rfl) (fun _ _ _ h => h) (Or.inr ⟨by rfl, rfl⟩) hHeld ?_
            try simp only [Act.put, List.setIfInBounds_toArray, List.set_cons_zero, List.set_cons_succ]
            refine wpAnyH_take (i := 17) (oi := { dst := some 38, op := Op.move (Operand.tmp 37), type := 4, pos := "ref.go:139", after := #[{ on := 16, ground := Ground.data }, { on := 14, ground := Ground.chain }, { on := 14, ground := Ground.guard }], guard := some (14, true) }) (v := undef) rfl (by kernel_rfl) (by kernel_rfl) (by kernel_rfl) (fun _ _ _ h => h) (Or.inr ⟨by rfl, rfl⟩) hHeld ?_
            try simp only [Act.put, List.setIfInBounds_toArray, List.set_cons_zero, List.set_cons_succ]
            refine wpAnyH_take (i := 18) (oi := { dst := some 39, op := Op.move (Operand.tmp 6), type := 3, pos := "ref.go:139", after := #[{ on := 17, ground := Ground.guard }], guard := some (17, false) }) (v := undef) rfl (by kernel_rfl) (by kernel_rfl) (by kernel_rfl) (fun _ _ _ h => h) (Or.inr ⟨by rfl, rfl⟩) hHeld ?_
            try simp only [Act.put, List.setIfInBounds_toArray, List.set_cons_zero, List.set_cons_succ]
            refine wpAnyH_take (i := 19) (oi := { dst := some 40, op := Op.binOp BinOp.gtr 3 (Operand.tmp 39) (Operand.const (Value.int IntKind.i64 57343)) 3, type := 4, pos := "ref.go:139", after := #[{ on := 18, ground := Ground.data }, { on := 17, ground := Ground.guard }], guard := some (17, false) }) (v := undef) rfl (by kernel_rfl) (by kernel_rfl) (by kernel_rfl) (fun _ _ _ h => h) (Or.inr ⟨by rfl, rfl⟩) hHeld ?_
            try simp only [Act.put, List.setIfInBounds_toArray, List.set_cons_zero, List.set_cons_succ]
            refine wpAnyH_take (i := 20) (oi := { dst := some 41, op := Op.pick (Operand.tmp 38) (Operand.const (Value.bool true)) (Operand.tmp 40), type := 4, pos := "ref.go:139", after := #[{ on := 17, ground := Ground.data }, { on := 19, ground := Ground.data }, { on := 14, ground := Ground.guard }], guard := some (14, true) }) (v := undef) rfl (by kernel_rfl) (by kernel_rfl) (by kernel_rfl) (fun _ _ _ h => h) (Or.inr ⟨by rfl, rfl⟩) hHeld ?_
            try simp only [Act.put, List.setIfInBounds_toArray, List.set_cons_zero, List.set_cons_succ]
            refine wpAnyH_take (i := 21) (oi := { dst := some 42, op := Op.pick (Operand.tmp 35) (Operand.tmp 41) (Operand.const (Value.bool false)), type := 4, pos := "ref.go:139", after := #[{ on := 14, ground := Ground.data }, { on := 20, ground := Ground.data }], guard := none }) (v := ?_) rfl (by kernel_rfl) (by kernel_rfl) (by kernel_rfl) (fun _ _ _ h => h) (Or.inl ⟨by rfl, ?_⟩) hHeld ?_
            rotate_left
            · (intro w hSw; go_simp; try with_reducible rfl)
            try simp only [Act.put, List.setIfInBounds_toArray, List.set_cons_zero, List.set_cons_succ]
            refine wpAnyH_done (by kernel_rfl) ?_ _
            refine NoPanic.normal ?_
            clear hud
            simp only [show Value.tuple #[] = undef from rfl]
            go_wp2
            go_roundw
            case rel => exact ⟨k + 1, by omega, by go_num, HF, hh⟩
            case measure => simp [intOf]; omega
      · have z1 : (k : Int) + 1 ≤ 4 := by omega
        have z2 : ¬ ((k : Int) + 1 ≤ (s.size : Int)) := by omega
        have z2n : ¬ (k + 1 ≤ s.size) := hl
        have HF : Hid (dfirst s.data.toList = none) := Lib.hid (dfirst_short HN.out (.inr (by rw [Array.length_toList]; show s.size ≤ k; omega)))
        have hv : v = .tuple #[.int .i64 0, .int .i64 0, .bool false] := by rw [← HV.out]; unfold firstOut; rw [HF.out]
        subst hv
        clear HV
        go_wp2
        go_ret3
        exact ⟨rfl, HB⟩
    · have z1 : ¬ ((k : Int) + 1 ≤ 4) := by omega
      have z1n : ¬ (k + 1 ≤ 4) := by omega
      have HF : Hid (dfirst s.data.toList = none) := Lib.hid (dfirst_short HN.out (.inl (by omega)))
      have hv : v = .tuple #[.int .i64 0, .int .i64 0, .bool false] := by rw [← HV.out]; unfold firstOut; rw [HF.out]
      subst hv
      clear HV
      go_wp2
      go_ret3
      exact ⟨rfl, HB⟩
end Go.Proofs.YtlmnhdpahmaccaaDoor
