/- octal.PutNumber, Number. -/
import Derived.Test.YtlmnhdpahmaccaaDoorVA
import Derived.Test.YtlmnhdpahmaccaaDoorNP
namespace Go.Proofs.YtlmnhdpahmaccaaDoor
open Go.RowKit QP

theorem below_grew (w : World) (q : Nat) (os : Array Obj) : Below w.heap.size w (Sort.grow (w.drewN q) os) :=
  ⟨rfl, rfl, rfl, by simp [Sort.grow], fun k hk => by
    show ((w.drewN q).heap ++ os)[k]? = _
    rw [Array.getElem?_append_left (by exact hk)]
    rfl⟩

set_option maxHeartbeats 2000000 in
set_option maxRecDepth 100000 in
theorem putNumber_c (n : Nat) (hn : n ≤ 9223372036854775807) (w : World) (h : VarsAt w) : Calls Tryd.prog 43 #[.int .i64 n] w fun e w' => e = .returned (.string ⟨(putn n).toArray⟩) ∧ Hid (Below w.heap.size w w') := by
  have q1 : decide ((n : Int) < 0) = false := by simp
  by_cases ht : n ≤ top
  · have q2 : decide ((n : Int) > 4611686018427387904) = false := by unfold top at ht; simp; omega
    have hv : putn n = Lib.itoa (n : Int) := by unfold putn; rw [if_pos ht, Lib.itoa_nonneg]
    have hi := Tryd.strconv_Itoa (n : Int) (by omega) (by omega) w h.pw
    rw [← hv] at hi
    obtain ⟨t, he⟩ : ∃ t, (⟨(putn n).toArray⟩ : ByteArray) = t := ⟨_, rfl⟩
    rw [he] at hi ⊢
    clear h ht hv he
    go_enter Tryd.func43, Tryd.ntmps43
    go_wp2_with fail
    refine hi.mono ?_
    rintro e w1 ⟨rfl, k, os, rfl⟩
    go_wp2
    go_ret
    exact ⟨rfl, Lib.hid (below_grew _ _ _)⟩
  · have q2 : decide ((n : Int) > 4611686018427387904) = true := by unfold top at ht; simp; omega
    have hv : (⟨(putn n).toArray⟩ : ByteArray) = ⟨#[]⟩ := by unfold putn; rw [if_neg ht]
    rw [hv]
    clear h ht hv
    go_enter Tryd.func43, Tryd.ntmps43
    go_wp2
    go_ret
    exact ⟨rfl, Lib.hid (Below.refl _ _)⟩

theorem bytes_eq {s t : ByteArray} (h : s.data.toList = t.data.toList) : s = t := ByteArray.ext (Array.toList_inj.1 h)
theorem pnum_ok {s : ByteArray} {v : Int} (h : Lib.atoiAll s.data.toList = .ok v) (hv : 0 ≤ v) {t : ByteArray} (ht : (⟨(putn v.toNat).toArray⟩ : ByteArray) = t) : pnum s.data.toList = if sameS s t then some v.toNat else none := by
  unfold pnum
  rw [h]
  simp only []
  subst ht
  by_cases he : s.data.toList = putn v.toNat
  · have : s = ⟨(putn v.toNat).toArray⟩ := bytes_eq (by rw [he])
    rw [if_neg (by rw [not_or]; exact ⟨by omega, fun e => e he⟩), if_pos ((sameS_iff _ _).2 this)]
  · rw [if_pos (.inr he), if_neg]
    intro e
    exact he (by rw [(sameS_iff _ _).1 e])

set_option maxHeartbeats 4000000 in
set_option maxRecDepth 100000 in
theorem number_c (s : ByteArray) (hs : s.size ≤ 281474976710656) (w : World) (h : VarsAt w) : Calls Tryd.prog 33 #[.string s] w fun e w' => e = .returned (.tuple #[.int .i64 ((pnum s.data.toList).getD 0 : Nat), .bool (pnum s.data.toList).isSome]) ∧ Hid (Below w.heap.size w w') := by
  rcases hA : Lib.atoiAll s.data.toList with v | _ | _
  · obtain ⟨b0, b1⟩ := Lib.atoiAll_bounds hA
    have hc := Tryd.strconv_Atoi_ok s (by omega) v hA w
    have HV := Lib.hid h
    by_cases h0 : v < 0
    · have q0 : decide (v < 0) = true := by simpa using h0
      have hp : pnum s.data.toList = none := by unfold pnum; rw [hA]; simp only []; rw [if_pos (.inl h0)]
      rw [hp]
      clear hA h b0 b1 h0 hp
      go_enter Tryd.func33, Tryd.ntmps33
      go_wp2_with fail
      refine hc.mono ?_
      rintro e w1 ⟨rfl, hw⟩
      have HB : Hid (Below w.heap.size w w1) := Lib.hid (by rcases hw with rfl | ⟨t, rfl⟩; exact Below.refl _ _; exact Lib.bytesWorld_below _ _ _)
      clear hw
      go_wp2
      go_ret2
      exact ⟨rfl, HB⟩
    · have q0 : decide (v < 0) = false := by simpa using h0
      obtain ⟨n, hn⟩ : ∃ n : Nat, v = n := ⟨v.toNat, by omega⟩
      subst hn
      obtain ⟨t, ht⟩ : ∃ t, (⟨(putn (n : Int).toNat).toArray⟩ : ByteArray) = t := ⟨_, rfl⟩
      have hp := pnum_ok hA (by omega) ht
      have hput := fun w' (hb : Below w.heap.size w w') => putNumber_c n (by omega) w' (HV.out.below hb)
      rw [Int.toNat_natCast] at ht hp
      rw [ht] at hput
      obtain ⟨pn, hpn⟩ : ∃ pn, pnum s.data.toList = pn := ⟨_, rfl⟩
      have HP := Lib.hid (hpn.symm.trans hp)
      rw [hpn]
      clear hA h b0 b1 h0 hp ht hpn
      go_enter Tryd.func33, Tryd.ntmps33
      go_wp2_with fail
      refine hc.mono ?_
      rintro e w1 ⟨rfl, hw⟩
      have HB : Hid (Below w.heap.size w w1) := Lib.hid (by rcases hw with rfl | ⟨t, rfl⟩; exact Below.refl _ _; exact Lib.bytesWorld_below _ _ _)
      clear hw
      go_wp2_with fail
      refine (hput _ HB.out).mono ?_
      rintro e w2 ⟨rfl, HB2⟩
      have HB12 := Lib.hid (below_of HB.out HB2.out)
      cases he : sameS s t with
      | true =>
        have h2 : (s.toList == t.toList) = true := (sameS_beq _ _).trans he
        have h3 : (s.toList != t.toList) = false := by rw [bne, h2]; rfl
        have hpe : pn = some n := by rw [HP.out, if_pos he]
        subst hpe
        clear HP
        clear he
        go_wp2
        go_ret2
        exact ⟨rfl, HB12⟩
      | false =>
        have h2 : (s.toList == t.toList) = false := (sameS_beq _ _).trans he
        have h3 : (s.toList != t.toList) = true := by rw [bne, h2]; rfl
        have hpe : pn = none := by rw [HP.out, if_neg (by rw [he]; decide)]
        subst hpe
        clear HP
        clear he
        go_wp2
        go_ret2
        exact ⟨rfl, HB12⟩
  · obtain ⟨tp, p, hes⟩ := h.es
    have hc : Calls Tryd.prog 42 #[.string s] w fun e w' => ∃ N, e = .returned (.tuple #[.int .i64 0, .iface 118 (.pointer (some ⟨N, 0, none⟩))]) ∧ w.heap.size ≤ N ∧ w'.heap[N]? = some (.cells #[.string ⟨#[65, 116, 111, 105]⟩, .string s, .iface tp p] 139 (0, 0)) ∧ Below w.heap.size w w' := Any.strconv_Atoi_syntax_var Tryd.laysC172 s hs hA tp p w hes
    have hp : pnum s.data.toList = none := by unfold pnum; rw [hA]
    rw [hp]
    clear hA h hes hp
    go_enter Tryd.func33, Tryd.ntmps33
    go_wp2_with fail
    refine hc.mono ?_
    rintro e w1 ⟨N, rfl, -, -, hb⟩
    go_wp2
    go_ret2
    exact ⟨rfl, Lib.hid hb⟩
  · obtain ⟨tp, p, hes⟩ := h.er
    have hc := Tryd.strconv_Atoi_range_var s hs hA tp p w hes
    have hp : pnum s.data.toList = none := by unfold pnum; rw [hA]
    rw [hp]
    obtain ⟨a, ha⟩ : ∃ a, Lib.atoiSat s.data.toList = a := ⟨_, rfl⟩
    rw [ha] at hc
    clear hA h hes hp ha
    go_enter Tryd.func33, Tryd.ntmps33
    go_wp2_with fail
    refine hc.mono ?_
    rintro e w1 ⟨N, rfl, -, -, hb⟩
    go_wp2
    go_ret2
    exact ⟨rfl, Lib.hid hb⟩
end Go.Proofs.YtlmnhdpahmaccaaDoor
