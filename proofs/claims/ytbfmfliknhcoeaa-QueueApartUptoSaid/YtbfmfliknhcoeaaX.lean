/- The laws' works and made. -/
import Derived.Test.YtbfmfliknhcoeaaU
namespace Go.Proofs.Ytbfmfliknhcoeaa
open Go.RowKit QP

/-- a queue of the program whose blocks are all new since the world w0 -/
structure Own (w0 w : World) (b : Nat) (g : Option Nat) (s : St) : Prop where
  q : QSt w b g s
  b0 : w0.heap.size ≤ b
  g0 : ∀ k, g = some k → w0.heap.size ≤ k
  bel : Below w0.heap.size w0 w

theorem Own.next {w0 w w1 : World} {b : Nat} {g g' : Option Nat} {s s' : St} (h : Own w0 w b g s) (hq : QSt w1 b g' s') (hn : NewG w g g') (hm : Mod (foot b g) w w1) : Own w0 w1 b g' s' := by
  have h0 := h.b0
  refine ⟨hq, h0, fun k hk => ?_, below_mod h.bel hm h.bel.size fun i hi e => ?_⟩
  · rcases hn with e | ⟨j, e, hj⟩
    · exact h.g0 k (e.symm.trans hk)
    · rw [e] at hk; injection hk with hk; have := h.bel.size; omega
  · rcases e with e | e
    · omega
    · have := h.g0 i e; omega
theorem Own.below {w0 w w1 : World} {b : Nat} {g : Option Nat} {s : St} (h : Own w0 w b g s) (hb : Below w.heap.size w w1) : Own w0 w1 b g s :=
  ⟨h.q.below hb, h.b0, h.g0, h.bel.trans (hb.mono h.bel.size)⟩
theorem Own.alloc {w0 w : World} {b : Nat} {g : Option Nat} {s : St} (h : Own w0 w b g s) (o : Obj) : Own w0 (w.alloc o) b g s := h.below ((Below.refl _ _).alloc (Nat.le_refl _) _)
theorem Own.drewN {w0 w : World} {b : Nat} {g : Option Nat} {s : St} (h : Own w0 w b g s) (n : Nat) : Own w0 (w.drewN n) b g s := h.below (below_drewN (Below.refl _ _) n)

theorem works1 : putCode ⟨10, [], false⟩ [(⟨#[97, 98, 99]⟩ : ByteArray)] = 0 ∧ putSt ⟨10, [], false⟩ [(⟨#[97, 98, 99]⟩ : ByteArray)] = ⟨10, tag 0 0 [97, 98, 99, 10], false⟩ := ⟨by kernel_rfl, by kernel_rfl⟩
theorem works2 : outCode ⟨10, tag 0 0 [97, 98, 99, 10], false⟩ 1 5 [(⟨#[120, 121, 122]⟩ : ByteArray)] = 0 ∧ outSt ⟨10, tag 0 0 [97, 98, 99, 10], false⟩ 1 5 [(⟨#[120, 121, 122]⟩ : ByteArray)] = ⟨10, tag 0 0 [97, 98, 99, 10] ++ tag 1 5 [120, 121, 122, 10], false⟩ := ⟨by kernel_rfl, by kernel_rfl⟩
theorem works3 : outCode ⟨10, tag 0 0 [97, 98, 99, 10] ++ tag 1 5 [120, 121, 122, 10], false⟩ 1 5 [(⟨#[120, 121, 122]⟩ : ByteArray)] = 3 ∧ outSt ⟨10, tag 0 0 [97, 98, 99, 10] ++ tag 1 5 [120, 121, 122, 10], false⟩ 1 5 [(⟨#[120, 121, 122]⟩ : ByteArray)] = ⟨10, tag 0 0 [97, 98, 99, 10] ++ tag 1 5 [120, 121, 122, 10], false⟩ := ⟨by kernel_rfl, by kernel_rfl⟩
theorem works4 : aOldest (tag 0 0 [97, 98, 99, 10] ++ tag 1 5 [120, 121, 122, 10]) 1 = some 5 := by kernel_rfl
theorem works5 : drained ⟨10, tag 0 0 [97, 98, 99, 10] ++ tag 1 5 [120, 121, 122, 10], false⟩ 5 = [97, 98, 99, 10, 120] := by kernel_rfl

section
variable {w0 w : World} {b : Nat} {g : Option Nat}
theorem wput (h : Hid (Own w0 w b g ⟨10, [], false⟩)) : Calls Try.prog 26 #[.pointer (some ⟨b, 0, none⟩), .string ⟨#[97, 98, 99]⟩] w fun e w' => e = .returned (.int .i64 0) ∧ ∃ g', Hid (Own w0 w' b g' ⟨10, tag 0 0 [97, 98, 99, 10], false⟩) := by
  have := put_c b g ⟨10, [], false⟩ (⟨#[97, 98, 99]⟩ : ByteArray) w h.out.q ⟨by decide, by decide, by simp⟩ (by decide)
  rw [works1.1, works1.2] at this
  refine this.mono ?_
  rintro e w' ⟨he, g', q, n, m⟩
  exact ⟨he, g', Lib.hid (h.out.next q n m)⟩
theorem wout (h : Hid (Own w0 w b g ⟨10, tag 0 0 [97, 98, 99, 10], false⟩)) : Calls Try.prog 30 #[.pointer (some ⟨b, 0, none⟩), .int .i64 1, .int .i64 5, .slice (some ⟨w.heap.size, 0, none⟩) 1 1] (w.alloc (.cells #[.string ⟨#[120, 121, 122]⟩] 9)) fun e w' =>
    e = .returned (.int .i64 0) ∧ ∃ g', Hid (Own w0 w' b g' ⟨10, tag 0 0 [97, 98, 99, 10] ++ tag 1 5 [120, 121, 122, 10], false⟩) := by
  have := out_c b g ⟨10, tag 0 0 [97, 98, 99, 10], false⟩ 1 5 [(⟨#[120, 121, 122]⟩ : ByteArray)] (some ⟨w.heap.size, 0, none⟩) 1 (w.alloc (.cells #[.string ⟨#[120, 121, 122]⟩] 9)) (h.out.alloc _).q ⟨by decide, by decide, by decide⟩ (Rd.box _ _ 1 1 _ rfl rfl) (by decide) (by decide)
  rw [works2.1, works2.2] at this
  refine this.mono ?_
  rintro e w' ⟨he, g', q, n, m⟩
  exact ⟨he, g', Lib.hid ((h.out.alloc _).next q n m)⟩
theorem wout2 (h : Hid (Own w0 w b g ⟨10, tag 0 0 [97, 98, 99, 10] ++ tag 1 5 [120, 121, 122, 10], false⟩)) : Calls Try.prog 30 #[.pointer (some ⟨b, 0, none⟩), .int .i64 1, .int .i64 5, .slice (some ⟨w.heap.size, 0, none⟩) 1 1] (w.alloc (.cells #[.string ⟨#[120, 121, 122]⟩] 9)) fun e w' =>
    e = .returned (.int .i64 3) ∧ ∃ g', Hid (Own w0 w' b g' ⟨10, tag 0 0 [97, 98, 99, 10] ++ tag 1 5 [120, 121, 122, 10], false⟩) := by
  have := out_c b g ⟨10, tag 0 0 [97, 98, 99, 10] ++ tag 1 5 [120, 121, 122, 10], false⟩ 1 5 [(⟨#[120, 121, 122]⟩ : ByteArray)] (some ⟨w.heap.size, 0, none⟩) 1 (w.alloc (.cells #[.string ⟨#[120, 121, 122]⟩] 9)) (h.out.alloc _).q ⟨by decide, by decide, by decide⟩ (Rd.box _ _ 1 1 _ rfl rfl) (by decide) (by decide)
  rw [works3.1, works3.2] at this
  refine this.mono ?_
  rintro e w' ⟨he, g', q, n, m⟩
  exact ⟨he, g', Lib.hid ((h.out.alloc _).next q n m)⟩
theorem woldest (h : Hid (Own w0 w b g ⟨10, tag 0 0 [97, 98, 99, 10] ++ tag 1 5 [120, 121, 122, 10], false⟩)) : Calls Try.prog 41 #[.pointer (some ⟨b, 0, none⟩), .int .i64 1] w fun e w' => e = .returned (.tuple #[.int .i64 5, .bool true]) ∧ Hid (Own w0 w' b g ⟨10, tag 0 0 [97, 98, 99, 10] ++ tag 1 5 [120, 121, 122, 10], false⟩) := by
  have := oldest_c b g ⟨10, tag 0 0 [97, 98, 99, 10] ++ tag 1 5 [120, 121, 122, 10], false⟩ 1 w h.out.q (by decide)
  dsimp only at this
  rw [works4] at this
  refine this.mono ?_
  rintro e w' ⟨he, hb⟩
  exact ⟨he, Lib.hid (h.out.below hb)⟩
theorem wsize (h : Hid (Own w0 w b g ⟨10, tag 0 0 [97, 98, 99, 10] ++ tag 1 5 [120, 121, 122, 10], false⟩)) : Calls Try.prog 17 #[.pointer (some ⟨b, 0, none⟩)] w fun e w' => e = .returned (.int .i64 8) ∧ w = w' := size_c b g _ w h.out.q
theorem wdrain (h : Hid (Own w0 w b g ⟨10, tag 0 0 [97, 98, 99, 10] ++ tag 1 5 [120, 121, 122, 10], false⟩)) : Calls Try.prog 15 #[.pointer (some ⟨b, 0, none⟩), .int .i64 5] w fun e w' => e = .returned (.string ⟨#[97, 98, 99, 10, 120]⟩) ∧ Hid (Below w0.heap.size w0 w') := by
  refine (drain_c b g _ 5 w h.out.q (by decide) (by omega) (by omega)).mono ?_
  rintro e w' ⟨t, rfl, ht, q, m⟩
  rw [works5] at ht
  have : t = ⟨#[97, 98, 99, 10, 120]⟩ := ByteArray.ext (Array.toList_inj.1 ht)
  exact ⟨by rw [this], Lib.hid (h.out.next q (.inl rfl) m).bel⟩
end

set_option maxHeartbeats 4000000 in
set_option maxRecDepth 100000 in
theorem works_c (w : World) : Calls Try.prog 38 #[] w fun e w' => e = .returned (.bool true) ∧ Below w.heap.size w w' := by
  go_enter Try.func38, Try.ntmps38
  go_wp2_with fail
  refine (new_c 10 w (by omega) (by omega)).mono ?_
  rintro e w1 ⟨rfl, q1, b1⟩
  have HO : Hid (Own w w1 w.heap.size none ⟨10, [], false⟩) := Lib.hid ⟨q1, Nat.le_refl _, by simp, b1⟩
  clear q1 b1
  go_wp2_with fail
  refine (wput HO).mono ?_
  rintro e w2 ⟨rfl, g2, HO2⟩
  clear HO
  go_wp2_with fail
  refine (wout HO2).mono ?_
  rintro e w3 ⟨rfl, g3, HO3⟩
  clear HO2
  go_wp2_with fail
  refine (wout2 HO3).mono ?_
  rintro e w4 ⟨rfl, g4, HO4⟩
  clear HO3
  go_wp2_with fail
  refine (woldest HO4).mono ?_
  rintro e w5 ⟨rfl, HO5⟩
  clear HO4
  go_wp2_with fail
  refine (wsize HO5).mono ?_
  rintro e w6 ⟨rfl, rfl⟩
  go_wp2_with fail
  refine (wdrain HO5).mono ?_
  rintro e w6 ⟨rfl, HB⟩
  go_wp2
  go_ret
  exact ⟨rfl, HB.out⟩

/-- a queue, and the document's; all new since w0 -/
structure Both (w0 w : World) (b : Nat) (g r : Option Nat) (v : Value) (s : St) : Prop where
  own : Own w0 w b g s
  rr : RSt w r v s
  off : ∀ k, r = some k → k ≠ b ∧ g ≠ some k
  r0 : ∀ k, r = some k → w0.heap.size ≤ k
theorem Both.below {w0 w w1 : World} {b : Nat} {g r : Option Nat} {v : Value} {s : St} (h : Both w0 w b g r v s) (hb : Below w.heap.size w w1) : Both w0 w1 b g r v s :=
  ⟨h.own.below hb, h.rr.below hb, h.off, h.r0⟩
end Go.Proofs.Ytbfmfliknhcoeaa
