/- The laws' helpers: lists, sameInts, as. -/
import Derived.Test.YtbfmfliknhcoeaaO
import Derived.Test.YtbfmfliknhcoeaaR
namespace Go.Proofs.Ytbfmfliknhcoeaa
open Go.RowKit QP

theorem info9 : (Try.prog.info? 9).map (fun i => (i.zero, i.size, i.bytes)) = some (some (.string ⟨#[]⟩), 1, 16) := by kernel_rfl

theorem lists_c (ls : List ByteArray) (ao : Option Addr) (cap : Nat) (w : World) (hr : Rd w 1 (.slice ao ls.length cap) ls.length (strs ls)) (hn : ls.length ≤ 4000000) :
    Calls Try.prog 25 #[.slice ao ls.length cap] w fun e w' => ∃ bo bcap, e = .returned (.slice bo ls.length bcap) ∧ Row w' 9 1 (.slice bo ls.length bcap) ls.length (strs ls) ∧ (∀ k, (Value.slice bo ls.length bcap).ownBlock = some k → w.heap.size ≤ k) ∧ Below w.heap.size w w' := by
  obtain ⟨i0, hi, hz0, hz1, hz2⟩ := info_parts info9
  have HR := Lib.hid hr
  clear hr
  go_enter Try.func25, Try.ntmps25
  go_wp2_with (at_builtin; refine wpList_append_row (v := .slice none 0 0) rfl (.const (.slice none 0 0)) (.tmp 3) 23 rfl 9 i0 (.string ⟨#[]⟩) 1 16 Try.underlying23 hi hz0 hz1 hz2 rfl (by decide) rfl (Row.nil _ _ _) rfl HR.out (by simp [strs, Value.oneCell']) (by simp [maxLen]; omega) (by omega) ?_; intro v' w1 hrow hmod hown; have HR1 := Lib.hid hrow; have HM1 := Lib.hid hmod; have HO1 := Lib.hid hown; clear hrow hmod hown)
  obtain ⟨bo, bcap, hv, -⟩ := id HR1.out
  subst hv
  rw [Nat.zero_add]
  go_ret
  have h1 := HR1.out
  rw [Nat.zero_add, List.nil_append] at h1
  refine ⟨bo, bcap, rfl, h1, fun k hk => ?_, below_mod (Below.refl _ _) HM1.out (Nat.le_refl _) (fun i _ e => by simp [Value.ownBlock] at e)⟩
  rcases HO1.out with e | e
  · rw [Nat.zero_add] at e; rw [hk] at e; simp [Value.ownBlock] at e
  · rw [Nat.zero_add] at e; rw [hk] at e; injection e with e; omega

set_option maxHeartbeats 1000000 in
theorem sameInts_c (xs : List Int) (ao bo : Option Addr) (acap bcap : Nat) (w : World) (h1 : Rd w 1 (.slice ao xs.length acap) xs.length (ints xs)) (h2 : Rd w 1 (.slice bo xs.length bcap) xs.length (ints xs)) (hn : xs.length ≤ 4000000) :
    Calls Try.prog 24 #[.slice ao xs.length acap, .slice bo xs.length bcap] w fun e w' => e = .returned (.bool true) ∧ Below w.heap.size w w' := by
  have H1 := Lib.hid h1
  have H2 := Lib.hid h2
  clear h1 h2
  go_enter Try.func24, Try.ntmps24
  go_wp2
  go_loopw [5] (fun i wr => ∃ k : Nat, k ≤ xs.length ∧ i = .int .i64 k ∧ Hid (Below w.heap.size w wr)) (fun i _ => xs.length - (intOf i).toNat)
  case atStart => exact ⟨0, Nat.zero_le _, rfl, Lib.hid (Below.refl _ _)⟩
  case round =>
    obtain ⟨k, hk, rfl, HW⟩ := hrel
    by_cases hlt : k < xs.length
    · obtain ⟨g, off, cap', hv, hnc, hc⟩ := (H1.out.kept (by decide) HW.out).at_ (by omega)
      cases hv
      obtain ⟨g2, off2, cap2, hv, hnc2, hc2⟩ := (H2.out.kept (by decide) HW.out).at_ (by omega)
      cases hv
      have d1 := hc k _ (ints_get xs k hlt)
      have d2 := hc2 k _ (ints_get xs k hlt)
      have hlt' : (k : Int) < (xs.length : Int) := by omega
      have hk0 : (0 : Int) ≤ (k : Int) := by omega
      clear hc hc2
      go_wp2
      go_quiet (fail)
      go_wp2
      go_roundw
      case rel => exact ⟨k + 1, by omega, by go_num, Lib.hid (below_drewN HW.out _)⟩
      case measure => simp [intOf]; omega
    · go_wp2
      go_ret
      exact ⟨rfl, HW.out⟩

/-- one box for the document's queue, and all that was -/
structure One (w : World) (v0 v1 v2 : Value) (w1 : World) : Prop where
  bel : Below w.heap.size w w1
  box : Blk w1 w.heap.size 29 #[v0, v1, v2]
theorem One.start (w : World) (v0 v1 v2 : Value) : One w v0 v1 v2 (w.alloc (.cells #[v0, v1, v2] 29)) := ⟨(Below.refl _ _).alloc (Nat.le_refl _) _, Blk.new _ _ _⟩
theorem One.below {w w1 w2 : World} {v0 v1 v2 : Value} (h : One w v0 v1 v2 w1) (hb : Below w1.heap.size w1 w2) : One w v0 v1 v2 w2 :=
  ⟨h.bel.trans (hb.mono h.bel.size), (hb.block _ h.box.lt).trans h.box⟩
theorem One.drew {w w1 : World} {v0 v1 v2 : Value} (h : One w v0 v1 v2 w1) : One w v0 v1 v2 w1.drew := ⟨h.bel.drew, h.box⟩
theorem One.cells {w w1 : World} {v0 v1 v2 : Value} (h : One w v0 v1 v2 w1) : w1.cell? ⟨w.heap.size, 0, none⟩ = some v0 ∧ w1.cell? ⟨w.heap.size, 1, none⟩ = some v1 ∧ w1.cell? ⟨w.heap.size, 2, none⟩ = some v2 ∧ Hid (One w v0 v1 v2 w1) :=
  ⟨h.box.cell 0, h.box.cell 1, h.box.cell 2, Lib.hid h⟩
theorem one_keep {w w1 w2 : World} {v0 v1 v2 : Value} (h : Hid (One w v0 v1 v2 w1)) (hb : Hid (Below w1.heap.size w1 w2)) :
    w2.cell? ⟨w.heap.size, 0, none⟩ = some v0 ∧ w2.cell? ⟨w.heap.size, 1, none⟩ = some v1 ∧ w2.cell? ⟨w.heap.size, 2, none⟩ = some v2 ∧ Hid (One w v0 v1 v2 w2) := (h.out.below hb.out).cells

section
variable {w w1 : World} {v0 v1 v2 v : Value} {b : Nat} {g r : Option Nat} {s : St}
theorem one_size (h : Hid (One w v0 v1 v2 w1)) (hq : Hid (QSt w b g s)) : Calls Try.prog 17 #[.pointer (some ⟨b, 0, none⟩)] w1 fun e w' => e = .returned (.int .i64 s.fl.length) ∧ Hid (Below w1.heap.size w1 w') :=
  (size_c b g s w1 (hq.out.below h.out.bel)).mono fun _ _ h => ⟨h.1, Lib.hid (h.2 ▸ Below.refl _ _)⟩
theorem one_limit (h : Hid (One w v0 v1 v2 w1)) (hq : Hid (QSt w b g s)) : Calls Try.prog 40 #[.pointer (some ⟨b, 0, none⟩)] w1 fun e w' => e = .returned (.int .i64 s.limit) ∧ Hid (Below w1.heap.size w1 w') :=
  (limit_c b g s w1 (hq.out.below h.out.bel)).mono fun _ _ h => ⟨h.1, Lib.hid (h.2 ▸ Below.refl _ _)⟩
theorem one_closed (h : Hid (One w v0 v1 v2 w1)) (hq : Hid (QSt w b g s)) : Calls Try.prog 20 #[.pointer (some ⟨b, 0, none⟩)] w1 fun e w' => e = .returned (.bool s.closed) ∧ Hid (Below w1.heap.size w1 w') :=
  (closed_c b g s w1 (hq.out.below h.out.bel)).mono fun _ _ h => ⟨h.1, Lib.hid (h.2 ▸ Below.refl _ _)⟩
theorem one_rsize (h : Hid (One w v0 v1 v2 w1)) (hq : Hid (RSt w r v s)) (hs : s.fl.length ≤ 1000000) : Calls Try.prog 39 #[v] w1 fun e w' => e = .returned (.int .i64 s.fl.length) ∧ Hid (Below w1.heap.size w1 w') :=
  (rsize_c r v s w1 (hq.out.below h.out.bel) hs).mono fun _ _ h => ⟨h.1, Lib.hid h.2⟩

/-- a list of panes, told in a world -/
structure Told (s : St) (v : Value) (n : Nat) (w1 : World) : Prop where
  ok : ∃ xs : List Int, IsPanes s.fl xs ∧ n = xs.length ∧ Rd w1 1 v n (ints xs)

theorem QP.IsPanes.len {fl : Fl} {xs : List Int} (h : IsPanes fl xs) : xs.length ≤ fl.length := by
  have := nodup_len (pl := fl.map (·.1)) h.1 fun x hx => by
    obtain ⟨t, ht, rfl⟩ := ((h.2 x).1 hx).2
    exact List.mem_map_of_mem ht
  rwa [List.length_map] at this

theorem Told.same {s : St} {ao bo : Option Addr} {n m cap bcap : Nat} {w1 : World} (h : Told s (.slice ao n cap) n w1) (k : Told s (.slice bo m bcap) m w1) (hs : s.fl.length ≤ 1000000) :
    Calls Try.prog 24 #[.slice ao n cap, .slice bo m bcap] w1 fun e w' => e = .returned (.bool true) ∧ Hid (Below w1.heap.size w1 w') := by
  obtain ⟨xs, h1, rfl, h3⟩ := h
  obtain ⟨ys, k1, rfl, k3⟩ := k
  obtain rfl := h1.unique k1
  exact (sameInts_c xs ao bo cap bcap w1 h3 k3 (by have := h1.len; omega)).mono fun _ _ h => ⟨h.1, Lib.hid h.2⟩
theorem Told.kept {s : St} {v : Value} {n : Nat} {w1 w2 : World} (h : Told s v n w1) (hb : Below w1.heap.size w1 w2) : Told s v n w2 := by
  obtain ⟨xs, h1, h2, h3⟩ := h
  exact ⟨xs, h1, h2, h3.kept (by decide) hb⟩
theorem told_left {s : St} {ao bo : Option Addr} {n m cap bcap : Nat} {w1 w2 : World} (h : Hid (Told s (.slice ao n cap) n w1)) (k : Hid (Told s (.slice bo m bcap) m w2)) (hb : Hid (Below w1.heap.size w1 w2)) (hs : s.fl.length ≤ 1000000) :
    Calls Try.prog 24 #[.slice ao n cap, .slice bo m bcap] w2 fun e w' => e = .returned (.bool true) ∧ Hid (Below w2.heap.size w2 w') := (h.out.kept hb.out).same k.out hs
theorem told_right {s : St} {ao bo : Option Addr} {n m cap bcap : Nat} {w1 w2 : World} (h : Hid (Told s (.slice ao n cap) n w2)) (k : Hid (Told s (.slice bo m bcap) m w1)) (hb : Hid (Below w1.heap.size w1 w2)) (hs : s.fl.length ≤ 1000000) :
    Calls Try.prog 24 #[.slice ao n cap, .slice bo m bcap] w2 fun e w' => e = .returned (.bool true) ∧ Hid (Below w2.heap.size w2 w') := h.out.same (k.out.kept hb.out) hs

theorem one_panes (h : Hid (One w v0 v1 v2 w1)) (hq : Hid (QSt w b g s)) (hs : s.fl.length ≤ 900000) : Calls Try.prog 22 #[.pointer (some ⟨b, 0, none⟩)] w1 fun e w' => ∃ ao n cap, e = .returned (.slice ao n cap) ∧ Hid (Below w1.heap.size w1 w') ∧ Hid (Told s (.slice ao n cap) n w') := by
  refine (panes_c b g s w1 (hq.out.below h.out.bel) (by omega)).mono ?_
  rintro e w' ⟨v, xs, rfl, h1, h2, h3, h4, h5⟩
  obtain ⟨ao, cap, rfl, _⟩ := id h2
  exact ⟨ao, _, cap, rfl, Lib.hid h5, Lib.hid ⟨xs, h1, rfl, h2.rd⟩⟩
theorem one_rpanes (h : Hid (One w v0 v1 v2 w1)) (hq : Hid (RSt w r v s)) (hs : s.fl.length ≤ 900000) : Calls Try.prog 23 #[v] w1 fun e w' => ∃ ao n cap, e = .returned (.slice ao n cap) ∧ Hid (Below w1.heap.size w1 w') ∧ Hid (Told s (.slice ao n cap) n w') := by
  refine (rpanes_c r v s w1 (hq.out.below h.out.bel) (by omega)).mono ?_
  rintro e w' ⟨v, xs, rfl, h1, h2, h3, h5⟩
  obtain ⟨ao, cap, rfl, _⟩ := id h2
  exact ⟨ao, _, cap, rfl, Lib.hid h5, Lib.hid ⟨xs, h1, rfl, h2.rd⟩⟩
end

theorem one_oldest {w w1 : World} {v0 v1 v2 : Value} {b : Nat} {g : Option Nat} {s : St} (x : Int) (h : Hid (One w v0 v1 v2 w1)) (hq : Hid (QSt w b g s)) (hs : s.fl.length ≤ 1000000) :
    Calls Try.prog 41 #[.pointer (some ⟨b, 0, none⟩), .int .i64 x] w1 fun e w' => e = .returned (.tuple #[.int .i64 ((aOldest s.fl x).getD 0), .bool (aOldest s.fl x).isSome]) ∧ Hid (Below w1.heap.size w1 w') :=
  (oldest_c b g s x w1 (hq.out.below h.out.bel) hs).mono fun _ _ h => ⟨h.1, Lib.hid h.2⟩
theorem one_roldest {w w1 : World} {v0 v1 v2 v : Value} {r : Option Nat} {s : St} (x : Int) (h : Hid (One w v0 v1 v2 w1)) (hq : Hid (RSt w r v s)) (hs : s.fl.length ≤ 1000000) :
    Calls Try.prog 42 #[v, .int .i64 x] w1 fun e w' => e = .returned (.tuple #[.int .i64 ((aOldest s.fl x).getD 0), .bool (aOldest s.fl x).isSome]) ∧ Hid (Below w1.heap.size w1 w') :=
  (roldest_c r v s x w1 (hq.out.below h.out.bel) hs).mono fun _ _ h => ⟨h.1, Lib.hid h.2⟩

set_option maxHeartbeats 4000000 in
set_option maxRecDepth 100000 in
/-- the queue tells of itself what the document says -/
theorem as_c (b : Nat) (g r : Option Nat) (v : Value) (s : St) (pane : Int) (w : World) (hq : QSt w b g s) (hr : RSt w r v s) (hs : s.fl.length ≤ 900000) :
    Calls Try.prog 21 #[.pointer (some ⟨b, 0, none⟩), v, .int .i64 pane] w fun e w' => e = .returned (.bool true) ∧ Below w.heap.size w w' := by
  obtain ⟨sv, ps, hv, hR, -⟩ := id hr
  obtain ⟨bo, bcap, hsv⟩ := hR.shape
  subst hsv
  subst hv
  have HQ := Lib.hid hq
  have HR := Lib.hid hr
  have HT := Lib.hid (One.start w (.int .i64 s.limit) (.slice bo ps.length bcap) (.bool s.closed))
  have hs1 : s.fl.length ≤ 1000000 := by omega
  clear hq hr hR
  go_enter Try.func21, Try.ntmps21
  go_wp2
  go_region_held3 (fun w' => w'.cell? ⟨w.heap.size, 0, none⟩ = some (.int .i64 s.limit) ∧ w'.cell? ⟨w.heap.size, 1, none⟩ = some (.slice bo ps.length bcap) ∧ w'.cell? ⟨w.heap.size, 2, none⟩ = some (.bool s.closed) ∧ Hid (One w (.int .i64 s.limit) (.slice bo ps.length bcap) (.bool s.closed) w'))
    (first | exact (HT.out.drew).cells | (go_split_ands; exact one_keep (by assumption) (by assumption)))
    (first
      | (go_at_call 17; go_split_ands; refine (one_size (by assumption) HQ).mono ?_; rintro e w' ⟨rfl, HB⟩)
      | (go_at_call 39; go_split_ands; refine (one_rsize (by assumption) HR hs1).mono ?_; rintro e w' ⟨rfl, HB⟩)
      | (go_at_call 40; go_split_ands; refine (one_limit (by assumption) HQ).mono ?_; rintro e w' ⟨rfl, HB⟩)
      | (go_at_call 20; go_split_ands; refine (one_closed (by assumption) HQ).mono ?_; rintro e w' ⟨rfl, HB⟩)
      | (go_at_call 22; go_split_ands; refine (one_panes (by assumption) HQ hs).mono ?_; rintro e w' ⟨ao1, n1, cap1, rfl, HB, HX⟩)
      | (go_at_call 23; go_split_ands; refine (one_rpanes (by assumption) HR hs).mono ?_; rintro e w' ⟨ao2, n2, cap2, rfl, HB, HX⟩)
      | (go_at_call 24; go_split_ands; (first | refine (told_left (by assumption) (by assumption) (by assumption) hs1).mono ?_ | refine (told_right (by assumption) (by assumption) (by assumption) hs1).mono ?_); rintro e w' ⟨rfl, HB⟩))
  all_goals
    rename_i hh
    obtain ⟨-, -, -, HH⟩ := hh
    clear HT
    go_wp2
    go_loopw [7] (fun p wr => ∃ k : Int, p = .int .i64 k ∧ -1 ≤ k ∧ k ≤ 7 ∧ Hid (One w (.int .i64 s.limit) (.slice bo ps.length bcap) (.bool s.closed) wr)) (fun p _ => (7 - intOf p).toNat)
    case atStart => exact ⟨-1, rfl, by omega, by omega, HH⟩
    case round =>
      obtain ⟨k, rfl, hk0, hk1, HW⟩ := hrel
      by_cases h6 : k ≤ 6
      · have e6 : decide (k ≤ 6) = true := by simpa using h6
        by_cases hneg : k < 0
        · have e7 : decide (k < 0) = true := by simpa using hneg
          go_wp2_with (first | (go_at_call 41; refine (one_oldest pane HW HQ hs1).mono ?_; rintro e w1 ⟨rfl, HB1⟩; have HW1 := Lib.hid (HW.out.below HB1.out); obtain ⟨d0, d1, d2, -⟩ := HW1.out.cells) | (go_at_call 42; refine (one_roldest pane HW1 HR hs1).mono ?_; rintro e w2 ⟨rfl, HB2⟩; have HW2 := Lib.hid (HW1.out.below HB2.out)))
          go_roundw
          case rel => exact ⟨k + 1, by go_num, by omega, by omega, HW2⟩
          case measure => simp [intOf]; omega
        · have e7 : decide (k < 0) = false := by simpa using hneg
          go_wp2_with (first | (go_at_call 41; refine (one_oldest k HW HQ hs1).mono ?_; rintro e w1 ⟨rfl, HB1⟩; have HW1 := Lib.hid (HW.out.below HB1.out); obtain ⟨d0, d1, d2, -⟩ := HW1.out.cells) | (go_at_call 42; refine (one_roldest k HW1 HR hs1).mono ?_; rintro e w2 ⟨rfl, HB2⟩; have HW2 := Lib.hid (HW1.out.below HB2.out)))
          go_roundw
          case rel => exact ⟨k + 1, by go_num, by omega, by omega, HW2⟩
          case measure => simp [intOf]; omega
      · have e6 : decide (k ≤ 6) = false := by simpa using h6
        go_wp2
        go_ret
        exact ⟨rfl, HW.out.bel⟩
end Go.Proofs.Ytbfmfliknhcoeaa
