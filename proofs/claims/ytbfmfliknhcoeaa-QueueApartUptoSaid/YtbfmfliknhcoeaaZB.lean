/- QueueApart, walked: two queues side by side. -/
import Derived.Test.YtbfmfliknhcoeaaZ4
namespace Go.Proofs.Ytbfmfliknhcoeaa
open Go.RowKit QP

/-- the blocks of a queue, and of the document's -/
def Of (b : Nat) (g r : Option Nat) (j : Nat) : Prop := j = b ∨ g = some j ∨ r = some j

structure Apart (W w : World) (k1 k2 : Nat) (c1 c2 : Array Value) (b1 : Nat) (g1 r1 : Option Nat) (v1 : Value) (s1 : St) (b2 : Nat) (g2 r2 : Option Nat) (v2 : Value) (s2 : St) : Prop where
  l1 : Live W w b1 g1 r1 v1 s1 (fun j => j = k1 ∨ j = k2 ∨ Of b2 g2 r2 j)
  l2 : Live W w b2 g2 r2 v2 s2 (fun j => j = k1 ∨ j = k2 ∨ Of b1 g1 r1 j)
  x1 : Blk w k1 29 c1
  x2 : Blk w k2 29 c2
  ne : k1 ≠ k2
  h1 : W.heap.size ≤ k1
  h2 : W.heap.size ≤ k2

section
variable {W w w' : World} {k1 k2 : Nat} {c1 c2 : Array Value} {b1 b2 : Nat} {g1 r1 g2 r2 : Option Nat} {v1 v2 : Value} {s1 s2 : St}
theorem Live.sub {b : Nat} {g r : Option Nat} {v : Value} {s : St} {S T : Nat → Prop} (h : Live W w b g r v s S) (hT : ∀ k, T k → S k) : Live W w b g r v s T :=
  ⟨h.both, h.inv, fun e => h.sb (hT _ e), fun k hk e => h.sg k hk (hT _ e), fun k hk e => h.sr k hk (hT _ e), fun k hk => h.lt k (hT k hk)⟩
theorem Live.of_lt {b : Nat} {g r : Option Nat} {v : Value} {s : St} {S : Nat → Prop} (h : Live W w b g r v s S) : ∀ j, Of b g r j → j < w.heap.size ∧ W.heap.size ≤ j := by
  have h1 := foot_lt h.both.own.q
  obtain ⟨_, _, _, _, _, hr, _⟩ := id h.both.rr
  rintro j (rfl | e | e)
  · exact ⟨h1 _ (.inl rfl), h.both.own.b0⟩
  · exact ⟨h1 _ (.inr e), h.both.own.g0 _ e⟩
  · exact ⟨hr _ e, h.both.r0 _ e⟩
theorem Apart.swap (h : Apart W w k1 k2 c1 c2 b1 g1 r1 v1 s1 b2 g2 r2 v2 s2) : Apart W w k2 k1 c2 c1 b2 g2 r2 v2 s2 b1 g1 r1 v1 s1 :=
  ⟨h.l2.sub fun _ hk => hk.elim (fun e => .inr (.inl e)) fun e => e.elim .inl fun e => .inr (.inr e), h.l1.sub fun _ hk => hk.elim (fun e => .inr (.inl e)) fun e => e.elim .inl fun e => .inr (.inr e), h.x2, h.x1, h.ne.symm, h.h2, h.h1⟩
theorem Apart.below (h : Apart W w k1 k2 c1 c2 b1 g1 r1 v1 s1 b2 g2 r2 v2 s2) (hb : Below w.heap.size w w') : Apart W w' k1 k2 c1 c2 b1 g1 r1 v1 s1 b2 g2 r2 v2 s2 :=
  ⟨h.l1.below hb, h.l2.below hb, (hb.block _ h.x1.lt).trans h.x1, (hb.block _ h.x2.lt).trans h.x2, h.ne, h.h1, h.h2⟩
theorem Apart.drew (h : Apart W w k1 k2 c1 c2 b1 g1 r1 v1 s1 b2 g2 r2 v2 s2) : Apart W w.drew k1 k2 c1 c2 b1 g1 r1 v1 s1 b2 g2 r2 v2 s2 := h.below (below_drewN (Below.refl _ _) 1)
/-- the first box is written -/
theorem Apart.store {a c d : Value} (h : Apart W w k1 k2 #[a, c, d] c2 b1 g1 r1 v1 s1 b2 g2 r2 v2 s2) (y0 y1 y2 : Value) :
    Apart W (((w.setCell ⟨k1, 0, none⟩ y0).setCell ⟨k1, 1, none⟩ y1).setCell ⟨k1, 2, none⟩ y2) k1 k2 #[y0, y1, y2] c2 b1 g1 r1 v1 s1 b2 g2 r2 v2 s2 := by
  have hm := mod3 w k1 y0 y1 y2
  exact ⟨h.l1.mod hm fun k e => ⟨.inl e, by have := h.h1; omega⟩, h.l2.mod hm fun k e => ⟨.inl e, by have := h.h1; omega⟩, ((h.x1.set_ 0 _).set_ 1 _).set_ 2 _, h.x2.keep hm (fun e => h.ne (by omega)), h.ne, h.h1, h.h2⟩

/-- a step of the first queue -/
theorem Apart.step {o : Opn} {ao : Option Addr} {cap : Nat} (h : Apart W w k1 k2 c1 c2 b1 g1 r1 v1 s1 b2 g2 r2 v2 s2) (ho : OkOp o) (ha : Rd W 1 (.slice ao o.lines.length cap) o.lines.length (strs o.lines)) :
    Calls Try.prog 13 #[.pointer (some ⟨b1, 0, none⟩), v1, opVal o ao cap] w fun e w' => ∃ (s' : St) (bo : Option Addr) (n bc : Nat) (g' r' : Option Nat), e = .returned (.tuple #[.agg #[.int .i64 s'.limit, .slice bo n bc, .bool s'.closed], .bool true]) ∧
      Apart W w' k1 k2 c1 c2 b1 g' r' (.agg #[.int .i64 s'.limit, .slice bo n bc, .bool s'.closed]) s' b2 g2 r2 v2 s2 := by
  refine (step_c (both_in h.l1 ho ha)).mono ?_
  rintro e w' ⟨v', r', g', rfl, q1, q2, n1, n2, off, m⟩
  obtain ⟨sv, ps, hv, hR, -⟩ := id q2
  obtain ⟨bo, bc, hsv⟩ := hR.shape
  subst hsv
  subst hv
  have hs := h.l1.both.own.bel.size
  have hnew : ∀ j, Of b1 g' r' j → Of b1 g1 r1 j ∨ w.heap.size ≤ j := by
    rintro j (e | e | e)
    · exact .inl (.inl e)
    · rcases n1 with e' | ⟨i, e', hi⟩
      · exact .inl (.inr (.inl (e'.symm.trans e)))
      · rw [e'] at e; injection e with e; exact .inr (by omega)
    · rcases n2 with e' | e'
      · exact .inl (.inr (.inr (e'.symm.trans e)))
      · exact .inr (e' j e)
  have hO1 := h.l1.of_lt
  have hO2 := h.l2.of_lt
  have hl1 : Live W w' b1 g' r' (.agg #[.int .i64 (nextSt s1 o).limit, .slice bo ps.length bc, .bool (nextSt s1 o).closed]) (nextSt s1 o) (fun j => j = k1 ∨ j = k2 ∨ Of b2 g2 r2 j) := by
    have hS : ∀ j, Of b1 g' r' j → ¬ (j = k1 ∨ j = k2 ∨ Of b2 g2 r2 j) := by
      intro j hj e
      rcases hnew j hj with e' | e'
      · rcases e' with e' | e' | e'
        · subst e'; exact h.l1.sb e
        · exact h.l1.sg j e' e
        · exact h.l1.sr j e' e
      · have := h.l1.lt j e; omega
    refine ⟨⟨h.l1.both.own.next q1 n1 m, q2, off, fun k hk => ?_⟩, h.l1.inv.next o, hS _ (.inl rfl), fun k hk => hS _ (.inr (.inl hk)), fun k hk => hS _ (.inr (.inr hk)), fun k hk => Nat.lt_of_lt_of_le (h.l1.lt k hk) m.size⟩
    rcases hnew k (.inr (.inr hk)) with e | e
    · exact (hO1 k e).2
    · omega
  have hl2 : Live W w' b2 g2 r2 v2 s2 (fun j => j = k1 ∨ j = k2 ∨ Of b1 g' r' j) := by
    have h0 := h.l2.mod m fun k hk => by
      rcases hk with hk | hk
      · exact ⟨.inr (.inr (.inl hk)), (hO1 k (.inl hk)).2⟩
      · exact ⟨.inr (.inr (.inr (.inl hk))), (hO1 k (.inr (.inl hk))).2⟩
    have hlt := hl1.of_lt
    have hS : ∀ j, Of b2 g2 r2 j → ¬ (j = k1 ∨ j = k2 ∨ Of b1 g' r' j) := by
      intro j hj e
      have hold : ∀ e : j = k1 ∨ j = k2 ∨ Of b1 g1 r1 j, False := by
        intro e
        rcases hj with e' | e' | e'
        · subst e'; exact h.l2.sb e
        · exact h.l2.sg j e' e
        · exact h.l2.sr j e' e
      rcases e with e | e | e
      · exact hold (.inl e)
      · exact hold (.inr (.inl e))
      · rcases hnew j e with e' | e'
        · exact hold (.inr (.inr e'))
        · have := (hO2 j hj).1; omega
    refine ⟨h0.both, h0.inv, hS _ (.inl rfl), fun k hk => hS _ (.inr (.inl hk)), fun k hk => hS _ (.inr (.inr hk)), fun k hk => ?_⟩
    rcases hk with hk | hk | hk
    · exact h0.lt k (.inl hk)
    · exact h0.lt k (.inr (.inl hk))
    · exact (hlt k hk).1
  exact ⟨_, bo, _, bc, g', r', rfl, hl1, hl2, h.l1.box m (.inl rfl) h.x1, h.l1.box m (.inr (.inl rfl)) h.x2, h.ne, h.h1, h.h2⟩
end

section
variable {W w : World} {k1 k2 : Nat} {c1 c2 : Array Value} {b1 b2 : Nat} {g1 r1 g2 r2 : Option Nat} {v2 : Value} {s1 s2 : St} {bo : Option Addr} {n bc : Nat} {o : Opn} {ao : Option Addr} {cap : Nat}
theorem apart13 (h : Hid (Apart W w k1 k2 c1 c2 b1 g1 r1 (.agg #[.int .i64 s1.limit, .slice bo n bc, .bool s1.closed]) s1 b2 g2 r2 v2 s2)) (ho : Hid (OkOp o)) (ha : Hid (Rd W 1 (.slice ao o.lines.length cap) o.lines.length (strs o.lines))) :
    Calls Try.prog 13 #[.pointer (some ⟨b1, 0, none⟩), .agg #[.int .i64 s1.limit, .slice bo n bc, .bool s1.closed], .agg #[.int .i64 o.kind, .string o.line, .slice ao o.lines.length cap, .int .i64 o.pane, .int .i64 o.tick, .int .i64 o.n]] w fun e w' =>
      ∃ (s' : St) (bo' : Option Addr) (n' bc' : Nat) (g' r' : Option Nat), e = .returned (.tuple #[.agg #[.int .i64 s'.limit, .slice bo' n' bc', .bool s'.closed], .bool true]) ∧
      Hid (Apart W w' k1 k2 c1 c2 b1 g' r' (.agg #[.int .i64 s'.limit, .slice bo' n' bc', .bool s'.closed]) s' b2 g2 r2 v2 s2) :=
  (h.out.step ho.out ha.out).mono fun _ _ ⟨s', bo', n', bc', g', r', h1, h2⟩ => ⟨s', bo', n', bc', g', r', h1, Lib.hid h2⟩
theorem apart21 {v1 : Value} (h : Hid (Apart W w k1 k2 c1 c2 b1 g1 r1 v1 s1 b2 g2 r2 v2 s2)) (pane : Int) :
    Calls Try.prog 21 #[.pointer (some ⟨b1, 0, none⟩), v1, .int .i64 pane] w fun e w' => e = .returned (.bool true) ∧ Hid (Apart W w' k1 k2 c1 c2 b1 g1 r1 v1 s1 b2 g2 r2 v2 s2) :=
  (live_as pane (Lib.hid h.out.l1)).mono fun _ _ ⟨h1, _, h3⟩ => ⟨h1, Lib.hid (h.out.below h3.out)⟩
end
theorem apart_start {W w0 w1 w2 : World} {b1 b2 : Nat} {v1 v2 : Value} {s1 s2 : St} {c1 c2 : Array Value} (hb : Below W.heap.size W w0) (h1 : Both w0 w1 b1 none none v1 s1) (i1 : SInv s1) (h2 : Both (w1.alloc (.cells c1 29)) w2 b2 none none v2 s2) (i2 : SInv s2) :
    Apart W (w2.alloc (.cells c2 29)) w1.heap.size w2.heap.size c1 c2 b1 none none v1 s1 b2 none none v2 s2 := by
  have hs0 := hb.size
  have hs1 := h1.own.bel.size
  have hs2 := h2.own.bel.size
  have hq1 := foot_lt h1.own.q b1 (.inl rfl)
  have hq2 := foot_lt h2.own.q b2 (.inl rfl)
  have hbb := h2.own.b0
  have hb1 := h1.own.b0
  have he : (w1.alloc (.cells c1 29)).heap.size = w1.heap.size + 1 := by simp
  have hb' : Below W.heap.size W (w1.alloc (.cells c1 29)) := (hb.trans (h1.own.bel.mono hs0)).alloc (by omega) _
  have a1 := live_of (fun _ => False) (Lib.hid h1) i1 hb (fun _ h => h.elim)
  have a2 := ((a1.more w1.heap.size rfl (.cells c1 29)).below h2.own.bel).more w2.heap.size rfl (.cells c2 29)
  have e2 : (w2.alloc (.cells c2 29)).heap.size = w2.heap.size + 1 := by simp
  have d1 := (live_of (W0 := W) (fun j => j = w1.heap.size ∨ Of b1 none none j) (Lib.hid h2) i2 hb' (fun k h => by
    rcases h with h | h | h | h
    · omega
    · omega
    · cases h
    · cases h)).more w2.heap.size rfl (.cells c2 29)
  have x1 : Blk (w2.alloc (.cells c2 29)) w1.heap.size 29 c1 := by
    have hk := Blk.new w1 29 c1
    have hk2 : Blk w2 w1.heap.size 29 c1 := (h2.own.bel.block _ hk.lt).trans hk
    exact hk2.alloc _
  refine ⟨⟨a2.both, i1, fun e => ?_, by simp, by simp, fun k hk => ?_⟩, d1.sub fun k hk => ?_, x1, Blk.new _ _ _, by omega, by omega, by omega⟩
  · rcases e with e | e | e | e | e
    · omega
    · omega
    · omega
    · cases e
    · cases e
  · rcases hk with e | e | e | e | e
    · omega
    · omega
    · omega
    · cases e
    · cases e
  · rcases hk with e | e | e
    · exact .inl (.inl e)
    · exact .inr e
    · exact .inl (.inr e)

theorem script_cells {W w : World} {gg o : Nat} {x : OpAt} (h6 : Hid (∀ w, Hid (Below W.heap.size W w) → Six w gg o x)) {k1 k2 b1 b2 : Nat} {g1 r1 g2 r2 : Option Nat} {c1 c2 : Array Value} {v1 v2 : Value} {s1 s2 : St} (h : Hid (Apart W w k1 k2 c1 c2 b1 g1 r1 v1 s1 b2 g2 r2 v2 s2)) :
    w.cell? ⟨gg, o, none⟩ = some (.int .i64 x.o.kind) ∧ w.cell? ⟨gg, o + 1, none⟩ = some (.string x.o.line) ∧ w.cell? ⟨gg, o + 2, none⟩ = some (.slice x.ao x.o.lines.length x.cap) ∧
      w.cell? ⟨gg, o + 3, none⟩ = some (.int .i64 x.o.pane) ∧ w.cell? ⟨gg, o + 4, none⟩ = some (.int .i64 x.o.tick) ∧ w.cell? ⟨gg, o + 5, none⟩ = some (.int .i64 x.o.n) := h6.out w (Lib.hid h.out.l1.both.own.bel)

theorem made_nil_c (l1 l2 : Int) (so : Option Addr) (n scap : Nat) (w : World) (h : (l1 < 0 ∨ 65536 < l1) ∨ (l2 < 0 ∨ 65536 < l2)) :
    Calls Try.prog 10 #[.agg #[.int .i64 l1, .int .i64 l2], .slice so n scap] w fun e w' => e = .returned (.bool true) ∧ Below w.heap.size w w' := by
  have hb0 : Below w.heap.size w (w.alloc (.cells #[.int .i64 l1, .int .i64 l2] 51)) := (Below.refl _ _).alloc (Nat.le_refl _) _
  have hk := Blk.new w 51 #[.int .i64 l1, .int .i64 l2]
  have HB0 := Lib.hid hb0
  have HK := Lib.hid hk
  clear hb0 hk
  by_cases hl1 : l1 < 0 ∨ 65536 < l1
  · go_enter Try.func10, Try.ntmps10
    go_wp2_with fail
    refine (made_no l1 _ hl1).mono ?_
    rintro e w1 ⟨rfl, hb1⟩
    have hk1 : Blk w1 w.heap.size 51 _ := (hb1.block _ HK.out.lt).trans HK.out
    have hk2 := hk1.alloc (.cells #[.int .i64 0, .slice none 0 0, .bool false] 29)
    have hb2 := HB0.out.trans (hb1.mono HB0.out.size)
    have HB2 := Lib.hid (hb2.alloc hb2.size (.cells #[.int .i64 0, .slice none 0 0, .bool false] 29))
    have c0 := hk2.cell 1
    have hkl := hk1.lt
    simp only [List.getElem?_toArray, List.getElem?_cons_succ, List.getElem?_cons_zero] at c0
    clear hb1 hk1 hk2 hb2 h hl1
    by_cases hl2 : l2 < 0 ∨ 65536 < l2
    · go_wp2_with fail
      refine (made_no l2 _ hl2).mono ?_
      rintro e w2 ⟨rfl, hb3⟩
      have hb4 := HB2.out.trans (hb3.mono HB2.out.size)
      have HB4 := Lib.hid (hb4.alloc hb4.size (.cells #[.int .i64 0, .slice none 0 0, .bool false] 29))
      clear hb3 hb4
      go_wp2
      go_ret
      exact ⟨rfl, HB4.out⟩
    · go_wp2_with fail
      refine (made_c l2 _ (by omega) (by omega)).mono ?_
      rintro e w2 ⟨b, v, rfl, hb3⟩
      obtain ⟨sv, ps, hv, hR, -⟩ := id hb3.rr
      obtain ⟨bo, bcap, hsv⟩ := hR.shape
      subst hsv
      subst hv
      have hb4 := HB2.out.trans (hb3.own.bel.mono HB2.out.size)
      have HB4 := Lib.hid (hb4.alloc hb4.size (.cells #[.int .i64 l2, .slice bo ps.length bcap, .bool false] 29))
      clear hb3 hb4 hR
      go_wp2
      go_ret
      exact ⟨rfl, HB4.out⟩
  · have hl2 : l2 < 0 ∨ 65536 < l2 := h.resolve_left hl1
    go_enter Try.func10, Try.ntmps10
    go_wp2_with fail
    refine (made_c l1 _ (by omega) (by omega)).mono ?_
    rintro e w1 ⟨b, v, rfl, hb1⟩
    obtain ⟨sv, ps, hv, hR, -⟩ := id hb1.rr
    obtain ⟨bo, bcap, hsv⟩ := hR.shape
    subst hsv
    subst hv
    have hk1 : Blk w1 w.heap.size 51 _ := (hb1.own.bel.block _ HK.out.lt).trans HK.out
    have hk2 := hk1.alloc (.cells #[.int .i64 l1, .slice bo ps.length bcap, .bool false] 29)
    have hb2 := HB0.out.trans (hb1.own.bel.mono HB0.out.size)
    have HB2 := Lib.hid (hb2.alloc hb2.size (.cells #[.int .i64 l1, .slice bo ps.length bcap, .bool false] 29))
    have c0 := hk2.cell 1
    have hkl := hk1.lt
    simp only [List.getElem?_toArray, List.getElem?_cons_succ, List.getElem?_cons_zero] at c0
    clear hb1 hk1 hk2 hb2 h hl1 hR
    go_wp2_with fail
    refine (made_no l2 _ hl2).mono ?_
    rintro e w2 ⟨rfl, hb3⟩
    have hb4 := HB2.out.trans (hb3.mono HB2.out.size)
    have HB4 := Lib.hid (hb4.alloc hb4.size (.cells #[.int .i64 0, .slice none 0 0, .bool false] 29))
    clear hb3 hb4
    go_wp2
    go_ret
    exact ⟨rfl, HB4.out⟩

set_option maxHeartbeats 2000000 in
set_option maxRecDepth 100000 in
theorem apart_c (l1 l2 : Int) (so : Option Addr) (scap : Nat) (xs : List OpAt) (w : World) (hs : Script w so scap xs) :
    Calls Try.prog 10 #[.agg #[.int .i64 l1, .int .i64 l2], .slice so xs.length scap] w fun e w' => e = .returned (.bool true) ∧ Below w.heap.size w w' := by
  by_cases hno : (l1 < 0 ∨ 65536 < l1) ∨ (l2 < 0 ∨ 65536 < l2)
  · exact made_nil_c l1 l2 so xs.length scap w hno
  have HS := Lib.hid hs
  have hb0 : Below w.heap.size w (w.alloc (.cells #[.int .i64 l1, .int .i64 l2] 51)) := (Below.refl _ _).alloc (Nat.le_refl _) _
  have hk := Blk.new w 51 #[.int .i64 l1, .int .i64 l2]
  have HB0 := Lib.hid hb0
  have HK := Lib.hid hk
  clear hb0 hk hs
  go_enter Try.func10, Try.ntmps10
  go_wp2_with fail
  refine (made_c l1 _ (by omega) (by omega)).mono ?_
  rintro e w1 ⟨b1, v1, rfl, hb1⟩
  obtain ⟨sv1, ps1, hv1, hR1, -⟩ := id hb1.rr
  obtain ⟨bo1, bc1, hsv1⟩ := hR1.shape
  subst hsv1
  subst hv1
  have hk1 : Blk w1 w.heap.size 51 _ := (hb1.own.bel.block _ HK.out.lt).trans HK.out
  have hk2 := hk1.alloc (.cells #[.int .i64 l1, .slice bo1 ps1.length bc1, .bool false] 29)
  have c0 := hk2.cell 1
  have hkl := hk1.lt
  have H1 := Lib.hid hb1
  simp only [List.getElem?_toArray, List.getElem?_cons_succ, List.getElem?_cons_zero] at c0
  clear hb1 hk1 hk2 hR1
  go_wp2_with fail
  refine (made_c l2 _ (by omega) (by omega)).mono ?_
  rintro e w2 ⟨b2, v2, rfl, hb2⟩
  obtain ⟨sv2, ps2, hv2, hR2, -⟩ := id hb2.rr
  obtain ⟨bo2, bc2, hsv2⟩ := hR2.shape
  subst hsv2
  subst hv2
  have HA := Lib.hid (apart_start (c2 := #[.int .i64 l2, .slice bo2 ps2.length bc2, .bool false]) HB0.out H1.out (SInv.new (by omega) (by omega)) hb2 (SInv.new (by omega) (by omega)))
  clear hb2 hR2 H1 c0 hno
  go_wp2
  go_loopw [11] (fun i wr => ∃ (k : Nat) (s1 : St) (g1 r1 : Option Nat) (bo1 : Option Addr) (n1 bc1 : Nat) (s2 : St) (g2 r2 : Option Nat) (bo2 : Option Addr) (n2 bc2 : Nat), k ≤ xs.length ∧ i = .int .i64 k ∧
    Hid (Apart w wr w1.heap.size w2.heap.size #[.int .i64 s1.limit, .slice bo1 n1 bc1, .bool s1.closed] #[.int .i64 s2.limit, .slice bo2 n2 bc2, .bool s2.closed] b1 g1 r1 (.agg #[.int .i64 s1.limit, .slice bo1 n1 bc1, .bool s1.closed]) s1 b2 g2 r2 (.agg #[.int .i64 s2.limit, .slice bo2 n2 bc2, .bool s2.closed]) s2)) (fun i _ => xs.length - (intOf i).toNat)
  case atStart => exact ⟨0, ⟨l1, [], false⟩, _, _, _, _, _, ⟨l2, [], false⟩, _, _, _, _, _, Nat.zero_le _, rfl, HA⟩
  case round =>
    clear HA
    obtain ⟨k, s1, g1, r1, bo1, n1, bc1, s2, g2, r2, bo2, n2, bc2, hk, rfl, HA⟩ := hrel
    have hxl := HS.out.len
    by_cases hlt : k < xs.length
    · obtain ⟨gg, off, hso, hnc, hsix⟩ := HS.out.at_ k hlt
      subst hso
      have H6 := Lib.hid hsix
      have HOK := Lib.hid (HS.out.ok xs[k] (List.getElem_mem hlt))
      have HAR := Lib.hid (HS.out.arg xs[k] (List.getElem_mem hlt))
      have hk0 : (0 : Int) ≤ (k : Int) := by omega
      have hk1 : (k : Int) < (xs.length : Int) := by omega
      clear hsix
      by_cases hev : k % 2 = 0
      · have hrm : ((k : Int) % 2 == 0) = true := by simp; omega
        clear hev
        have HA1 := Lib.hid HA.out.drew
        obtain ⟨z0, z1, z2, y0, y1, y2⟩ := HA.out.x1.six
        obtain ⟨q0, q1, q2, q3, q4, q5⟩ := script_cells H6 HA
        go_wp2_with fail

        go_region_with (first | (go_at_call 13; with_reducible refine (apart13 HA1 HOK HAR).mono ?_; rintro e w' ⟨st, bo', n', bc', g', r', rfl, HA3⟩; clear z0 z1 z2 y0 y1 y2 q0 q1 q2 q3 q4 q5; obtain ⟨z0, z1, z2, y0, y1, y2⟩ := HA3.out.x1.six; obtain ⟨q0, q1, q2, q3, q4, q5⟩ := script_cells H6 HA3))
        all_goals
          have HA4 := Lib.hid (HA3.out.store (.int .i64 st.limit) (.slice bo' n' bc') (.bool st.closed))
          clear z0 z1 z2 y0 y1 y2 q0 q1 q2 q3 q4 q5
          obtain ⟨z0, z1, z2, -⟩ := HA4.out.x1.six
          go_wp2_with fail
          with_reducible refine (apart21 HA4 0).mono ?_
          rintro e w5 ⟨rfl, HA5⟩
          obtain ⟨x0, x1, x2, -⟩ := HA5.out.x2.six
          go_wp2_with fail
          with_reducible refine (apart21 (Lib.hid HA5.out.swap) 0).mono ?_
          rintro e w6 ⟨rfl, HA6⟩
          go_wp2
          go_roundw
          case rel => exact ⟨k + 1, _, _, _, _, _, _, _, _, _, _, _, _, by omega, by go_num, Lib.hid HA6.out.swap⟩
          case measure => simp [intOf]; omega
      · have hrm : ((k : Int) % 2 == 0) = false := by simp; omega
        clear hev
        have HA1 := Lib.hid HA.out.swap.drew
        obtain ⟨z0, z1, z2, y0, y1, y2⟩ := HA.out.x2.six
        obtain ⟨q0, q1, q2, q3, q4, q5⟩ := script_cells H6 HA
        go_wp2_with fail
        go_region_with (first | (go_at_call 13; with_reducible refine (apart13 HA1 HOK HAR).mono ?_; rintro e w' ⟨st, bo', n', bc', g', r', rfl, HA3⟩; clear z0 z1 z2 y0 y1 y2 q0 q1 q2 q3 q4 q5; obtain ⟨z0, z1, z2, y0, y1, y2⟩ := HA3.out.x1.six; obtain ⟨q0, q1, q2, q3, q4, q5⟩ := script_cells H6 HA3))
        all_goals
          have HA4 := Lib.hid (HA3.out.store (.int .i64 st.limit) (.slice bo' n' bc') (.bool st.closed)).swap
          clear z0 z1 z2 y0 y1 y2 q0 q1 q2 q3 q4 q5
          obtain ⟨z0, z1, z2, -⟩ := HA4.out.x1.six
          go_wp2_with fail
          with_reducible refine (apart21 HA4 0).mono ?_
          rintro e w5 ⟨rfl, HA5⟩
          obtain ⟨x0, x1, x2, -⟩ := HA5.out.x2.six
          go_wp2_with fail
          with_reducible refine (apart21 (Lib.hid HA5.out.swap) 0).mono ?_
          rintro e w6 ⟨rfl, HA6⟩
          go_wp2
          go_roundw
          case rel => exact ⟨k + 1, _, _, _, _, _, _, _, _, _, _, _, _, by omega, by go_num, Lib.hid HA6.out.swap⟩
          case measure => simp [intOf]; omega
    · go_wp2
      go_ret
      exact ⟨rfl, HA.out.l1.both.own.bel⟩
end Go.Proofs.Ytbfmfliknhcoeaa
