/- The laws' step: one call to both. -/
import Derived.Test.YtbfmfliknhcoeaaT
namespace Go.Proofs.Ytbfmfliknhcoeaa
open Go.RowKit QP

/-- a call -/
structure Opn where
  kind : Int
  line : ByteArray
  lines : List ByteArray
  pane : Int
  tick : Int
  n : Int

def opVal (o : Opn) (ao : Option Addr) (cap : Nat) : Value := .agg #[.int .i64 o.kind, .string o.line, .slice ao o.lines.length cap, .int .i64 o.pane, .int .i64 o.tick, .int .i64 o.n]
structure OkOp (o : Opn) : Prop where
  line : o.line.size ≤ 3000000
  bytes : (lineBytes o.lines).length ≤ 4000000
  count : o.lines.length ≤ 4000000
  n0 : -9223372036854775808 ≤ o.n
  n1 : o.n ≤ 9223372036854775807

/-- both sides' state behind a call -/
def nextSt (s : St) (o : Opn) : St :=
  if o.kind = 0 then putSt s [o.line] else if o.kind = 1 then putSt s o.lines else if o.kind = 2 then outSt s o.pane o.tick o.lines else if o.kind = 3 then endSt s o.line else drainSt s o.n

theorem Rd.mod0 {w w1 : World} {sz n : Nat} {v : Value} {xs : List Value} {F : Nat → Prop} (h : Rd w sz v n xs) (hm : Mod F w w1) (hn : 0 < n → ∀ k, v.ownBlock = some k → ¬ F k) : Rd w1 sz v n xs := by
  rcases Nat.eq_zero_or_pos n with h0 | h0
  · obtain ⟨a, c, k1, k2, k3, -⟩ := h
    exact ⟨a, c, k1, k2, k3, fun hh => by omega⟩
  · exact h.mod hm (hn h0)

structure Three (b : Nat) (g : Option Nat) (w : World) (v0 v1 v2 : Value) (oc : Array Value) (w1 : World) : Prop where
  mod : Mod (foot b g) w w1
  size : w.heap.size + 3 ≤ w1.heap.size
  b1 : Blk w1 w.heap.size 29 #[v0, v1, v2]
  b2 : Blk w1 (w.heap.size + 1) 25 oc
  b3 : Blk w1 (w.heap.size + 2) 29 #[.int .i64 0, .slice none 0 0, .bool false]

theorem three_boxes (w : World) (o1 o2 o3 : Obj) : ((w.alloc o1).alloc o2).alloc o3 = ((w.alloc o1).alloc o2).alloc o3 ∧ (w.alloc o1).heap.size = w.heap.size + 1 ∧ ((w.alloc o1).alloc o2).heap.size = w.heap.size + 2 ∧ (((w.alloc o1).alloc o2).alloc o3).heap.size = w.heap.size + 3 := by simp

theorem Three.start (b : Nat) (g : Option Nat) (w : World) (v0 v1 v2 : Value) (oc : Array Value) :
    Three b g w v0 v1 v2 oc (((w.alloc (.cells #[v0, v1, v2] 29)).alloc (.cells oc 25)).alloc (.cells #[.int .i64 0, .slice none 0 0, .bool false] 29)) := by
  obtain ⟨-, h1, h2, h3⟩ := three_boxes w (.cells #[v0, v1, v2] 29) (.cells oc 25) (.cells #[.int .i64 0, .slice none 0 0, .bool false] 29)
  refine ⟨(((Mod.refl _ _).alloc _).alloc _).alloc _, by omega, ((Blk.new w 29 _).alloc _).alloc _, ?_, ?_⟩
  · have := (Blk.new (w.alloc (.cells #[v0, v1, v2] 29)) 25 oc).alloc (.cells #[.int .i64 0, .slice none 0 0, .bool false] 29)
    rw [h1] at this
    exact this
  · have := Blk.new ((w.alloc (.cells #[v0, v1, v2] 29)).alloc (.cells oc 25)) 29 #[.int .i64 0, .slice none 0 0, .bool false]
    rw [h2] at this
    exact this

section
variable {b : Nat} {g g' r r' : Option Nat} {w w1 w2 w3 : World} {v0 v1 v2 : Value} {oc : Array Value}
theorem foot_lt {s : St} (h : QSt w b g s) : ∀ k, foot b g k → k < w.heap.size := by
  obtain ⟨sv, ps, hB, hR, hg, -⟩ := h
  rintro k (rfl | hk)
  · exact hB.lt
  · exact hR.lt k (hg.trans hk)
theorem Three.step (h : Three b g w v0 v1 v2 oc w1) (hm : Mod (foot b g) w1 w2) (hf : ∀ k, foot b g k → k < w.heap.size) : Three b g w v0 v1 v2 oc w2 :=
  ⟨h.mod.trans hm, by have := hm.size; have := h.size; omega, h.b1.keep hm fun e => by have := hf _ e; omega, h.b2.keep hm fun e => by have := hf _ e; omega, h.b3.keep hm fun e => by have := hf _ e; omega⟩
theorem Three.below (h : Three b g w v0 v1 v2 oc w1) (hb : Below w1.heap.size w1 w2) : Three b g w v0 v1 v2 oc w2 := by
  have hs := h.size
  exact ⟨h.mod.trans' (Mod.of_below hb fun _ => False) (fun _ _ h => h.elim), by have := hb.size; omega, (hb.block _ h.b1.lt).trans h.b1, (hb.block _ h.b2.lt).trans h.b2, (hb.block _ h.b3.lt).trans h.b3⟩
theorem Three.store (h : Three b g w v0 v1 v2 oc w1) (u0 u1 u2 : Value) : Three b g w u0 u1 u2 oc (((w1.setCell ⟨w.heap.size, 0, none⟩ u0).setCell ⟨w.heap.size, 1, none⟩ u1).setCell ⟨w.heap.size, 2, none⟩ u2) := by
  have hs := h.size
  refine ⟨((h.mod.setCell (a := ⟨w.heap.size, 0, none⟩) (.inr (Nat.le_refl _)) _).setCell (a := ⟨w.heap.size, 1, none⟩) (.inr (Nat.le_refl _)) _).setCell (a := ⟨w.heap.size, 2, none⟩) (.inr (Nat.le_refl _)) _, by simpa using hs, ((h.b1.set_ 0 _).set_ 1 _).set_ 2 _, ?_, ?_⟩
  · exact ((h.b2.far (p := ⟨w.heap.size, 0, none⟩) (by simp) _).far (p := ⟨w.heap.size, 1, none⟩) (by simp) _).far (p := ⟨w.heap.size, 2, none⟩) (by simp) _
  · exact ((h.b3.far (p := ⟨w.heap.size, 0, none⟩) (by simp) _).far (p := ⟨w.heap.size, 1, none⟩) (by simp) _).far (p := ⟨w.heap.size, 2, none⟩) (by simp) _

/-- behind both calls, and some rounds of the writing over -/
structure Mid (w : World) (b : Nat) (g g' r r' : Option Nat) (s' : St) (v0 v1 v2 : Value) (oc : Array Value) (lv av : Value) (ls : List ByteArray) (i : Nat) (w1 : World) : Prop where
  three : Three b g w v0 v1 v2 oc w1
  q : QSt w1 b g' s'
  rr : RSt w1 r' (.agg #[v0, v1, v2]) s'
  row : ∃ ys, Row w1 9 1 lv ls.length ys ∧ ∀ j, i ≤ j → ys[j]? = (strs ls)[j]?
  arg : Rd w1 1 av ls.length (strs ls)
  own : ∀ k, lv.ownBlock = some k → w.heap.size + 3 ≤ k ∧ g' ≠ some k ∧ r' ≠ some k
  argLt : 0 < ls.length → ∀ k, av.ownBlock = some k → k < w.heap.size
  ng : NewG w g g'
  nr : NewR w r r'
  off : ∀ k, r' = some k → k ≠ b ∧ g' ≠ some k
  bw : b < w.heap.size
  safe : ¬ (foot b g' (w.heap.size + 2) ∨ r' = some (w.heap.size + 2))

theorem Mid.make {s s' : St} {v : Value} {u0 u1 u2 : Value} {lv av : Value} {ls : List ByteArray} (hq : QSt w b g s) (hr : RSt w r v s) (ho : ∀ k, r = some k → k ≠ b ∧ g ≠ some k) (ha : Rd w 1 av ls.length (strs ls)) (hao : 0 < ls.length → ∀ k, av.ownBlock = some k → k ≠ b ∧ g ≠ some k)
    (h : Three b g w v0 v1 v2 oc w1) (hl : Row w1 9 1 lv ls.length (strs ls)) (hlo : ∀ k, lv.ownBlock = some k → w.heap.size + 3 ≤ k)
    (q1 : QSt w2 b g' s') (n1 : NewG w1 g g') (m1 : Mod (foot b g) w1 w2) (q2 : RSt w3 r' (.agg #[u0, u1, u2]) s') (n2 : NewR w2 r r') (b2 : Below w2.heap.size w2 w3) :
    Mid w b g g' r r' s' u0 u1 u2 oc lv av ls 0 (((w3.setCell ⟨w.heap.size, 0, none⟩ u0).setCell ⟨w.heap.size, 1, none⟩ u1).setCell ⟨w.heap.size, 2, none⟩ u2) := by
  have hf := foot_lt hq
  have hs := h.size
  have hs2 := m1.size
  have hs3 := b2.size
  have hlt := hl.lt
  obtain ⟨_, _, _, _, _, hrlt, _⟩ := hr
  have hm3 := mod3 w3 w.heap.size u0 u1 u2
  have hbw : b < w.heap.size := hf b (.inl rfl)
  have hgl : ∀ k, g = some k → k < w.heap.size := fun k hk => hf k (.inr hk)
  have hg2 : ∀ k, g' = some k → k < w2.heap.size := fun k hk => foot_lt q1 k (.inr hk)
  have hgo : ∀ k, g' = some k → k < w.heap.size ∨ w1.heap.size ≤ k := by
    intro k hk
    rcases n1 with e | ⟨j, e, hj⟩
    · exact .inl (hgl k (e.symm.trans hk))
    · rw [e] at hk; injection hk with hk; omega
  have hro : ∀ k, r' = some k → k < w.heap.size ∨ w2.heap.size ≤ k := by
    intro k hk
    rcases n2 with e | e
    · exact .inl (hrlt k (e.symm.trans hk))
    · exact .inr (e k hk)
  have hR1 : Row w3 9 1 lv ls.length (strs ls) := (hl.mod m1 fun k hk e => by have := hf k e; have := hlo k hk; omega).below b2 fun k hk => by have := hlt k hk; omega
  have hA1 : Rd w1 1 av ls.length (strs ls) := by
    refine ha.mod0 h.mod fun hn k hk e => ?_
    rcases e with e | e
    · exact (hao hn k hk).1 e
    · exact (hao hn k hk).2 e
  have hA2 : Rd w2 1 av ls.length (strs ls) := by
    refine hA1.mod0 m1 fun hn k hk e => ?_
    rcases e with e | e
    · exact (hao hn k hk).1 e
    · exact (hao hn k hk).2 e
  have haw : 0 < ls.length → ∀ k, av.ownBlock = some k → k < w.heap.size := fun hn => ha.lt hn (by decide)
  refine ⟨((h.step m1 hf).below b2).store u0 u1 u2, ?_, ?_, ⟨_, hR1.mod hm3 fun k hk e => by have := hlo k hk; omega, fun _ _ => rfl⟩, ?_, ?_, haw, ?_, ?_, ?_, hbw, ?_⟩
  · refine (q1.below b2).mod hm3 fun k hk e => ?_
    rcases hk with hk | hk
    · omega
    · rcases hgo k hk with h' | h' <;> omega
  · refine q2.mod hm3 fun k hk e => ?_
    rcases hro k hk with h' | h' <;> omega
  · rcases Nat.eq_zero_or_pos ls.length with h0 | h0
    · obtain ⟨a, c, k1, k2, k3, -⟩ := hA2
      exact ⟨a, c, k1, k2, k3, fun hh => by omega⟩
    · exact (hA2.kept (by decide) b2).mod hm3 fun k hk e => by have := haw h0 k hk; omega
  · intro k hk
    have h1 := hlo k hk
    have h2 := hlt k hk
    refine ⟨h1, fun e => ?_, fun e => ?_⟩
    · rcases hgo k e with h' | h' <;> omega
    · rcases hro k e with h' | h' <;> omega
  · rcases n1 with e | ⟨j, e, hj⟩
    · exact .inl e
    · exact .inr ⟨j, e, by omega⟩
  · rcases n2 with e | e
    · exact .inl e
    · exact .inr fun k hk => by have := e k hk; omega
  · intro k hk
    rcases n2 with e | e
    · have hk' := e.symm.trans hk
      have hkl := hrlt k hk'
      refine ⟨(ho k hk').1, fun e2 => ?_⟩
      rcases n1 with e3 | ⟨j, e3, hj⟩
      · exact (ho k hk').2 (e3.symm.trans e2)
      · rw [e3] at e2; injection e2 with e2; omega
    · have hk' := e k hk
      exact ⟨by omega, fun e2 => by have := hg2 k e2; omega⟩
  · rintro ((e | e) | e)
    · omega
    · rcases hgo _ e with h' | h' <;> omega
    · rcases hro _ e with h' | h' <;> omega

theorem Mid.next {s' : St} {av : Value} {ls : List ByteArray} {i lg lo lc : Nat} (h : Mid w b g g' r r' s' v0 v1 v2 oc (.slice (some ⟨lg, lo, none⟩) ls.length lc) av ls i w1) (u : Value) :
    Mid w b g g' r r' s' v0 v1 v2 oc (.slice (some ⟨lg, lo, none⟩) ls.length lc) av ls (i + 1) (w1.setCell ⟨lg, lo + i, none⟩ u) := by
  obtain ⟨h1, h2, h3⟩ := h.own lg rfl
  have hm : Mod (fun k => k = lg) w1 (w1.setCell ⟨lg, lo + i, none⟩ u) := (Mod.refl (fun k => k = lg) w1).setCell (a := ⟨lg, lo + i, none⟩) (.inl rfl) _
  have hs := h.three.size
  obtain ⟨ys, hr, hy⟩ := h.row
  refine ⟨⟨h.three.mod.setCell (a := ⟨lg, lo + i, none⟩) (.inr (by dsimp only; omega)) _, by simpa using hs, h.three.b1.keep hm (by omega), h.three.b2.keep hm (by omega), h.three.b3.keep hm (by omega)⟩, ?_, ?_, ⟨ys.set i u, ?_, ?_⟩, ?_, h.own, h.argLt, h.ng, h.nr, h.off, h.bw, h.safe⟩
  · refine h.q.mod hm fun k hk e => ?_
    subst e
    rcases hk with hk | hk
    · have := h.bw; omega
    · exact h2 hk
  · exact h.rr.mod hm fun k hk e => by subst e; exact h3 hk
  · exact hr.set_ u
  · intro j hj
    rw [List.getElem?_set_ne (by omega)]
    exact hy j (by omega)
  · rcases Nat.eq_zero_or_pos ls.length with h0 | h0
    · obtain ⟨a, c, k1, k2, k3, -⟩ := h.arg
      exact ⟨a, c, k1, k2, k3, fun hh => by omega⟩
    · exact h.arg.mod hm fun k hk e => by have := h.argLt h0 k hk; omega
end
end Go.Proofs.Ytbfmfliknhcoeaa
