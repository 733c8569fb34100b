/- The laws' behind: a queue behind a script. -/
import Derived.Test.YtbfmfliknhcoeaaY
namespace Go.Proofs.Ytbfmfliknhcoeaa
open Go.RowKit QP

/-! ### how great a queue may be -/
structure SInv (s : St) : Prop where
  lim0 : 0 ≤ s.limit
  lim1 : s.limit ≤ 65536
  len : (s.fl.length : Int) ≤ s.limit + 32768 + (if s.closed then 8193 else 0)
theorem SInv.fits {s : St} (h : SInv s) : Fits s := ⟨h.lim0, h.lim1, by have h1 := h.len; have h2 := h.lim1; split at h1 <;> omega⟩
theorem SInv.new {limit : Int} (h0 : 0 ≤ limit) (h1 : limit ≤ 65536) : SInv ⟨limit, [], false⟩ := ⟨h0, h1, by simp; omega⟩
theorem tag_length (p t : Int) (l : List UInt8) : (tag p t l).length = l.length := by simp [tag]
theorem SInv.lay {s : St} {p t most : Int} {ls : List ByteArray} (h : SInv s) (hm : most ≤ s.limit + 32768) : SInv (laySt s p t ls most) := by
  unfold laySt
  split
  · exact h
  · split
    · exact h
    · split
      · exact h
      · split
        · exact h
        · rename_i h1 h2 h3 h4
          have hc : s.closed = false := by simpa using h2
          exact ⟨h.lim0, h.lim1, by dsimp only; rw [List.length_append, tag_length, hc]; simp; omega⟩
theorem SInv.next {s : St} (h : SInv s) (o : Opn) : SInv (nextSt s o) := by
  have h0 := h.lim0
  unfold nextSt
  split
  · exact h.lay (Int.le_refl _)
  · split
    · exact h.lay (Int.le_refl _)
    · split
      · unfold outSt
        split
        · exact h
        · exact h.lay (by omega)
      · split
        · unfold endSt
          split
          · exact h
          · split
            · exact h
            · rename_i h1 h2
              have hc : s.closed = false := by simpa using h2
              have hg : goodLine o.line = true := by simpa using h1
              have hls : o.line.size ≤ 8192 := by simp only [goodLine, Bool.and_eq_true, decide_eq_true_eq] at hg; exact hg.1
              have hl := h.len
              rw [hc] at hl
              refine ⟨h.lim0, h.lim1, ?_⟩
              dsimp only
              rw [List.length_append, tag_length, List.length_append, bytes_length]
              simp at hl ⊢
              omega
        · have hl := h.len
          refine ⟨h.lim0, h.lim1, ?_⟩
          unfold drainSt
          dsimp only
          rw [List.length_drop]
          split at hl <;> split <;> simp_all <;> omega

/-! ### a queue beside boxes that it knows nothing of -/
structure Live (W w : World) (b : Nat) (g r : Option Nat) (v : Value) (s : St) (S : Nat → Prop) : Prop where
  both : Both W w b g r v s
  inv : SInv s
  sb : ¬ S b
  sg : ∀ k, g = some k → ¬ S k
  sr : ∀ k, r = some k → ¬ S k
  lt : ∀ k, S k → k < w.heap.size

section
variable {W w w1 : World} {b : Nat} {g r : Option Nat} {v : Value} {s : St} {S : Nat → Prop}
theorem Live.below (h : Live W w b g r v s S) (hb : Below w.heap.size w w1) : Live W w1 b g r v s S :=
  ⟨h.both.below hb, h.inv, h.sb, h.sg, h.sr, fun k hk => Nat.lt_of_lt_of_le (h.lt k hk) hb.size⟩
theorem Live.drew (h : Live W w b g r v s S) : Live W w.drew b g r v s S := h.below (below_drewN (Below.refl _ _) 1)
theorem Live.drewN (h : Live W w b g r v s S) (n : Nat) : Live W (w.drewN n) b g r v s S := h.below (below_drewN (Below.refl _ _) n)
theorem Live.alloc (h : Live W w b g r v s S) (o : Obj) : Live W (w.alloc o) b g r v s S := h.below ((Below.refl _ _).alloc (Nat.le_refl _) o)
/-- a box is written -/
theorem Live.mod {F : Nat → Prop} (h : Live W w b g r v s S) (hm : Mod F w w1) (hF : ∀ k, F k → S k ∧ W.heap.size ≤ k) : Live W w1 b g r v s S := by
  refine ⟨⟨⟨h.both.own.q.mod hm fun k hk e => ?_, h.both.own.b0, h.both.own.g0, below_mod h.both.own.bel hm h.both.own.bel.size fun i hi e => by have := (hF i e).2; omega⟩, h.both.rr.mod hm fun k hk e => h.sr k hk (hF k e).1, h.both.off, h.both.r0⟩, h.inv, h.sb, h.sg, h.sr, fun k hk => Nat.lt_of_lt_of_le (h.lt k hk) hm.size⟩
  rcases hk with hk | hk
  · subst hk; exact h.sb (hF _ e).1
  · exact h.sg k hk (hF k e).1
/-- a new box stands beside it -/
theorem Live.more (h : Live W w b g r v s S) (k : Nat) (hk : k = w.heap.size) (o : Obj) : Live W (w.alloc o) b g r v s (fun j => S j ∨ j = k) := by
  subst hk
  have h1 := foot_lt h.both.own.q
  obtain ⟨_, _, _, _, _, hr, _⟩ := id h.both.rr
  have h2 := h.alloc o
  refine ⟨h2.both, h.inv, fun e => e.elim h.sb fun e => ?_, fun k hk e => e.elim (h.sg k hk) fun e => ?_, fun k hk e => e.elim (h.sr k hk) fun e => ?_, fun k hk => hk.elim (h2.lt k) fun e => by subst e; simp⟩
  · have := h1 b (.inl rfl); omega
  · have := h1 k (.inr hk); omega
  · have := hr k hk; omega

theorem both_in {o : Opn} {ao : Option Addr} {cap : Nat} (h : Live W w b g r v s S) (ho : OkOp o) (ha : Rd W 1 (.slice ao o.lines.length cap) o.lines.length (strs o.lines)) : StepIn w b g r v s o ao cap :=
  ⟨h.both.own.q, h.both.rr, h.inv.fits, ho, ha.kept (by decide) h.both.own.bel, h.both.off, fun hn k hk => by
    have h1 := ha.lt hn (by decide) k hk
    have h2 := h.both.own.b0
    exact ⟨by omega, fun e => by have := h.both.own.g0 k e; omega⟩⟩

theorem step_c {o : Opn} {ao : Option Addr} {cap : Nat} (h : StepIn w b g r v s o ao cap) : Calls Try.prog 13 #[.pointer (some ⟨b, 0, none⟩), v, opVal o ao cap] w fun e w' => StepPost w b g r (nextSt s o) e w' := by
  by_cases h0 : o.kind = 0
  · exact step0_c b g r v s o ao cap w h h0
  · by_cases h1 : o.kind = 1
    · exact step1_c b g r v s o ao cap w h h1
    · by_cases h2 : o.kind = 2
      · exact step2_c b g r v s o ao cap w h h2
      · by_cases h3 : o.kind = 3
        · exact step3_c b g r v s o ao cap w h h3
        · exact step4_c b g r v s o ao cap w h h0 h1 h2 h3

theorem live_step {o : Opn} {ao : Option Addr} {cap : Nat} (h : Live W w b g r v s S) (ho : OkOp o) (ha : Rd W 1 (.slice ao o.lines.length cap) o.lines.length (strs o.lines)) :
    Calls Try.prog 13 #[.pointer (some ⟨b, 0, none⟩), v, opVal o ao cap] w fun e w' => ∃ (bo : Option Addr) (n bc : Nat) (g' r' : Option Nat), e = .returned (.tuple #[.agg #[.int .i64 (nextSt s o).limit, .slice bo n bc, .bool (nextSt s o).closed], .bool true]) ∧
      Hid (Live W w' b g' r' (.agg #[.int .i64 (nextSt s o).limit, .slice bo n bc, .bool (nextSt s o).closed]) (nextSt s o) S) ∧ Hid (Mod (foot b g) w w') := by
  refine (step_c (both_in h ho ha)).mono ?_
  rintro e w' ⟨v', r', g', rfl, q1, q2, n1, n2, off, m⟩
  obtain ⟨sv, ps, hv, hR, -⟩ := id q2
  obtain ⟨bo, bc, hsv⟩ := hR.shape
  subst hsv
  subst hv
  have hs := h.both.own.bel.size
  refine ⟨bo, _, bc, g', r', rfl, Lib.hid ⟨⟨h.both.own.next q1 n1 m, q2, off, fun k hk => ?_⟩, h.inv.next o, h.sb, fun k hk e => ?_, fun k hk e => ?_, fun k hk => Nat.lt_of_lt_of_le (h.lt k hk) m.size⟩, Lib.hid m⟩
  · rcases n2 with e | e
    · exact h.both.r0 k (e.symm.trans hk)
    · have := e k hk; omega
  · rcases n1 with e' | ⟨j, e', hj⟩
    · exact h.sg k (e'.symm.trans hk) e
    · rw [e'] at hk; injection hk with hk; have := h.lt k e; omega
  · rcases n2 with e' | e'
    · exact h.sr k (e'.symm.trans hk) e
    · have := e' k hk; have := h.lt k e; omega
/-- the boxes are as they were -/
theorem Live.box (h : Live W w b g r v s S) (hm : Mod (foot b g) w w1) {k : Nat} {t : TypeId} {cs : Array Value} (hk : S k) (hB : Blk w k t cs) : Blk w1 k t cs :=
  hB.keep hm fun e => e.elim (fun e => h.sb (e ▸ hk)) fun e => h.sg k e hk
end

/-! ### a script -/
structure OpAt where
  o : Opn
  ao : Option Addr
  cap : Nat
def opCells (x : OpAt) : List Value := [.int .i64 x.o.kind, .string x.o.line, .slice x.ao x.o.lines.length x.cap, .int .i64 x.o.pane, .int .i64 x.o.tick, .int .i64 x.o.n]
def opsOf (xs : List OpAt) : List Value := xs.flatMap opCells
theorem opsOf_cons (x : OpAt) (xs : List OpAt) : opsOf (x :: xs) = opCells x ++ opsOf xs := by simp [opsOf]
theorem opsOf_get (xs : List OpAt) (i : Nat) (h : i < xs.length) (j : Nat) (hj : j < 6) : (opsOf xs)[i * 6 + j]? = (opCells xs[i])[j]? := by
  induction xs generalizing i with
  | nil => simp at h
  | cons p ps ih =>
    rw [opsOf_cons]
    cases i with
    | zero => rw [Nat.zero_mul, Nat.zero_add, List.getElem?_append_left (by simpa [opCells] using hj)]; rfl
    | succ i =>
      have hl : (opCells p).length = 6 := rfl
      rw [List.getElem?_append_right (by rw [hl]; omega), hl, show (i + 1) * 6 + j - 6 = i * 6 + j by omega, ih i (by simpa using h)]
      rfl
structure Script (W : World) (so : Option Addr) (scap : Nat) (xs : List OpAt) : Prop where
  rd : Rd W 6 (.slice so xs.length scap) xs.length (opsOf xs)
  ok : ∀ x ∈ xs, OkOp x.o
  arg : ∀ x ∈ xs, Rd W 1 (.slice x.ao x.o.lines.length x.cap) x.o.lines.length (strs x.o.lines)
  len : xs.length ≤ 1048576

/-- the six cells of a call in the script -/
def Six (w : World) (gg o : Nat) (x : OpAt) : Prop :=
  w.cell? ⟨gg, o, none⟩ = some (.int .i64 x.o.kind) ∧ w.cell? ⟨gg, o + 1, none⟩ = some (.string x.o.line) ∧ w.cell? ⟨gg, o + 2, none⟩ = some (.slice x.ao x.o.lines.length x.cap) ∧
  w.cell? ⟨gg, o + 3, none⟩ = some (.int .i64 x.o.pane) ∧ w.cell? ⟨gg, o + 4, none⟩ = some (.int .i64 x.o.tick) ∧ w.cell? ⟨gg, o + 5, none⟩ = some (.int .i64 x.o.n)

theorem Script.at_ {W : World} {so : Option Addr} {scap : Nat} {xs : List OpAt} (h : Script W so scap xs) (k : Nat) (hk : k < xs.length) :
    ∃ gg off, so = some ⟨gg, off, none⟩ ∧ xs.length ≤ scap ∧ ∀ w, Hid (Below W.heap.size W w) → Six w gg (off + k * 6) xs[k] := by
  obtain ⟨gg, off, cap', hv, hnc, hc⟩ := h.rd.at_ (by omega)
  cases hv
  refine ⟨gg, off, rfl, hnc, fun w hb => ?_⟩
  have hlt : gg < W.heap.size := h.rd.lt (by omega) (by decide) gg rfl
  have key : ∀ j u, j < 6 → (opCells xs[k])[j]? = some u → w.cell? ⟨gg, off + k * 6 + j, none⟩ = some u := by
    intro j u hj hu
    have := hc (k * 6 + j) u ((opsOf_get xs k hk j hj).trans hu)
    rw [← Nat.add_assoc] at this
    exact (hb.out.cell (p := ⟨gg, off + k * 6 + j, none⟩) hlt).trans this
  exact ⟨key 0 _ (by decide) rfl, key 1 _ (by decide) rfl, key 2 _ (by decide) rfl, key 3 _ (by decide) rfl, key 4 _ (by decide) rfl, key 5 _ (by decide) rfl⟩

theorem sets_below {W w : World} {k : Nat} (h : Below W.heap.size W w) (hk : W.heap.size ≤ k) (u0 u1 u2 : Value) : Below W.heap.size W (((w.setCell ⟨k, 0, none⟩ u0).setCell ⟨k, 1, none⟩ u1).setCell ⟨k, 2, none⟩ u2) :=
  below_mod h (mod3 w k u0 u1 u2) h.size fun i hi e => by omega

theorem six_keep {W w : World} {gg o : Nat} {x : OpAt} (h : Hid (∀ w, Hid (Below W.heap.size W w) → Six w gg o x)) (hb : Hid (Below W.heap.size W w)) :
    w.cell? ⟨gg, o, none⟩ = some (.int .i64 x.o.kind) ∧ w.cell? ⟨gg, o + 1, none⟩ = some (.string x.o.line) ∧ w.cell? ⟨gg, o + 2, none⟩ = some (.slice x.ao x.o.lines.length x.cap) ∧
  w.cell? ⟨gg, o + 3, none⟩ = some (.int .i64 x.o.pane) ∧ w.cell? ⟨gg, o + 4, none⟩ = some (.int .i64 x.o.tick) ∧ w.cell? ⟨gg, o + 5, none⟩ = some (.int .i64 x.o.n) ∧ Hid (Below W.heap.size W w) := by
  obtain ⟨h1, h2, h3, h4, h5, h6⟩ := h.out w hb
  exact ⟨h1, h2, h3, h4, h5, h6, hb⟩

/-- behind a round: the queue, the box of the document's queue, the box of the result -/
structure LoopAt (W : World) (k5 k8 b : Nat) (w : World) (s : St) (g r : Option Nat) (bo : Option Addr) (n bc : Nat) : Prop where
  live : Live W w b g r (.agg #[.int .i64 s.limit, .slice bo n bc, .bool s.closed]) s (fun j => j = k5 ∨ j = k8)
  b8 : Blk w k8 29 #[.int .i64 s.limit, .slice bo n bc, .bool s.closed]
  b5 : Blk w k5 29 #[.int .i64 0, .slice none 0 0, .bool false]
  ne : k5 ≠ k8
  h5 : W.heap.size ≤ k5
  h8 : W.heap.size ≤ k8

section
variable {W w w1 : World} {k5 k8 b : Nat} {s s' : St} {g r g' r' : Option Nat} {bo bo' : Option Addr} {n bc n' bc' : Nat}
theorem LoopAt.cells (h : LoopAt W k5 k8 b w s g r bo n bc) : w.cell? ⟨k8, 0, none⟩ = some (.int .i64 s.limit) ∧ w.cell? ⟨k8, 1, none⟩ = some (.slice bo n bc) ∧ w.cell? ⟨k8, 2, none⟩ = some (.bool s.closed) ∧
    w.frozen? ⟨k8, 0, none⟩ = false ∧ w.frozen? ⟨k8, 1, none⟩ = false ∧ w.frozen? ⟨k8, 2, none⟩ = false :=
  ⟨h.b8.cell 0, h.b8.cell 1, h.b8.cell 2, h.b8.frozen 0, h.b8.frozen 1, h.b8.frozen 2⟩
theorem LoopAt.store (h : LoopAt W k5 k8 b w s g r bo n bc) (hl : Live W w1 b g' r' (.agg #[.int .i64 s'.limit, .slice bo' n' bc', .bool s'.closed]) s' (fun j => j = k5 ∨ j = k8)) (hm : Mod (foot b g) w w1) :
    LoopAt W k5 k8 b (((w1.setCell ⟨k8, 0, none⟩ (.int .i64 s'.limit)).setCell ⟨k8, 1, none⟩ (.slice bo' n' bc')).setCell ⟨k8, 2, none⟩ (.bool s'.closed)) s' g' r' bo' n' bc' := by
  have hm3 := mod3 w1 k8 (.int .i64 s'.limit) (.slice bo' n' bc') (.bool s'.closed)
  have h8 := h.live.box hm (k := k8) (.inr rfl) h.b8
  have h5 := h.live.box hm (k := k5) (.inl rfl) h.b5
  exact ⟨hl.mod hm3 fun k e => ⟨.inr e, by subst e; exact h.h8⟩, ((h8.set_ 0 _).set_ 1 _).set_ 2 _, h5.keep hm3 h.ne, h.ne, h.h5, h.h8⟩
theorem loop_step {o : Opn} {ao : Option Addr} {cap : Nat} (h : Hid (LoopAt W k5 k8 b w s g r bo n bc)) (ho : Hid (OkOp o)) (ha : Hid (Rd W 1 (.slice ao o.lines.length cap) o.lines.length (strs o.lines))) :
    Calls Try.prog 13 #[.pointer (some ⟨b, 0, none⟩), .agg #[.int .i64 s.limit, .slice bo n bc, .bool s.closed], .agg #[.int .i64 o.kind, .string o.line, .slice ao o.lines.length cap, .int .i64 o.pane, .int .i64 o.tick, .int .i64 o.n]] w fun e w' =>
      ∃ (bo' : Option Addr) (n' bc' : Nat) (g' r' : Option Nat), e = .returned (.tuple #[.agg #[.int .i64 (nextSt s o).limit, .slice bo' n' bc', .bool (nextSt s o).closed], .bool true]) ∧
      Hid (Live W w' b g' r' (.agg #[.int .i64 (nextSt s o).limit, .slice bo' n' bc', .bool (nextSt s o).closed]) (nextSt s o) (fun j => j = k5 ∨ j = k8)) ∧ Hid (Mod (foot b g) w w') ∧
      w'.cell? ⟨k8, 0, none⟩ = some (.int .i64 s.limit) ∧ w'.cell? ⟨k8, 1, none⟩ = some (.slice bo n bc) ∧ w'.cell? ⟨k8, 2, none⟩ = some (.bool s.closed) ∧
      w'.frozen? ⟨k8, 0, none⟩ = false ∧ w'.frozen? ⟨k8, 1, none⟩ = false ∧ w'.frozen? ⟨k8, 2, none⟩ = false := by
  refine (live_step h.out.live ho.out ha.out).mono ?_
  rintro e w' ⟨bo', n', bc', g', r', rfl, HL, HM⟩
  have h8 := h.out.live.box HM.out (k := k8) (.inr rfl) h.out.b8
  exact ⟨bo', n', bc', g', r', rfl, HL, HM, h8.cell 0, h8.cell 1, h8.cell 2, h8.frozen 0, h8.frozen 1, h8.frozen 2⟩
theorem LoopAt.drew (h : LoopAt W k5 k8 b w s g r bo n bc) : LoopAt W k5 k8 b w.drew s g r bo n bc := ⟨h.live.drew, h.b8, h.b5, h.ne, h.h5, h.h8⟩
theorem LoopAt.below (h : LoopAt W k5 k8 b w s g r bo n bc) (hb : Below w.heap.size w w1) : LoopAt W k5 k8 b w1 s g r bo n bc :=
  ⟨h.live.below hb, (hb.block _ h.b8.lt).trans h.b8, (hb.block _ h.b5.lt).trans h.b5, h.ne, h.h5, h.h8⟩
end

set_option maxHeartbeats 1000000 in
set_option maxRecDepth 100000 in
theorem behind_c (limit : Int) (so : Option Addr) (scap : Nat) (xs : List OpAt) (w : World) (h0 : 0 ≤ limit) (h1 : limit ≤ 65536) (hs : Script w so scap xs) :
    Calls Try.prog 12 #[.int .i64 limit, .slice so xs.length scap] w fun e w' => ∃ (b : Nat) (g r : Option Nat) (bo : Option Addr) (n bc : Nat) (s : St), e = .returned (.tuple #[.pointer (some ⟨b, 0, none⟩), .agg #[.int .i64 s.limit, .slice bo n bc, .bool s.closed], .bool true]) ∧
      Hid (Both w w' b g r (.agg #[.int .i64 s.limit, .slice bo n bc, .bool s.closed]) s) ∧ SInv s := by
  have HS := Lib.hid hs
  clear hs
  go_enter Try.func12, Try.ntmps12
  go_wp2_with fail
  refine (made_c limit _ h0 h1).mono ?_
  rintro e w1 ⟨b, v, rfl, hb⟩
  obtain ⟨sv, ps, hv, hR, -⟩ := id hb.rr
  obtain ⟨bo, bcap, hsv⟩ := hR.shape
  subst hsv
  subst hv
  have hl : LoopAt w w.heap.size w1.heap.size b (w1.alloc (.cells #[.int .i64 limit, .slice bo ps.length bcap, .bool false] 29)) ⟨limit, [], false⟩ none none bo ps.length bcap := by
    have hk := Blk.new w 29 #[.int .i64 0, .slice none 0 0, .bool false]
    have hk1 : Blk w1 w.heap.size 29 _ := (hb.own.bel.block _ hk.lt).trans hk
    have hbw := hb.own.b0
    simp at hbw
    have hlv : Live w w1 b none none (.agg #[.int .i64 limit, .slice bo ps.length bcap, .bool false]) ⟨limit, [], false⟩ (fun j => j = w.heap.size) :=
      ⟨⟨⟨hb.own.q, by omega, by simp, ((Below.refl _ _).alloc (Nat.le_refl _) _).trans (hb.own.bel.mono (by simp))⟩, hb.rr, by simp, by simp⟩, SInv.new h0 h1, by omega, by simp, by simp, fun k e => by subst e; exact hk1.lt⟩
    exact ⟨hlv.more _ rfl _, Blk.new _ _ _, hk1.alloc _, by have := hk1.lt; omega, Nat.le_refl _, by have := hk1.lt; omega⟩
  have HL := Lib.hid hl
  clear hb hR hl
  go_wp2
  go_loopw [10] (fun i wr => ∃ (k : Nat) (s : St) (g r : Option Nat) (bo : Option Addr) (n bc : Nat), k ≤ xs.length ∧ i = .int .i64 k ∧ Hid (LoopAt w w.heap.size w1.heap.size b wr s g r bo n bc)) (fun i _ => xs.length - (intOf i).toNat)
  case atStart => exact ⟨0, _, _, _, _, _, _, Nat.zero_le _, rfl, HL⟩
  case round =>
    obtain ⟨k, s, g, r, bo, n, bc, hk, rfl, HV⟩ := hrel
    clear HL
    have hxl := HS.out.len
    obtain ⟨z0, z1, z2, y0, y1, y2⟩ := HV.out.cells
    by_cases hlt : k < xs.length
    · obtain ⟨gg, off, hso, hnc, hsix⟩ := HS.out.at_ k hlt
      subst hso
      have H6 := Lib.hid hsix
      have HOK := Lib.hid (HS.out.ok xs[k] (List.getElem_mem hlt))
      have HAR := Lib.hid (HS.out.arg xs[k] (List.getElem_mem hlt))
      have HV1 := Lib.hid HV.out.drew
      have hk0 : (0 : Int) ≤ (k : Int) := by omega
      have hk1 : (k : Int) < (xs.length : Int) := by omega
      clear hsix
      go_wp2_with fail
      obtain ⟨s0, s1, s2, s3, s4, s5, -⟩ := six_keep H6 (Lib.hid HV.out.live.both.own.bel)
      go_region_with (first | (go_at_call 13; with_reducible refine (loop_step HV1 HOK HAR).mono ?_; rintro e w' ⟨bo', n', bc', g', r', rfl, HL, HM, x0, x1, x2, x3, x4, x5⟩; clear z0 z1 z2 y0 y1 y2 s0 s1 s2 s3 s4 s5))
      all_goals
        go_wp2
        go_roundw
        case rel => exact ⟨k + 1, _, _, _, _, _, _, by omega, by go_num, Lib.hid (HV1.out.store HL.out HM.out)⟩
        case measure => simp [intOf]; omega
    · obtain ⟨p0, p1, p2, q0, q1, q2⟩ : _ ∧ _ ∧ _ ∧ _ ∧ _ ∧ _ := ⟨HV.out.b5.cell 0, HV.out.b5.cell 1, HV.out.b5.cell 2, HV.out.b5.frozen 0, HV.out.b5.frozen 1, HV.out.b5.frozen 2⟩
      simp only [List.getElem?_toArray, List.getElem?_cons_succ, List.getElem?_cons_zero] at p0 p1 p2
      go_wp2_with fail
      go_region
      all_goals
        go_wp2
        refine bodyPost_ret (v := .tuple #[.pointer (some ⟨b, 0, none⟩), .agg #[.int .i64 s.limit, .slice bo n bc, .bool s.closed], .bool true]) (by simp [results, Try.results12, go_sem, p0, p1, p2]) rfl ?_
        have hm := mod3 wr w.heap.size (.int .i64 s.limit) (.slice bo n bc) (.bool s.closed)
        have hl := HV.out.live.mod hm fun k e => ⟨.inl e, by omega⟩
        first
          | exact ⟨b, g, r, bo, n, bc, s, rfl, Lib.hid hl.both, hl.inv⟩
          | exact ⟨b, g, r, bo, n, bc, s, rfl, Lib.hid hl.drew.both, hl.inv⟩

set_option maxHeartbeats 1000000 in
set_option maxRecDepth 100000 in
theorem behind_no (limit : Int) (so : Option Addr) (n scap : Nat) (w : World) (h : limit < 0 ∨ 65536 < limit) :
    Calls Try.prog 12 #[.int .i64 limit, .slice so n scap] w fun e w' => e = .returned (.tuple #[.pointer none, .agg #[.int .i64 0, .slice none 0 0, .bool false], .bool true]) ∧ Hid (Below w.heap.size w w') := by
  go_enter Try.func12, Try.ntmps12
  go_wp2_with fail
  refine (made_no limit _ h).mono ?_
  rintro e w1 ⟨rfl, b1⟩
  have hp : Pair2 w w.heap.size w1.heap.size (.int .i64 0) (.slice none 0 0) (.bool false) (.int .i64 0) (.slice none 0 0) (.bool false) (w1.alloc (.cells #[.int .i64 0, .slice none 0 0, .bool false] 29)) := by
    have hb : Below w.heap.size w w1 := ((Below.refl _ _).alloc (Nat.le_refl _) _).trans (b1.mono (by simp))
    have hk := Blk.new w 29 #[.int .i64 0, .slice none 0 0, .bool false]
    have hk2 : Blk w1 w.heap.size 29 _ := (b1.block _ hk.lt).trans hk
    exact ⟨hb.alloc hb.size _, hk2.alloc _, Blk.new _ _ _⟩
  have HP := Lib.hid hp
  clear b1 hp h
  go_wp2
  go_loopw [10] (fun i wr => i = .int .i64 0 ∧ Hid (Pair2 w w.heap.size w1.heap.size (.int .i64 0) (.slice none 0 0) (.bool false) (.int .i64 0) (.slice none 0 0) (.bool false) wr)) (fun _ _ => 0)
  case atStart => exact ⟨rfl, HP⟩
  case round =>
    obtain ⟨rfl, HV⟩ := hrel
    clear HP
    obtain ⟨x0, x1, x2, x3, x4, x5, x6, x7, x8, -⟩ := HV.out.cells
    go_wp2_with fail
    go_region
    all_goals
      go_wp2
      refine bodyPost_ret (v := .tuple #[.pointer none, .agg #[.int .i64 0, .slice none 0 0, .bool false], .bool true]) (by simp [results, Try.results12, go_sem, x3, x4, x5]) rfl ?_
      have hm := mod3 wr w.heap.size (.int .i64 0) (.slice none 0 0) (.bool false)
      have hl := below_mod HV.out.bel hm HV.out.bel.size fun i hi e => by omega
      first
        | exact ⟨rfl, Lib.hid hl⟩
        | exact ⟨rfl, Lib.hid hl.drew⟩
end Go.Proofs.Ytbfmfliknhcoeaa
