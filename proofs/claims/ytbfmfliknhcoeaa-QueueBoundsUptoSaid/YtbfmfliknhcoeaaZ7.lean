/- The laws' takes and called. -/
import Derived.Test.YtbfmfliknhcoeaaZ4
namespace Go.Proofs.Ytbfmfliknhcoeaa
open Go.RowKit QP

/-- what a call lays in, if it is answered with OK -/
def takesOf (o : Opn) : List ByteArray := if o.kind = 0 ∨ o.kind = 3 then [o.line] else if o.kind = 1 ∨ o.kind = 2 then o.lines else []
def opCode (s : St) (o : Opn) : Int :=
  if o.kind = 0 then putCode s [o.line] else if o.kind = 1 then putCode s o.lines else if o.kind = 2 then outCode s o.pane o.tick o.lines else if o.kind = 3 then endCode s o.line else 0
def opOut (s : St) (o : Opn) : List UInt8 := if o.kind = 0 ∨ o.kind = 1 ∨ o.kind = 2 ∨ o.kind = 3 then [] else drained s o.n

set_option maxHeartbeats 1000000 in
set_option maxRecDepth 100000 in
theorem takes_c (o : Opn) (ao : Option Addr) (cap : Nat) (w : World) (ha : Rd w 1 (.slice ao o.lines.length cap) o.lines.length (strs o.lines)) :
    Calls Try.prog 19 #[.agg #[.int .i64 o.kind, .string o.line, .slice ao o.lines.length cap, .int .i64 o.pane, .int .i64 o.tick, .int .i64 o.n]] w fun e w' =>
      ∃ (bo : Option Addr) (bc : Nat), e = .returned (.slice bo (takesOf o).length bc) ∧ Hid (Rd w' 1 (.slice bo (takesOf o).length bc) (takesOf o).length (strs (takesOf o))) ∧ Hid (Below w.heap.size w w') := by
  have HA := Lib.hid ha
  have HB := Lib.hid ((Below.refl w.heap.size w).alloc (Nat.le_refl _) (.cells #[.int .i64 o.kind, .string o.line, .slice ao o.lines.length cap, .int .i64 o.pane, .int .i64 o.tick, .int .i64 o.n] 25))
  clear ha
  by_cases h0 : o.kind = 0
  · have ht : takesOf o = [o.line] := by simp [takesOf, h0]
    have q0 : (o.kind == 0) = true := by rw [h0]; rfl
    clear h0
    rw [ht]
    clear ht
    go_enter Try.func19, Try.ntmps19
    go_wp2
    go_ret
    exact ⟨some ⟨w.heap.size + 1, 0, none⟩, 1, rfl, Lib.hid (Rd.box #[.string o.line] 9 1 1 (w.heap.size + 1) (by simp) rfl), Lib.hid (HB.out.alloc HB.out.size _)⟩
  · have q0 : (o.kind == 0) = false := by simpa using h0
    by_cases h3 : o.kind = 3
    · have ht : takesOf o = [o.line] := by simp [takesOf, h3]
      have q3 : (o.kind == 3) = true := by rw [h3]; rfl
      clear h0 h3
      rw [ht]
      clear ht
      go_enter Try.func19, Try.ntmps19
      go_wp2
      go_ret
      exact ⟨some ⟨w.heap.size + 1, 0, none⟩, 1, rfl, Lib.hid (Rd.box #[.string o.line] 9 1 1 (w.heap.size + 1) (by simp) rfl), Lib.hid (HB.out.alloc HB.out.size _)⟩
    · have q3 : (o.kind == 3) = false := by simpa using h3
      by_cases h1 : o.kind = 1
      · have ht : takesOf o = o.lines := by simp [takesOf, h1]
        have q1 : (o.kind == 1) = true := by rw [h1]; rfl
        clear h0 h1 h3
        rw [ht]
        clear ht
        go_enter Try.func19, Try.ntmps19
        go_wp2
        go_ret
        exact ⟨ao, cap, rfl, Lib.hid (HA.out.alloc _), HB⟩
      · have q1 : (o.kind == 1) = false := by simpa using h1
        by_cases h2 : o.kind = 2
        · have ht : takesOf o = o.lines := by simp [takesOf, h2]
          have q2 : (o.kind == 2) = true := by rw [h2]; rfl
          clear h0 h1 h2 h3
          rw [ht]
          clear ht
          go_enter Try.func19, Try.ntmps19
          go_wp2
          go_ret
          exact ⟨ao, cap, rfl, Lib.hid (HA.out.alloc _), HB⟩
        · have q2 : (o.kind == 2) = false := by simpa using h2
          have ht : takesOf o = [] := by simp [takesOf, h0, h1, h2, h3]
          clear h0 h1 h2 h3
          rw [ht]
          clear ht
          go_enter Try.func19, Try.ntmps19
          go_wp2
          go_ret
          exact ⟨none, 0, rfl, Lib.hid (Rd.nil _ _), HB⟩
/-- what 'called' needs -/
structure CallIn (W w : World) (b : Nat) (g : Option Nat) (s : St) (o : Opn) (ao : Option Addr) (cap : Nat) : Prop where
  own : Own W w b g s
  inv : SInv s
  ok : OkOp o
  arg : Rd W 1 (.slice ao o.lines.length cap) o.lines.length (strs o.lines)

structure CallPost (W : World) (b : Nat) (s : St) (o : Opn) (e : Ending) (w' : World) : Prop where
  ok : ∃ (t : ByteArray) (g' : Option Nat), e = .returned (.tuple #[.int .i64 (opCode s o), .string t]) ∧ QP.bytes t = opOut s o ∧ Own W w' b g' (nextSt s o)

section
variable {W w w1 : World} {b : Nat} {g : Option Nat} {s : St} {o : Opn} {ao : Option Addr} {cap : Nat}
theorem CallIn.box (h : CallIn W w b g s o ao cap) (ob : Obj) : CallIn W (w.alloc ob) b g s o ao cap := ⟨h.own.alloc ob, h.inv, h.ok, h.arg⟩
theorem Blk.below_ {w w1 : World} {k : Nat} {t : TypeId} {cs : Array Value} (h : Blk w k t cs) (hb : Below w.heap.size w w1) : Blk w1 k t cs := (hb.block _ h.lt).trans h
theorem box_three {w1 w2 : World} {k : Nat} {a0 a1 a2 a3 a4 a5 : Value} (h : Hid (Blk w1 k 25 #[a0, a1, a2, a3, a4, a5])) (hb : Below w1.heap.size w1 w2) : w2.cell? ⟨k, 2, none⟩ = some a2 ∧ w2.cell? ⟨k, 3, none⟩ = some a3 ∧ w2.cell? ⟨k, 4, none⟩ = some a4 :=
  ⟨(h.out.below_ hb).cell 2, (h.out.below_ hb).cell 3, (h.out.below_ hb).cell 4⟩
theorem CallIn.rd (h : CallIn W w b g s o ao cap) : Rd w 1 (.slice ao o.lines.length cap) o.lines.length (strs o.lines) := h.arg.kept (by decide) h.own.bel

set_option maxHeartbeats 1000000 in
set_option maxRecDepth 100000 in
theorem called0 (h : CallIn W w b g s o ao cap) (hk : o.kind = 0) : Calls Try.prog 18 #[.pointer (some ⟨b, 0, none⟩), .agg #[.int .i64 o.kind, .string o.line, .slice ao o.lines.length cap, .int .i64 o.pane, .int .i64 o.tick, .int .i64 o.n]] w fun e w' => CallPost W b s o e w' := by
  have h1 : opCode s o = putCode s [o.line] := by simp [opCode, hk]
  have h2 : opOut s o = [] := by simp [opOut, hk]
  have h3 : nextSt s o = putSt s [o.line] := by simp [nextSt, hk]
  have q0 : (o.kind == 0) = true := by rw [hk]; rfl
  have H1 := Lib.hid h1
  have H2 := Lib.hid h2
  have H3 := Lib.hid h3
  have HI := Lib.hid (h.box (.cells #[.int .i64 o.kind, .string o.line, .slice ao o.lines.length cap, .int .i64 o.pane, .int .i64 o.tick, .int .i64 o.n] 25))
  clear h h1 h2 h3 hk
  go_enter Try.func18, Try.ntmps18
  go_wp2_with fail
  refine (put_c b g s o.line _ HI.out.own.q HI.out.inv.fits HI.out.ok.line).mono ?_
  rintro e w1 ⟨rfl, g', q1, n1, m1⟩
  have HO := Lib.hid (HI.out.own.next q1 n1 m1)
  clear q1 n1 m1
  go_wp2
  go_ret2
  exact ⟨⟨#[]⟩, g', by rw [H1.out]; rfl, by rw [H2.out]; rfl, by rw [H3.out]; exact HO.out⟩
set_option maxHeartbeats 1000000 in
set_option maxRecDepth 100000 in
theorem called3 (h : CallIn W w b g s o ao cap) (hk : o.kind = 3) : Calls Try.prog 18 #[.pointer (some ⟨b, 0, none⟩), .agg #[.int .i64 o.kind, .string o.line, .slice ao o.lines.length cap, .int .i64 o.pane, .int .i64 o.tick, .int .i64 o.n]] w fun e w' => CallPost W b s o e w' := by
  have h1 : opCode s o = endCode s o.line := by simp [opCode, hk]
  have h2 : opOut s o = [] := by simp [opOut, hk]
  have h3 : nextSt s o = endSt s o.line := by simp [nextSt, hk]
  have q0 : (o.kind == 0) = false := by rw [hk]; rfl
  have q1 : (o.kind == 1) = false := by rw [hk]; rfl
  have q2 : (o.kind == 2) = false := by rw [hk]; rfl
  have q3 : (o.kind == 3) = true := by rw [hk]; rfl
  have H1 := Lib.hid h1
  have H2 := Lib.hid h2
  have H3 := Lib.hid h3
  have HI := Lib.hid (h.box (.cells #[.int .i64 o.kind, .string o.line, .slice ao o.lines.length cap, .int .i64 o.pane, .int .i64 o.tick, .int .i64 o.n] 25))
  clear h h1 h2 h3 hk
  go_enter Try.func18, Try.ntmps18
  go_wp2_with fail
  refine (end_c b g s o.line _ HI.out.own.q HI.out.inv.fits).mono ?_
  rintro e w1 ⟨rfl, g', q1, n1, m1⟩
  have HO := Lib.hid (HI.out.own.next q1 n1 m1)
  clear q1 n1 m1
  go_wp2
  go_ret2
  exact ⟨⟨#[]⟩, g', by rw [H1.out]; rfl, by rw [H2.out]; rfl, by rw [H3.out]; exact HO.out⟩

set_option maxHeartbeats 1000000 in
set_option maxRecDepth 100000 in
theorem called4 (h : CallIn W w b g s o ao cap) (hk0 : o.kind ≠ 0) (hk1 : o.kind ≠ 1) (hk2 : o.kind ≠ 2) (hk3 : o.kind ≠ 3) : Calls Try.prog 18 #[.pointer (some ⟨b, 0, none⟩), .agg #[.int .i64 o.kind, .string o.line, .slice ao o.lines.length cap, .int .i64 o.pane, .int .i64 o.tick, .int .i64 o.n]] w fun e w' => CallPost W b s o e w' := by
  have h1 : opCode s o = 0 := by simp [opCode, hk0, hk1, hk2, hk3]
  have h2 : opOut s o = drained s o.n := by simp [opOut, hk0, hk1, hk2, hk3]
  have h3 : nextSt s o = drainSt s o.n := by simp [nextSt, hk0, hk1, hk2, hk3]
  have q0 : (o.kind == 0) = false := by simpa using hk0
  have q1 : (o.kind == 1) = false := by simpa using hk1
  have q2 : (o.kind == 2) = false := by simpa using hk2
  have q3 : (o.kind == 3) = false := by simpa using hk3
  have H1 := Lib.hid h1
  have H2 := Lib.hid h2
  have H3 := Lib.hid h3
  have HI := Lib.hid (h.box (.cells #[.int .i64 o.kind, .string o.line, .slice ao o.lines.length cap, .int .i64 o.pane, .int .i64 o.tick, .int .i64 o.n] 25))
  clear h h1 h2 h3 hk0 hk1 hk2 hk3
  go_enter Try.func18, Try.ntmps18
  go_wp2_with fail
  refine (drain_c b g s o.n _ HI.out.own.q (by have := HI.out.inv.fits.len; omega) HI.out.ok.n0 HI.out.ok.n1).mono ?_
  rintro e w1 ⟨td, rfl, ht, q1, m1⟩
  have HO := Lib.hid (HI.out.own.next q1 (.inl rfl) m1)
  have HT := Lib.hid ht
  clear q1 m1 ht
  go_wp2
  go_ret2
  exact ⟨td, g, by rw [H1.out]; rfl, by rw [H2.out]; exact HT.out, by rw [H3.out]; exact HO.out⟩

set_option maxHeartbeats 1000000 in
set_option maxRecDepth 100000 in
theorem called1 (h : CallIn W w b g s o ao cap) (hk : o.kind = 1) : Calls Try.prog 18 #[.pointer (some ⟨b, 0, none⟩), .agg #[.int .i64 o.kind, .string o.line, .slice ao o.lines.length cap, .int .i64 o.pane, .int .i64 o.tick, .int .i64 o.n]] w fun e w' => CallPost W b s o e w' := by
  have h1 : opCode s o = putCode s o.lines := by simp [opCode, hk]
  have h2 : opOut s o = [] := by simp [opOut, hk]
  have h3 : nextSt s o = putSt s o.lines := by simp [nextSt, hk]
  have q0 : (o.kind == 0) = false := by rw [hk]; rfl
  have q1 : (o.kind == 1) = true := by rw [hk]; rfl
  have H1 := Lib.hid h1
  have H2 := Lib.hid h2
  have H3 := Lib.hid h3
  have HI := Lib.hid (h.box (.cells #[.int .i64 o.kind, .string o.line, .slice ao o.lines.length cap, .int .i64 o.pane, .int .i64 o.tick, .int .i64 o.n] 25))
  clear h h1 h2 h3 hk
  go_enter Try.func18, Try.ntmps18
  go_wp2_with fail
  refine (lists_c o.lines ao cap _ HI.out.rd HI.out.ok.count).mono ?_
  rintro e w2 ⟨lo, lc, rfl, hl1, hl2, hl3⟩
  have HO2 := Lib.hid (HI.out.own.below hl3)
  have HL2 := Lib.hid hl1
  clear hl1 hl2 hl3
  go_wp2_with fail
  refine (putAll_c b g s o.lines lo lc _ HO2.out.q HI.out.inv.fits HL2.out.rd HI.out.ok.bytes HI.out.ok.count).mono ?_
  rintro e w1 ⟨rfl, g', q1, n1, m1⟩
  have HO := Lib.hid (HO2.out.next q1 n1 m1)
  clear q1 n1 m1
  go_wp2
  go_ret2
  exact ⟨⟨#[]⟩, g', by rw [H1.out]; rfl, by rw [H2.out]; rfl, by rw [H3.out]; exact HO.out⟩

set_option maxHeartbeats 1000000 in
set_option maxRecDepth 100000 in
theorem called2 (h : CallIn W w b g s o ao cap) (hk : o.kind = 2) : Calls Try.prog 18 #[.pointer (some ⟨b, 0, none⟩), .agg #[.int .i64 o.kind, .string o.line, .slice ao o.lines.length cap, .int .i64 o.pane, .int .i64 o.tick, .int .i64 o.n]] w fun e w' => CallPost W b s o e w' := by
  have h1 : opCode s o = outCode s o.pane o.tick o.lines := by simp [opCode, hk]
  have h2 : opOut s o = [] := by simp [opOut, hk]
  have h3 : nextSt s o = outSt s o.pane o.tick o.lines := by simp [nextSt, hk]
  have q0 : (o.kind == 0) = false := by rw [hk]; rfl
  have q1 : (o.kind == 1) = false := by rw [hk]; rfl
  have q2 : (o.kind == 2) = true := by rw [hk]; rfl
  have H1 := Lib.hid h1
  have H2 := Lib.hid h2
  have H3 := Lib.hid h3
  have HI := Lib.hid (h.box (.cells #[.int .i64 o.kind, .string o.line, .slice ao o.lines.length cap, .int .i64 o.pane, .int .i64 o.tick, .int .i64 o.n] 25))
  clear h h1 h2 h3 hk
  go_enter Try.func18, Try.ntmps18
  go_wp2_with fail
  have HID := Lib.hid (⟨HI.out.own.drewN 1, HI.out.inv, HI.out.ok, HI.out.arg⟩ : CallIn W ((w.alloc (.cells #[.int .i64 o.kind, .string o.line, .slice ao o.lines.length cap, .int .i64 o.pane, .int .i64 o.tick, .int .i64 o.n] 25)).drew) b g s o ao cap)
  have HBX := Lib.hid ((Blk.new w 25 #[.int .i64 o.kind, .string o.line, .slice ao o.lines.length cap, .int .i64 o.pane, .int .i64 o.tick, .int .i64 o.n]).drew)
  go_region_with (first
    | (go_at_call 25; with_reducible refine (lists_c o.lines ao cap _ HID.out.rd HID.out.ok.count).mono ?_; rintro e w2 ⟨lo, lc, rfl, hl1, hl2, hl3⟩; have HO2 := Lib.hid (HID.out.own.below hl3); have HL2 := Lib.hid hl1; obtain ⟨x2, x3, x4⟩ := box_three HBX hl3; clear hl1 hl2 hl3)
    | (go_at_call 30; with_reducible refine (out_c b g s o.pane o.tick o.lines lo lc _ HO2.out.q HID.out.inv.fits HL2.out.rd HID.out.ok.bytes HID.out.ok.count).mono ?_; rintro e w1 ⟨rfl, g', q1, n1, m1⟩))
  all_goals
    have HO := Lib.hid (HO2.out.next q1 n1 m1)
    clear q1 n1 m1
    go_wp2
    go_ret2
    exact ⟨⟨#[]⟩, g', by rw [H1.out]; rfl, by rw [H2.out]; rfl, by rw [H3.out]; exact HO.out⟩

end
end Go.Proofs.Ytbfmfliknhcoeaa
