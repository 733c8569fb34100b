/- What a call lays in and gives out, in plain Lean. -/
import Derived.Test.YtbfmfliknhcoeaaZ7
namespace Go.Proofs.Ytbfmfliknhcoeaa
open Go.RowKit QP

theorem lett_tag (p t : Int) (l : List UInt8) : lett (tag p t l) = l := by simp [lett, tag, Function.comp_def]

/-- what a lay does, by its code -/
theorem lay_law (s : St) (p t : Int) (ls : List ByteArray) (most full : Int) (hf : full ≠ 0) :
    (layCode s ls most full ≠ 0 → laySt s p t ls most = s) ∧
    (layCode s ls most full = 0 → lett (laySt s p t ls most).fl = lett s.fl ++ lineBytes ls ∧ s.closed = false ∧ (laySt s p t ls most).closed = false ∧ (ls ≠ [] → ((laySt s p t ls most).fl.length : Int) ≤ most)) ∧
    (layCode s ls most full = 1 ∨ layCode s ls most full = 141 ∨ layCode s ls most full = 0 ∨ (layCode s ls most full = full ∧ (s.fl.length : Int) + (lineBytes ls).length > most)) := by
  by_cases ha : (!ls.all goodLine) = true
  · have e1 : layCode s ls most full = 1 := by unfold layCode; rw [if_pos ha]
    have e2 : laySt s p t ls most = s := by unfold laySt; rw [if_pos ha]
    rw [e1, e2]
    exact ⟨fun _ => rfl, fun h => by omega, .inl rfl⟩
  · by_cases hc : s.closed = true
    · have e1 : layCode s ls most full = 141 := by unfold layCode; rw [if_neg ha, if_pos hc]
      have e2 : laySt s p t ls most = s := by unfold laySt; rw [if_neg ha, if_pos hc]
      rw [e1, e2]
      exact ⟨fun _ => rfl, fun h => by omega, .inr (.inl rfl)⟩
    · have hcf : s.closed = false := by simpa using hc
      by_cases hn : ls = []
      · have e1 : layCode s ls most full = 0 := by unfold layCode; rw [if_neg ha, if_neg hc, if_pos hn]
        have e2 : laySt s p t ls most = s := by unfold laySt; rw [if_neg ha, if_neg hc, if_pos hn]
        rw [e1, e2]
        exact ⟨fun _ => rfl, fun _ => ⟨by rw [hn, lineBytes_nil, List.append_nil], hcf, hcf, fun h => absurd hn h⟩, .inr (.inr (.inl rfl))⟩
      · by_cases hm : (s.fl.length : Int) + (lineBytes ls).length > most
        · have e1 : layCode s ls most full = full := by unfold layCode; rw [if_neg ha, if_neg hc, if_neg hn, if_pos hm]
          have e2 : laySt s p t ls most = s := by unfold laySt; rw [if_neg ha, if_neg hc, if_neg hn, if_pos hm]
          rw [e1, e2]
          exact ⟨fun _ => rfl, fun h => absurd h hf, .inr (.inr (.inr ⟨rfl, hm⟩))⟩
        · have e1 : layCode s ls most full = 0 := by unfold layCode; rw [if_neg ha, if_neg hc, if_neg hn, if_neg hm]
          have e2 : laySt s p t ls most = { s with fl := s.fl ++ tag p t (lineBytes ls) } := by unfold laySt; rw [if_neg ha, if_neg hc, if_neg hn, if_neg hm]
          rw [e1, e2]
          refine ⟨fun h => absurd rfl h, fun _ => ⟨by rw [lett_append, lett_tag], hcf, hcf, fun _ => ?_⟩, .inr (.inr (.inl rfl))⟩
          dsimp only
          rw [List.length_append, tag_length]; omega

structure OpLaw (s : St) (o : Opn) : Prop where
  no : opCode s o ≠ 0 → nextSt s o = s ∧ opOut s o = []
  yes : opCode s o = 0 → lett s.fl ++ lineBytes (takesOf o) = opOut s o ++ lett (nextSt s o).fl
  shut : opCode s o = 0 → s.closed = true → ¬(0 ≤ o.kind ∧ o.kind ≤ 3)
  end3 : opCode s o = 0 → o.kind = 3 → s.closed = false ∧ (nextSt s o).closed = true ∧ (nextSt s o).fl.length = s.fl.length + (lineBytes (takesOf o)).length
  end_ : o.kind ≠ 3 → (nextSt s o).closed = s.closed
  full : opCode s o = 3 → (s.fl.length : Int) + (lineBytes (takesOf o)).length > s.limit
  spare : opCode s o = 140 → (s.fl.length : Int) + (lineBytes (takesOf o)).length > s.limit + 32768
  out2 : opCode s o = 0 → o.kind = 2 → 0 < (lineBytes (takesOf o)).length → ((nextSt s o).fl.length : Int) ≤ s.limit
  lim : (nextSt s o).limit = s.limit

theorem lim_lay (s : St) (p t : Int) (ls : List ByteArray) (most : Int) : (laySt s p t ls most).limit = s.limit := by
  unfold laySt; repeat' split
  all_goals rfl
theorem closed_lay (s : St) (p t : Int) (ls : List ByteArray) (most : Int) : (laySt s p t ls most).closed = s.closed := by
  unfold laySt; repeat' split
  all_goals rfl

theorem op_law_lay {s : St} {o : Opn} {p t most full : Int} {ls : List ByteArray} (hk : o.kind = 0 ∨ o.kind = 1 ∨ o.kind = 2) (e1 : opCode s o = layCode s ls most full) (e2 : opOut s o = []) (e3 : nextSt s o = laySt s p t ls most) (e4 : takesOf o = ls)
    (hf : full = 140 ∧ most = s.limit + 32768 ∧ o.kind ≠ 2 ∨ full = 3 ∧ most = s.limit) : OpLaw s o := by
  obtain ⟨l1, l2, l3⟩ := lay_law s p t ls most full (by rcases hf with h | h <;> omega)
  rw [← e1, ← e3] at l1 l2
  rw [← e1] at l3
  rw [← e4] at l2 l3
  refine ⟨fun h => ⟨l1 h, e2⟩, fun h => ?_, fun h hc => ?_, fun h h3 => ?_, fun _ => ?_, fun h => ?_, fun h => ?_, fun h h2 h0 => ?_, ?_⟩
  · rw [e2, List.nil_append, (l2 h).1]
  · have := (l2 h).2.1
    rw [hc] at this
    cases this
  · omega
  · rw [e3, closed_lay]
  · rcases l3 with l3 | l3 | l3 | ⟨l3, l4⟩
    · omega
    · omega
    · omega
    · rcases hf with ⟨h1, h2, -⟩ | ⟨h1, h2⟩ <;> omega
  · rcases l3 with l3 | l3 | l3 | ⟨l3, l4⟩
    · omega
    · omega
    · omega
    · rcases hf with ⟨h1, h2, -⟩ | ⟨h1, h2⟩ <;> omega
  · have hne : takesOf o ≠ [] := by
      intro e
      rw [e, lineBytes_nil] at h0
      simp at h0
    have := (l2 h).2.2.2 hne
    rcases hf with ⟨h1, h2', h3⟩ | ⟨h1, h2⟩
    · exact absurd h2 h3
    · omega
  · rw [e3, lim_lay]

theorem op_law (s : St) (o : Opn) : OpLaw s o := by
  by_cases h0 : o.kind = 0
  · exact op_law_lay (p := 0) (t := 0) (.inl h0) (by simp [opCode, h0]; rfl) (by simp [opOut, h0]) (by simp [nextSt, h0]; rfl) (by simp [takesOf, h0]) (.inl ⟨rfl, rfl, by omega⟩)
  by_cases h1 : o.kind = 1
  · exact op_law_lay (p := 0) (t := 0) (.inr (.inl h1)) (by simp [opCode, h1]; rfl) (by simp [opOut, h1]) (by simp [nextSt, h1]; rfl) (by simp [takesOf, h1]) (.inl ⟨rfl, rfl, by omega⟩)
  by_cases h2 : o.kind = 2
  · have e1 : opCode s o = outCode s o.pane o.tick o.lines := by simp [opCode, h2]
    have e2 : opOut s o = [] := by simp [opOut, h2]
    have e3 : nextSt s o = outSt s o.pane o.tick o.lines := by simp [nextSt, h2]
    have e4 : takesOf o = o.lines := by simp [takesOf, h2]
    by_cases hb : o.pane < 1 ∨ o.pane > 4611686018427387904 ∨ o.tick < 0
    · have e1' : opCode s o = 1 := by rw [e1, outCode, if_pos hb]
      have e3' : nextSt s o = s := by rw [e3, outSt, if_pos hb]
      exact ⟨fun _ => ⟨e3', e2⟩, fun h => by omega, fun h => by omega, fun h => by omega, fun _ => by rw [e3'], fun h => by omega, fun h => by omega, fun h => by omega, by rw [e3']⟩
    · exact op_law_lay (.inr (.inr h2)) (by rw [e1, outCode, if_neg hb]) e2 (by rw [e3, outSt, if_neg hb]) e4 (.inr ⟨rfl, rfl⟩)
  by_cases h3 : o.kind = 3
  · have e1 : opCode s o = endCode s o.line := by simp [opCode, h3]
    have e2 : opOut s o = [] := by simp [opOut, h3]
    have e3 : nextSt s o = endSt s o.line := by simp [nextSt, h3]
    have e4 : takesOf o = [o.line] := by simp [takesOf, h3]
    have e5 : lineBytes [o.line] = QP.bytes o.line ++ [10] := by simp [lineBytes]
    unfold endCode at e1
    unfold endSt at e3
    by_cases hg : (!goodLine o.line) = true
    · rw [if_pos hg] at e1 e3
      exact ⟨fun _ => ⟨e3, e2⟩, fun h => by omega, fun h => by omega, fun h => by omega, fun _ => by rw [e3], fun h => by omega, fun h => by omega, fun h => by omega, by rw [e3]⟩
    · rw [if_neg hg] at e1 e3
      by_cases hc : s.closed = true
      · rw [if_pos hc] at e1 e3
        exact ⟨fun _ => ⟨e3, e2⟩, fun h => by omega, fun h => by omega, fun h => by omega, fun _ => by rw [e3], fun h => by omega, fun h => by omega, fun h => by omega, by rw [e3]⟩
      · rw [if_neg hc] at e1 e3
        have hcf : s.closed = false := by simpa using hc
        refine ⟨fun h => absurd e1 h, fun _ => ?_, fun _ h => absurd h hc, fun _ _ => ⟨hcf, by rw [e3], ?_⟩, fun h => absurd h3 h, fun h => by omega, fun h => by omega, fun _ h => by omega, by rw [e3]⟩
        · rw [e2, e3, e4, List.nil_append]
          simp only
          rw [lett_append, lett_tag, e5]
        · rw [e3, e4]
          simp only
          rw [List.length_append, tag_length, e5]
  · have e1 : opCode s o = 0 := by simp [opCode, h0, h1, h2, h3]
    have e2 : opOut s o = drained s o.n := by simp [opOut, h0, h1, h2, h3]
    have e3 : nextSt s o = drainSt s o.n := by simp [nextSt, h0, h1, h2, h3]
    have e4 : takesOf o = [] := by simp [takesOf, h0, h1, h2, h3]
    refine ⟨fun h => absurd e1 h, fun _ => ?_, fun _ _ => by omega, fun _ h => absurd h h3, fun _ => by rw [e3]; rfl, fun h => by omega, fun h => by omega, fun _ h => absurd h h2, by rw [e3]; rfl⟩
    rw [e2, e3, e4, lineBytes_nil, List.append_nil]
    unfold drained drainSt
    rw [← lett_append, List.take_append_drop]

theorem lett_length (l : Fl) : (lett l).length = l.length := by simp [lett]
theorem takes_bulk {o : Opn} (h : OkOp o) : (lineBytes (takesOf o)).length ≤ 4000000 := by
  unfold takesOf
  split
  · have := h.line
    simp only [lineBytes_cons, lineBytes_nil, List.length_append, QP.bytes_length, List.length_cons, List.length_nil]
    omega
  · split
    · exact h.bytes
    · simp [lineBytes]

/-- a call's code c, what it gave out t, the state behind it -/
structure OpAft (s : St) (o : Opn) (c : Int) (t : ByteArray) (s' : St) : Prop where
  code : c = opCode s o
  out : QP.bytes t = opOut s o
  st : s' = nextSt s o

theorem called_c {W w : World} {b : Nat} {g : Option Nat} {s : St} {o : Opn} {ao : Option Addr} {cap : Nat} (h : CallIn W w b g s o ao cap) :
    Calls Try.prog 18 #[.pointer (some ⟨b, 0, none⟩), .agg #[.int .i64 o.kind, .string o.line, .slice ao o.lines.length cap, .int .i64 o.pane, .int .i64 o.tick, .int .i64 o.n]] w fun e w' => CallPost W b s o e w' := by
  by_cases h0 : o.kind = 0
  · exact called0 h h0
  by_cases h1 : o.kind = 1
  · exact called1 h h1
  by_cases h2 : o.kind = 2
  · exact called2 h h2
  by_cases h3 : o.kind = 3
  · exact called3 h h3
  exact called4 h h0 h1 h2 h3

theorem called_k {W w : World} {b : Nat} {g : Option Nat} {s : St} {o : Opn} {ao : Option Addr} {cap : Nat} (hown : Hid (Own W w b g s)) (hi : SInv s) (ho : Hid (OkOp o)) (ha : Hid (Rd W 1 (.slice ao o.lines.length cap) o.lines.length (strs o.lines))) :
    Calls Try.prog 18 #[.pointer (some ⟨b, 0, none⟩), .agg #[.int .i64 o.kind, .string o.line, .slice ao o.lines.length cap, .int .i64 o.pane, .int .i64 o.tick, .int .i64 o.n]] w fun e w' =>
      ∃ (c : Int) (t : ByteArray) (g' : Option Nat) (s' : St), e = .returned (.tuple #[.int .i64 c, .string t]) ∧ Hid (OpAft s o c t s') ∧ Hid (Own W w' b g' s') :=
  (called_c ⟨hown.out, hi, ho.out, ha.out⟩).mono fun _ _ ⟨t, g', h1, h2, h3⟩ => ⟨_, t, g', _, h1, Lib.hid ⟨rfl, h2, rfl⟩, Lib.hid h3⟩

theorem takes_k {W w : World} {b : Nat} {g : Option Nat} {s : St} {o : Opn} {ao : Option Addr} {cap : Nat} (hown : Hid (Own W w b g s)) (ha : Hid (Rd W 1 (.slice ao o.lines.length cap) o.lines.length (strs o.lines))) :
    Calls Try.prog 19 #[.agg #[.int .i64 o.kind, .string o.line, .slice ao o.lines.length cap, .int .i64 o.pane, .int .i64 o.tick, .int .i64 o.n]] w fun e w' =>
      ∃ (bo : Option Addr) (bc : Nat) (ls : List ByteArray), e = .returned (.slice bo ls.length bc) ∧ Hid (Rd w' 1 (.slice bo ls.length bc) ls.length (strs ls)) ∧ Hid (Own W w' b g s) ∧ Hid (ls = takesOf o) :=
  (takes_c o ao cap w (ha.out.kept (by decide) hown.out.bel)).mono fun _ _ ⟨bo, bc, h1, h2, h3⟩ => ⟨bo, bc, _, h1, h2, Lib.hid (hown.out.below h3.out), Lib.hid rfl⟩

/-! ### QueueBytes, in plain Lean -/
structure BInv (s : St) (ti to : ByteArray) (k : Nat) : Prop where
  inv : SInv s
  eq : QP.bytes ti = QP.bytes to ++ lett s.fl
  sz : ti.size ≤ k * 4000000
theorem BInv.len {s : St} {ti to : ByteArray} {k : Nat} (h : BInv s ti to k) : ti.size = to.size + s.fl.length := by
  have := congrArg List.length h.eq
  rw [List.length_append, lett_length, bytes_length, bytes_length] at this
  exact this
theorem BInv.big {s : St} {ti to : ByteArray} {k : Nat} (h : BInv s ti to k) (hk : k ≤ 1048576) : ti.size ≤ 4194304000000 :=
  Nat.le_trans h.sz (Nat.le_trans (Nat.mul_le_mul_right _ hk) (by decide))
theorem BInv.no {s s' : St} {o : Opn} {c : Int} {t ti to : ByteArray} {k : Nat} (h : BInv s ti to k) (ha : OpAft s o c t s') (hc : c ≠ 0) : BInv s' ti (to ++ t) (k + 1) := by
  obtain ⟨h1, h2⟩ := (op_law s o).no (by rw [← ha.code]; exact hc)
  have hs := ha.st.trans h1
  subst hs
  exact ⟨h.inv, by rw [bytes_append, ha.out, h2, List.append_nil]; exact h.eq, Nat.le_trans h.sz (Nat.mul_le_mul_right _ (Nat.le_succ k))⟩
theorem BInv.yes {s s' : St} {o : Opn} {c : Int} {t ti ti' to : ByteArray} {k : Nat} (h : BInv s ti to k) (ha : OpAft s o c t s') (hc : c = 0) (ho : OkOp o) (ht : QP.bytes ti' = QP.bytes ti ++ lineBytes (takesOf o)) : BInv s' ti' (to ++ t) (k + 1) := by
  have h1 := (op_law s o).yes (by rw [← ha.code]; exact hc)
  have hs := ha.st
  subst hs
  refine ⟨h.inv.next o, ?_, ?_⟩
  · rw [ht, bytes_append, ha.out, h.eq, List.append_assoc, h1, List.append_assoc]
  · have h2 := congrArg List.length ht
    rw [List.length_append, bytes_length, bytes_length] at h2
    have := takes_bulk ho
    have := h.sz
    omega
theorem op_out_le (s : St) (o : Opn) : (opOut s o).length ≤ s.fl.length := by
  unfold opOut
  split
  · simp
  · unfold drained
    rw [lett_length, List.length_take]; omega
theorem OpAft.size {s s' : St} {o : Opn} {c : Int} {t : ByteArray} (h : OpAft s o c t s') : t.size ≤ s.fl.length := by
  have := op_out_le s o
  rw [← h.out, bytes_length] at this
  exact this
end Go.Proofs.Ytbfmfliknhcoeaa
