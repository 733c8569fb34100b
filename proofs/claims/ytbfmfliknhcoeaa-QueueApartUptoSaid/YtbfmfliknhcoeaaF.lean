/- (*Queue).Drain. -/
import Derived.Test.YtbfmfliknhcoeaaE
import Derived.WalkLawsBesides
import Derived.WalkSpells
namespace Go.Proofs.Ytbfmfliknhcoeaa
open Go.RowKit QP

/-- behind some rounds of the loop: what is left of n, of the parts; what the builder holds -/
structure DrainInv (w : World) (b : Nat) (g : Option Nat) (limit : Int) (closed : Bool) (n0 : Int) (ps0 : List Part) (n : Int) (sv : Value) (ps : List Part) (out : List UInt8) (wr : World) : Prop where
  blk : Blk wr b 71 #[.int .i64 limit, .int .i64 (flat ps).length, sv, .bool closed]
  row : Row wr 76 3 sv ps.length (cellsOf ps)
  own : sv.ownBlock = g
  ok : okParts ps
  bld : Lib.IsBuilder 68 5 w.heap.size w.heap.size (Lib.byteCells out) wr
  bytes : out ++ QP.bytes (pDrain n ps).1 = QP.bytes (pDrain n0 ps0).1
  rest : (pDrain n ps).2 = (pDrain n0 ps0).2
  mod : Mod (foot b g) w wr
  le : out.length + (flat ps).length = (flat ps0).length

theorem drain_fin {w wr w5 : World} {b : Nat} {g : Option Nat} {s : St} {n m : Int} {ps qs : List Part} {sv : Value} {out : List UInt8} (h : DrainInv w b g s.limit s.closed n ps m sv qs out wr)
    (hex : pDrain m qs = (ByteArray.empty, qs)) (hb5 : Below w.heap.size wr w5) (hfl : flat ps = s.fl) (hgb : g ≠ some b) (hglt : ∀ k, g = some k → k < w.heap.size) (hbw : b < w.heap.size) :
    ∃ t : ByteArray, Ending.returned (.string ⟨out.toArray⟩) = .returned (.string t) ∧ QP.bytes t = drained s n ∧ QSt w5 b g (drainSt s n) ∧ Mod (foot b g) w w5 := by
  have h1 := h.bytes
  have h2 := h.rest
  rw [hex] at h1 h2
  have h3 := flat_pDrain ps n
  rw [hfl] at h3
  refine ⟨_, rfl, ?_, ⟨sv, qs, ?_, ?_, h.own, hgb, ?_, h.ok⟩, ?_⟩
  · rw [drained, ← h3.1, ← h1]; simp [QP.bytes]
  · have hq : (flat qs).length = (drainSt s n).fl.length := by rw [drainSt]; dsimp only; rw [← h3.2, ← h2]
    rw [← hq]
    exact (hb5.block b hbw).trans h.blk
  · exact h.row.below hb5 fun k hk => hglt k (h.own.symm.trans hk)
  · rw [drainSt]; dsimp only; rw [← h3.2, ← h2]
  · exact h.mod.trans' (F' := fun k => w.heap.size ≤ k) ⟨hb5.os, hb5.tape, hb5.output, hb5.size, fun k _ hn => hb5.block k (by omega)⟩ (fun i hi h => by omega)

theorem builder_far {T e : TypeId} {B k : Nat} {p : Value} {bs : List Value} {w : World} (h : Lib.BuilderAt T e B k p bs w) {a : Addr} (ha : a.block < B) (u : Value) : Lib.BuilderAt T e B k p bs (w.setCell a u) := by
  obtain ⟨h1, v, h2, h3, h4⟩ := h
  exact ⟨h1, v, (Below.heap_setCell w a u k (by omega)).trans h2, ownsRow_setCell_below h3 ha u, h4⟩

theorem bytes_take_all (t : ByteArray) (k : Nat) (h : t.size ≤ k) : QP.bytes (t.extract 0 k) = QP.bytes t := by
  rw [bytes_extract, List.drop_zero, List.take_of_length_le (by rw [bytes_length]; omega)]

section
variable {w wr w1 : World} {b gg off cap k : Nat} {g : Option Nat} {limit : Int} {closed : Bool} {n m : Int} {ps r : List Part} {p : Part} {out : List UInt8}

theorem drain_both (hv : DrainInv w b g limit closed n ps m (.slice (some ⟨gg, off, none⟩) (p :: r).length cap) (p :: r) out wr) (hb1 : Below w.heap.size wr w1)
    (hd : Lib.BuilderAt 68 5 w.heap.size w.heap.size (.pointer (some ⟨w.heap.size, 0, none⟩)) (Lib.byteCells out ++ Lib.strCells (p.text.extract 0 k)) w1) (hgg : gg < w.heap.size) (hbw : b < w.heap.size) (hgb : gg ≠ b) (x y : Value) :
    Blk ((w1.setCell ⟨gg, off + 2, none⟩ x).setCell ⟨b, 1, none⟩ y) b 71 #[.int .i64 limit, y, .slice (some ⟨gg, off, none⟩) (p :: r).length cap, .bool closed] ∧
    Row ((w1.setCell ⟨gg, off + 2, none⟩ x).setCell ⟨b, 1, none⟩ y) 76 3 (.slice (some ⟨gg, off, none⟩) (p :: r).length cap) (p :: r).length ((cellsOf (p :: r)).set 2 x) ∧
    Lib.BuilderAt 68 5 w.heap.size w.heap.size (.pointer (some ⟨w.heap.size, 0, none⟩)) (Lib.byteCells (out ++ QP.bytes (p.text.extract 0 k))) ((w1.setCell ⟨gg, off + 2, none⟩ x).setCell ⟨b, 1, none⟩ y) ∧
    Mod (foot b g) w ((w1.setCell ⟨gg, off + 2, none⟩ x).setCell ⟨b, 1, none⟩ y) := by
  have hg : g = some gg := hv.own.symm
  have hne : (Value.slice (some ⟨gg, off, none⟩) (p :: r).length cap).ownBlock ≠ some b := by rw [hv.own, hg]; intro e; injection e with e; exact hgb e
  have hblk : Blk w1 b 71 _ := (hb1.block b hbw).trans hv.blk
  have hrow := hv.row.below hb1 (by rw [hv.own, hg]; intro j hj; injection hj with hj; omega)
  refine ⟨(hblk.far (p := ⟨gg, off + 2, none⟩) (fun e => hgb e.symm) x).set_ 1 y, (hrow.set_ x).far (p := ⟨b, 1, none⟩) hne y, ?_, ?_⟩
  · rw [Lib.strCells_eq, ← Lib.byteCells_append] at hd
    exact builder_far (builder_far hd (a := ⟨gg, off + 2, none⟩) hgg x) (a := ⟨b, 1, none⟩) hbw y
  · have hm1 : Mod (foot b g) w w1 := hv.mod.trans' (F' := fun j => w.heap.size ≤ j) ⟨hb1.os, hb1.tape, hb1.output, hb1.size, fun j _ hn => hb1.block j (by omega)⟩ (fun i hi h => by omega)
    exact (hm1.setCell (a := ⟨gg, off + 2, none⟩) (.inl (.inr hg)) x).setCell (a := ⟨b, 1, none⟩) (.inl (.inl rfl)) y

theorem drain_last (hv : DrainInv w b g limit closed n ps m (.slice (some ⟨gg, off, none⟩) (p :: r).length cap) (p :: r) out wr) (hb1 : Below w.heap.size wr w1)
    (hd : Lib.BuilderAt 68 5 w.heap.size w.heap.size (.pointer (some ⟨w.heap.size, 0, none⟩)) (Lib.byteCells out ++ Lib.strCells (p.text.extract 0 k)) w1) (hgg : gg < w.heap.size) (hbw : b < w.heap.size) (hgb : gg ≠ b)
    (hk : k = p.text.size) (hkm : (k : Int) ≤ m) (hk0 : 0 < k) (x : Value) :
    DrainInv w b g limit closed n ps (m - k) (.slice (if cap = 1 then some ⟨gg, off, none⟩ else some ⟨gg, off + 3, none⟩) r.length (cap - 1)) r (out ++ QP.bytes (p.text.extract 0 k))
      (((w1.setCell ⟨gg, off + 2, none⟩ x).setCell ⟨b, 1, none⟩ (.int .i64 ((flat (p :: r)).length - k))).setCell ⟨b, 2, none⟩ (.slice (if cap = 1 then some ⟨gg, off, none⟩ else some ⟨gg, off + 3, none⟩) r.length (cap - 1))) := by
  have hg : g = some gg := hv.own.symm
  obtain ⟨h1, h2, h3, h4⟩ := drain_both hv hb1 hd hgg hbw hgb x (.int .i64 ((flat (p :: r)).length - k))
  have hcut := h2.cut (k := 1) (by simp)
  have hL : ((flat (p :: r)).length : Int) - k = (flat r).length := by rw [flat_cons, List.length_append, tagged_length]; omega
  have hsv : (Value.slice (if cap = 1 then some ⟨gg, off, none⟩ else (some (⟨gg, off, none⟩ : Addr)).map (·.add (1 * 3))) ((p :: r).length - 1) (cap - 1)) = .slice (if cap = 1 then some ⟨gg, off, none⟩ else some ⟨gg, off + 3, none⟩) r.length (cap - 1) := by
    simp [add_lit]
  rw [hsv] at hcut
  have hown : (Value.slice (if cap = 1 then some ⟨gg, off, none⟩ else some ⟨gg, off + 3, none⟩) r.length (cap - 1)).ownBlock = some gg := by split <;> rfl
  have hxs : ((cellsOf (p :: r)).set 2 x).drop (1 * 3) = cellsOf r := by simp [cellsOf_cons, partCells]
  rw [hxs] at hcut
  have hps : p.text.size = k := hk.symm
  refine ⟨?_, ?_, hown.trans hg.symm, fun q hq => hv.ok q (by simp [hq]), .inr (builder_far h3 (a := ⟨b, 2, none⟩) hbw _), ?_, ?_, h4.setCell (a := ⟨b, 2, none⟩) (.inl (.inl rfl)) _, ?_⟩
  · have := h1.set_ 2 (.slice (if cap = 1 then some ⟨gg, off, none⟩ else some ⟨gg, off + 3, none⟩) r.length (cap - 1))
    rw [hL] at this ⊢
    exact this
  · exact hcut.far (p := ⟨b, 2, none⟩) (by rw [hown]; intro e; injection e with e; exact hgb e) _
  · have := hv.bytes
    simp only [pDrain, show ¬ m ≤ 0 by omega, if_false, hps, hkm, if_true] at this
    rw [← this, bytes_append, bytes_take_all _ _ (by omega), List.append_assoc]
  · have := hv.rest
    simp only [pDrain, show ¬ m ≤ 0 by omega, if_false, hps, hkm, if_true] at this
    exact this
  · have := hv.le
    rw [flat_cons, List.length_append, tagged_length] at this
    rw [List.length_append, bytes_length, ByteArray.size_extract]
    omega

theorem drain_more (hv : DrainInv w b g limit closed n ps m (.slice (some ⟨gg, off, none⟩) (p :: r).length cap) (p :: r) out wr) (hb1 : Below w.heap.size wr w1)
    (hd : Lib.BuilderAt 68 5 w.heap.size w.heap.size (.pointer (some ⟨w.heap.size, 0, none⟩)) (Lib.byteCells out ++ Lib.strCells (p.text.extract 0 k)) w1) (hgg : gg < w.heap.size) (hbw : b < w.heap.size) (hgb : gg ≠ b)
    (hk : k < p.text.size) (hkm : (k : Int) = m) (hk0 : 0 < k) :
    DrainInv w b g limit closed n ps (m - k) (.slice (some ⟨gg, off, none⟩) (p :: r).length cap) ({ p with text := p.text.extract k p.text.size } :: r) (out ++ QP.bytes (p.text.extract 0 k))
      ((w1.setCell ⟨gg, off + 2, none⟩ (.string (p.text.extract k p.text.size))).setCell ⟨b, 1, none⟩ (.int .i64 ((flat (p :: r)).length - k))) := by
  obtain ⟨h1, h2, h3, h4⟩ := drain_both hv hb1 hd hgg hbw hgb (.string (p.text.extract k p.text.size)) (.int .i64 ((flat (p :: r)).length - k))
  have hfl : (flat ({ p with text := p.text.extract k p.text.size } :: r)).length = p.text.size - k + (flat r).length := by rw [flat_cons, List.length_append, tagged_length]; simp only [ByteArray.size_extract]; omega
  have hL : ((flat (p :: r)).length : Int) - k = ((flat ({ p with text := p.text.extract k p.text.size } :: r)).length : Int) := by rw [hfl, flat_cons, List.length_append, tagged_length]; omega
  have hdr : pDrain m (p :: r) = (p.text.extract 0 k, { p with text := p.text.extract k p.text.size } :: r) := by
    simp only [pDrain, show ¬ m ≤ 0 by omega, show ¬ (p.text.size : Int) ≤ m by omega, if_false]
    rw [← hkm, Int.toNat_natCast]
  refine ⟨?_, h2, hv.own, ?_, .inr h3, ?_, ?_, h4, ?_⟩
  · rw [← hL]; exact h1
  · intro q hq
    rcases List.mem_cons.1 hq with rfl | hq
    · have := hv.ok p (by simp)
      exact ⟨by simp only [ByteArray.size_extract]; omega, this.2.1, this.2.2⟩
    · exact hv.ok q (by simp [hq])
  · rw [pDrain_le _ _ (by omega), ← hv.bytes, hdr]; simp [QP.bytes]
  · rw [pDrain_le _ _ (by omega), ← hv.rest, hdr]
  · have := hv.le
    rw [flat_cons, List.length_append, tagged_length] at this
    rw [hfl, List.length_append, bytes_length, ByteArray.size_extract]
    omega
end

set_option maxHeartbeats 2000000 in
set_option maxRecDepth 100000 in
theorem drain_c (b : Nat) (g : Option Nat) (s : St) (n : Int) (w : World) (h : QSt w b g s) (hs : s.fl.length ≤ 1000000) (hn0 : -9223372036854775808 ≤ n) (hn1 : n ≤ 9223372036854775807) :
    Calls Try.prog 15 #[.pointer (some ⟨b, 0, none⟩), .int .i64 n] w fun e w' =>
      ∃ t : ByteArray, e = .returned (.string t) ∧ QP.bytes t = drained s n ∧ QSt w' b g (drainSt s n) ∧ Mod (foot b g) w w' := by
  obtain ⟨sv, ps, hB, hR, hg, hgb, hfl, hok⟩ := h
  have hblt := hB.lt
  have hglt : ∀ k, g = some k → k < w.heap.size := fun k hk => hR.lt k (hg.trans hk)
  have hinv : DrainInv w b g s.limit s.closed n ps n sv ps [] (w.alloc (.cells #[.pointer none, .slice none 0 0] 68)) := by
    refine ⟨by rw [hfl]; exact hB.alloc _, hR.alloc _, hg, hok, .inl ⟨Nat.le_refl _, .slice none 0 0, heap_alloc_new w _, World.ownsRow_nil _ _ _ _, by simp [Value.ownBlock]⟩, by simp, rfl, (Mod.refl _ w).alloc _, by simp⟩
  have HI := Lib.hid hinv
  rw [← hfl] at hs
  have HF := Lib.hid hfl
  clear hinv hB hR hg hok hfl
  go_enter Try.func15, Try.ntmps15
  go_wp2
  go_loopw [1] (fun v wr => ∃ (m : Int) (sv' : Value) (qs : List Part) (out : List UInt8), v = .int .i64 m ∧ m ≤ n ∧ -9223372036854775808 ≤ m ∧ Hid (DrainInv w b g s.limit s.closed n ps m sv' qs out wr)) (fun v _ => (intOf v).toNat)
  case atStart => exact ⟨n, sv, ps, [], rfl, Int.le_refl _, hn0, HI⟩
  case round =>
    obtain ⟨m, sv', qs, out, rfl, hm1, hm2, HV⟩ := hrel
    have c1 := HV.out.blk.cell 1
    have c2 := HV.out.blk.cell 2
    have f1 := HV.out.blk.frozen 1
    have f2 := HV.out.blk.frozen 2
    simp only [List.getElem?_toArray, List.getElem?_cons_succ, List.getElem?_cons_zero] at c1 c2
    have hblt' := HV.out.blk.lt
    by_cases hm : m ≤ 0
    · have hd : decide (0 < m) = false := by simpa using hm
      go_wp2_with fail
      refine (Try.Builder_String_any w.heap.size w.heap.size out wr HV.out.bld HV.out.mod.size).mono ?_
      rintro e w5 ⟨rfl, hb5⟩
      have HB5 := Lib.hid hb5
      clear hb5
      go_wp2
      go_ret
      exact drain_fin HV.out (pDrain_le m qs hm) HB5.out HF.out hgb hglt hblt
    · have hd : decide (0 < m) = true := by simp; omega
      cases qs with
      | nil =>
        obtain ⟨ao, cap, hv, _⟩ := id HV.out.row
        subst hv
        go_wp2_with fail
        refine (Try.Builder_String_any w.heap.size w.heap.size out wr HV.out.bld HV.out.mod.size).mono ?_
        rintro e w5 ⟨rfl, hb5⟩
        have HB5 := Lib.hid hb5
        clear hb5
        go_wp2
        go_ret
        exact drain_fin HV.out (by simp [pDrain]) HB5.out HF.out hgb hglt hblt
      | cons p r =>
        obtain ⟨gg, off, cap, cur, hv, hnc, hcur, hfit, hcell, hfz⟩ := HV.out.row.at_ (by simp)
        subst hv
        have d2 : wr.cell? ⟨gg, off + 2, none⟩ = some (.string p.text) := hcell 2 _ (by simp [cellsOf, partCells])
        have e2 := hfz (off + 2)
        have hgglt : gg < wr.heap.size := lt_of_heap hcur
        have hps : 0 < p.text.size := (HV.out.ok p (by simp)).1
        have hpb : p.text.size ≤ 1000000 := by
          have h1 := HV.out.le
          rw [flat_cons, List.length_append, tagged_length] at h1
          omega
        clear hcell hfz hcur
        have hgg : gg < w.heap.size := hglt gg (HV.out.own.symm.trans rfl)
        obtain ⟨k, hk⟩ : ∃ k : Nat, min m (p.text.size : Int) = (k : Int) := ⟨(min m (p.text.size : Int)).toNat, by omega⟩
        have hk0 : 0 < k := by omega
        have hks : k ≤ p.text.size := by omega
        have hkm : (k : Int) ≤ m := by omega
        have HK : Hid (min m (p.text.size : Int) = (k : Int)) := Lib.hid hk
        go_wp2_with fail
        have hol := HV.out.le
        rw [flat_cons, List.length_append, tagged_length] at hol
        refine (Try.Builder_WriteString w.heap.size w.heap.size (Lib.byteCells out) (p.text.extract 0 k) wr HV.out.bld (by rw [Lib.byteCells_length]; simp only [ByteArray.size_extract]; omega) HV.out.mod.size).mono ?_
        rintro e w1 ⟨rfl, h1, hb1⟩
        have HB1 := Lib.hid hb1
        have HBD := Lib.hid h1
        have d2' : w1.cell? ⟨gg, off + 2, none⟩ = some (.string p.text) := (hb1.cell (p := ⟨gg, off + 2, none⟩) hgg).trans d2
        have e2' : w1.frozen? ⟨gg, off + 2, none⟩ = false := (hb1.frozen (p := ⟨gg, off + 2, none⟩) hgg).trans e2
        have c1' := (hb1.cell (p := ⟨b, 1, none⟩) hblt).trans c1
        have c2' := (hb1.cell (p := ⟨b, 2, none⟩) hblt).trans c2
        have f1' := (hb1.frozen (p := ⟨b, 1, none⟩) hblt).trans f1
        have f2' := (hb1.frozen (p := ⟨b, 2, none⟩) hblt).trans f2
        have hs1 := hb1.size
        have hgb' : gg ≠ b := fun e => hgb (by rw [← HV.out.own]; simp [Value.ownBlock, e])
        clear h1 hb1 hol
        have hff : (flat (p :: r)).length ≤ 1000000 := by
          have := HV.out.le; omega
        have hkf : (k : Int) ≤ ((flat (p :: r)).length : Int) := by
          rw [flat_cons, List.length_append, tagged_length]; omega
        have hem : (p.text.extract k p.text.size).toList.isEmpty = decide (k = p.text.size) := by
          rw [Lib.toList_data]
          have hl : (QP.bytes (p.text.extract k p.text.size)).length = p.text.size - k := by rw [bytes_length, ByteArray.size_extract]; omega
          unfold QP.bytes at hl
          cases hx : (p.text.extract k p.text.size).data.toList with
          | nil => rw [hx] at hl; simp at hl ⊢; omega
          | cons a l => rw [hx] at hl; simp at hl ⊢; omega
        have HEM := Lib.hid hem
        clear hem
        go_wp2
        · have hend : k = p.text.size := by
            have h := HEM.out
            rename_i h2
            rw [h2] at h
            simpa using h.symm
          refine ⟨⟨m - k, _, r, _, rfl, by omega, by omega, Lib.hid (drain_last HV.out HB1.out HBD.out hgg hblt hgb' hend hkm hk0 _)⟩, by simp [intOf]; omega⟩
        · have hend : k < p.text.size := by
            have h := HEM.out
            rename_i h2
            rw [h2] at h
            have := of_decide_eq_false h.symm
            omega
          have hkm2 : (k : Int) = m := by have := HK.out; omega
          refine ⟨⟨m - k, _, _ :: r, _, rfl, by omega, by omega, Lib.hid (drain_more HV.out HB1.out HBD.out hgg hblt hgb' hend hkm2 hk0)⟩, by simp [intOf]; omega⟩
end Go.Proofs.Ytbfmfliknhcoeaa
