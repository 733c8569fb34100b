/- The laws' step: one call to both, walked. -/
import Derived.Test.YtbfmfliknhcoeaaU
namespace Go.Proofs.Ytbfmfliknhcoeaa
open Go.RowKit QP

structure StepPost (w : World) (b : Nat) (g r : Option Nat) (s' : St) (e : Ending) (w' : World) : Prop where
  ok : ∃ v' r' g', e = .returned (.tuple #[v', .bool true]) ∧ QSt w' b g' s' ∧ RSt w' r' v' s' ∧ NewG w g g' ∧ NewR w r r' ∧ (∀ k, r' = some k → k ≠ b ∧ g' ≠ some k) ∧ Mod (foot b g) w w'

theorem Mid.fin {w w1 : World} {b : Nat} {g g' r r' : Option Nat} {s' : St} {v0 v1 v2 : Value} {oc : Array Value} {lv av : Value} {ls : List ByteArray} {i : Nat} (h : Mid w b g g' r r' s' v0 v1 v2 oc lv av ls i w1) (u0 u1 u2 : Value) :
    StepPost w b g r s' (.returned (.tuple #[.agg #[v0, v1, v2], .bool true])) (((w1.setCell ⟨w.heap.size + 2, 0, none⟩ u0).setCell ⟨w.heap.size + 2, 1, none⟩ u1).setCell ⟨w.heap.size + 2, 2, none⟩ u2) := by
  have hm := mod3 w1 (w.heap.size + 2) u0 u1 u2
  have hs := h.three.size
  obtain ⟨_, _, _, _, _, hrlt, _⟩ := id h.rr
  have hb2 := h.three.b3.lt
  refine ⟨_, r', g', rfl, h.q.mod hm fun k hk e => ?_, h.rr.mod hm fun k hk e => ?_, h.ng, h.nr, h.off, ((h.three.mod.setCell (a := ⟨w.heap.size + 2, 0, none⟩) (.inr (by simp)) _).setCell (a := ⟨w.heap.size + 2, 1, none⟩) (.inr (by simp)) _).setCell (a := ⟨w.heap.size + 2, 2, none⟩) (.inr (by simp)) _⟩
  · subst e
    exact h.safe (.inl hk)
  · subst e
    exact h.safe (.inr hk)
theorem Mid.drewN {w w1 : World} {b : Nat} {g g' r r' : Option Nat} {s' : St} {v0 v1 v2 : Value} {oc : Array Value} {lv av : Value} {ls : List ByteArray} {i : Nat} (h : Mid w b g g' r r' s' v0 v1 v2 oc lv av ls i w1) (n : Nat) :
    Mid w b g g' r r' s' v0 v1 v2 oc lv av ls i (w1.drewN n) := by
  have hb : Below w1.heap.size w1 (w1.drewN n) := below_drewN (Below.refl _ _) n
  obtain ⟨ys, h1, h2⟩ := h.row
  exact ⟨h.three.below hb, h.q.below hb, h.rr.below hb, ⟨ys, h1.drewN n, h2⟩, h.arg.drewN n, h.own, h.argLt, h.ng, h.nr, h.off, h.bw, h.safe⟩

structure StepIn (w : World) (b : Nat) (g r : Option Nat) (v : Value) (s : St) (o : Opn) (ao : Option Addr) (cap : Nat) : Prop where
  q : QSt w b g s
  rr : RSt w r v s
  fit : Fits s
  ok : OkOp o
  arg : Rd w 1 (.slice ao o.lines.length cap) o.lines.length (strs o.lines)
  off : ∀ k, r = some k → k ≠ b ∧ g ≠ some k
  argOff : 0 < o.lines.length → ∀ k, (Value.slice ao o.lines.length cap).ownBlock = some k → k ≠ b ∧ g ≠ some k

theorem Mid.cells {w w1 : World} {b : Nat} {g g' r r' : Option Nat} {s' : St} {v0 v1 v2 : Value} {oc : Array Value} {lv av : Value} {ls : List ByteArray} {i : Nat} (h : Mid w b g g' r r' s' v0 v1 v2 oc lv av ls i w1) :
    w1.cell? ⟨w.heap.size, 0, none⟩ = some v0 ∧ w1.cell? ⟨w.heap.size, 1, none⟩ = some v1 ∧ w1.cell? ⟨w.heap.size, 2, none⟩ = some v2 ∧ w1.cell? ⟨w.heap.size + 1, 2, none⟩ = oc[2]? ∧
    w1.cell? ⟨w.heap.size + 2, 0, none⟩ = some (.int .i64 0) ∧ w1.cell? ⟨w.heap.size + 2, 1, none⟩ = some (.slice none 0 0) ∧ w1.cell? ⟨w.heap.size + 2, 2, none⟩ = some (.bool false) ∧
    w1.frozen? ⟨w.heap.size + 2, 0, none⟩ = false ∧ w1.frozen? ⟨w.heap.size + 2, 1, none⟩ = false ∧ w1.frozen? ⟨w.heap.size + 2, 2, none⟩ = false :=
  ⟨h.three.b1.cell 0, h.three.b1.cell 1, h.three.b1.cell 2, h.three.b2.cell 2, h.three.b3.cell 0, h.three.b3.cell 1, h.three.b3.cell 2, h.three.b3.frozen 0, h.three.b3.frozen 1, h.three.b3.frozen 2⟩
theorem Three.cells {w w1 : World} {b : Nat} {g : Option Nat} {v0 v1 v2 : Value} {o0 o1 o2 o3 o4 o5 : Value} (h : Three b g w v0 v1 v2 #[o0, o1, o2, o3, o4, o5] w1) :
    w1.cell? ⟨w.heap.size, 0, none⟩ = some v0 ∧ w1.cell? ⟨w.heap.size, 1, none⟩ = some v1 ∧ w1.cell? ⟨w.heap.size, 2, none⟩ = some v2 ∧
    w1.cell? ⟨w.heap.size + 1, 0, none⟩ = some o0 ∧ w1.cell? ⟨w.heap.size + 1, 1, none⟩ = some o1 ∧ w1.cell? ⟨w.heap.size + 1, 2, none⟩ = some o2 ∧ w1.cell? ⟨w.heap.size + 1, 3, none⟩ = some o3 ∧ w1.cell? ⟨w.heap.size + 1, 4, none⟩ = some o4 ∧ w1.cell? ⟨w.heap.size + 1, 5, none⟩ = some o5 ∧
    w1.frozen? ⟨w.heap.size, 0, none⟩ = false ∧ w1.frozen? ⟨w.heap.size, 1, none⟩ = false ∧ w1.frozen? ⟨w.heap.size, 2, none⟩ = false :=
  ⟨h.b1.cell 0, h.b1.cell 1, h.b1.cell 2, h.b2.cell 0, h.b2.cell 1, h.b2.cell 2, h.b2.cell 3, h.b2.cell 4, h.b2.cell 5, h.b1.frozen 0, h.b1.frozen 1, h.b1.frozen 2⟩

theorem below3 (w : World) (o1 o2 o3 : Obj) : Below w.heap.size w (((w.alloc o1).alloc o2).alloc o3) := (((Below.refl _ _).alloc (Nat.le_refl _) _).alloc (by simp) _).alloc (by simp; omega) _

set_option maxHeartbeats 4000000 in
set_option maxRecDepth 100000 in
theorem step0_c (b : Nat) (g r : Option Nat) (v : Value) (s : St) (o : Opn) (ao : Option Addr) (cap : Nat) (w : World) (h : StepIn w b g r v s o ao cap) (hk : o.kind = 0) :
    Calls Try.prog 13 #[.pointer (some ⟨b, 0, none⟩), v, opVal o ao cap] w fun e w' => StepPost w b g r (nextSt s o) e w' := by
  obtain ⟨sv, ps, hv, hR, -⟩ := id h.rr
  obtain ⟨bo, bcap, hsv⟩ := hR.shape
  subst hsv
  subst hv
  have hns : nextSt s o = putSt s [o.line] := by simp [nextSt, hk]
  have hd0 : (o.kind == 0) = true := by rw [hk]; rfl
  clear hk
  rw [hns]
  clear hns hR
  have HF := Lib.hid (foot_lt h.q)
  have HI := Lib.hid h
  clear h
  have HT := Lib.hid (Three.start b g w (.int .i64 s.limit) (.slice bo ps.length bcap) (.bool s.closed) #[.int .i64 o.kind, .string o.line, .slice ao o.lines.length cap, .int .i64 o.pane, .int .i64 o.tick, .int .i64 o.n])
  obtain ⟨c0, c1, c2, k0, k1, k2, k3, k4, k5, f0, f1, f2⟩ := HT.out.cells
  unfold opVal
  go_enter Try.func13, Try.ntmps13
  go_wp2_with fail
  refine (lists_c o.lines ao cap _ (HI.out.arg.mod0 HT.out.mod (fun hn k hk e => e.elim (HI.out.argOff hn k hk).1 (HI.out.argOff hn k hk).2)) HI.out.ok.count).mono ?_
  rintro e w1 ⟨lo, lc, rfl, hl1, hl2, hl3⟩
  have HT1 := Lib.hid (HT.out.below hl3)
  have HL1 := Lib.hid hl1
  have hlo : ∀ k, (Value.slice lo o.lines.length lc).ownBlock = some k → w.heap.size + 3 ≤ k := fun k hk => Nat.le_trans HT.out.size (hl2 k hk)
  have HLO := Lib.hid hlo
  have hq1 : QSt w1 b g s := (HI.out.q.below (Below.refl _ _ |>.trans (below3 w _ _ _))).below hl3
  have HQ1 := Lib.hid hq1
  clear hl1 hl2 hl3 hlo hq1 c0 c1 c2 k0 k1 k2 k3 k4 k5 f0 f1 f2 HT
  obtain ⟨c0, c1, c2, k0, k1, k2, k3, k4, k5, f0, f1, f2⟩ := HT1.out.cells
  go_wp2_with fail
  refine (put_c b g s o.line _ HQ1.out HI.out.fit HI.out.ok.line).mono ?_
  rintro e w2 ⟨rfl, g', q1, n1, m1⟩
  have HN1 := Lib.hid n1
  have HM1 := Lib.hid m1
  have HQ2 := Lib.hid q1
  have HT2 := Lib.hid (HT1.out.step m1 HF.out)
  have hr2 : RSt w2 r _ s := HI.out.rr.mod HT2.out.mod fun k hk e => e.elim (HI.out.off k hk).1 (HI.out.off k hk).2
  have HR2 := Lib.hid hr2
  have ha2 := HI.out.arg.mod0 HT2.out.mod fun hn k hk e => e.elim (HI.out.argOff hn k hk).1 (HI.out.argOff hn k hk).2
  have HA2 := Lib.hid ha2
  clear q1 m1 hr2 ha2 c0 c1 c2 k0 k1 k2 k3 k4 k5 f0 f1 f2 n1
  obtain ⟨c0, c1, c2, k0, k1, k2, k3, k4, k5, f0, f1, f2⟩ := HT2.out.cells
  go_wp2_with fail
  refine (rput_c r _ s o.line _ HR2.out HI.out.fit HI.out.ok.line).mono ?_
  rintro e w3 ⟨v', r', rfl, q2, n2, b2⟩
  have HN2 := Lib.hid n2
  obtain ⟨sv3, ps3, hv3, hR3, -⟩ := id q2
  obtain ⟨bo3, bcap3, hsv3⟩ := hR3.shape
  subst hsv3
  subst hv3
  have HB2 := Lib.hid b2
  have HQ3 := Lib.hid q2
  clear q2 n2 b2 hR3 c0 c1 c2 k0 k1 k2 k3 k4 k5 f0 f1 f2
  have HT3 := Lib.hid (HT2.out.below HB2.out)
  obtain ⟨c0, c1, c2, k0, k1, k2, k3, k4, k5, f0, f1, f2⟩ := HT3.out.cells
  have HM := Lib.hid (Mid.make HI.out.q HI.out.rr HI.out.off HI.out.arg HI.out.argOff HT1.out HL1.out HLO.out HQ2.out HN1.out HM1.out HQ3.out HN2.out HB2.out)
  clear HQ1 HL1 HLO HT1 HT2 HT3 HN1 HM1 HQ2 HR2 HA2 HN2 HB2 HQ3
  go_wp2
  go_loopw [13] (fun i wr => ∃ k : Nat, k ≤ o.lines.length ∧ i = .int .i64 k ∧ Hid (Mid w b g g' r r' (putSt s [o.line]) (.int .i64 (putSt s [o.line]).limit) (.slice bo3 ps3.length bcap3) (.bool (putSt s [o.line]).closed) #[.int .i64 o.kind, .string o.line, .slice ao o.lines.length cap, .int .i64 o.pane, .int .i64 o.tick, .int .i64 o.n] (.slice lo o.lines.length lc) (.slice ao o.lines.length cap) o.lines k wr)) (fun i _ => o.lines.length - (intOf i).toNat)
  case atStart => exact ⟨0, Nat.zero_le _, rfl, HM⟩
  case round =>
    obtain ⟨k, hk, rfl, HV⟩ := hrel
    clear HM c0 c1 c2 k0 k1 k2 k3 k4 k5 f0 f1 f2
    have hcc := HI.out.ok.count
    obtain ⟨c0, c1, c2, k2, z0, z1, z2, y0, y1, y2⟩ := HV.out.cells
    simp only [List.getElem?_toArray, List.getElem?_cons_succ, List.getElem?_cons_zero] at k2
    by_cases hlt : k < o.lines.length
    · obtain ⟨ys, hys, hyk⟩ := HV.out.row
      obtain ⟨lg, loff, lcap, cur, hv, hnc, hcur, hfit, hcell, hfz⟩ := hys.at_ (by omega)
      cases hv
      obtain ⟨ag, aoff, acap, hv, hnc2, hc2⟩ := HV.out.arg.at_ (by omega)
      cases hv
      have d1 := hcell k _ ((hyk k (Nat.le_refl _)).trans (strs_get o.lines k hlt))
      have d2 := hc2 k _ (strs_get o.lines k hlt)
      have e1 := hfz (loff + k)
      have hlt' : (k : Int) < (o.lines.length : Int) := by omega
      have hk0 : (0 : Int) ≤ (k : Int) := by omega
      clear hcell hc2 hfz hcur hys hyk
      go_wp2
      go_quiet (fail)
      go_wp2
      go_roundw
      case rel => exact ⟨k + 1, by omega, by go_num, Lib.hid ((HV.out.drewN _).next _)⟩
      case measure => simp [intOf]; omega
    · go_wp2
      refine bodyPost_ret (v := .tuple #[.agg #[.int .i64 (putSt s [o.line]).limit, .slice bo3 ps3.length bcap3, .bool (putSt s [o.line]).closed], .bool true]) (by simp [results, Try.results13, go_sem, z0, z1, z2]) rfl ?_
      exact HV.out.fin _ _ _

set_option maxHeartbeats 4000000 in
set_option maxRecDepth 100000 in
theorem step1_c (b : Nat) (g r : Option Nat) (v : Value) (s : St) (o : Opn) (ao : Option Addr) (cap : Nat) (w : World) (h : StepIn w b g r v s o ao cap) (hk : o.kind = 1) :
    Calls Try.prog 13 #[.pointer (some ⟨b, 0, none⟩), v, opVal o ao cap] w fun e w' => StepPost w b g r (nextSt s o) e w' := by
  obtain ⟨sv, ps, hv, hR, -⟩ := id h.rr
  obtain ⟨bo, bcap, hsv⟩ := hR.shape
  subst hsv
  subst hv
  have hns : nextSt s o = putSt s o.lines := by simp [nextSt, hk]
  have hd0 : (o.kind == 0) = false := by rw [hk]; rfl
  have hd1 : (o.kind == 1) = true := by rw [hk]; rfl
  clear hk
  rw [hns]
  clear hns hR
  have HF := Lib.hid (foot_lt h.q)
  have HI := Lib.hid h
  clear h
  have HT := Lib.hid (Three.start b g w (.int .i64 s.limit) (.slice bo ps.length bcap) (.bool s.closed) #[.int .i64 o.kind, .string o.line, .slice ao o.lines.length cap, .int .i64 o.pane, .int .i64 o.tick, .int .i64 o.n])
  obtain ⟨c0, c1, c2, k0, k1, k2, k3, k4, k5, f0, f1, f2⟩ := HT.out.cells
  unfold opVal
  go_enter Try.func13, Try.ntmps13
  go_wp2_with fail
  refine (lists_c o.lines ao cap _ (HI.out.arg.mod0 HT.out.mod (fun hn k hk e => e.elim (HI.out.argOff hn k hk).1 (HI.out.argOff hn k hk).2)) HI.out.ok.count).mono ?_
  rintro e w1 ⟨lo, lc, rfl, hl1, hl2, hl3⟩
  have HT1 := Lib.hid (HT.out.below hl3)
  have HL1 := Lib.hid hl1
  have hlo : ∀ k, (Value.slice lo o.lines.length lc).ownBlock = some k → w.heap.size + 3 ≤ k := fun k hk => Nat.le_trans HT.out.size (hl2 k hk)
  have HLO := Lib.hid hlo
  have hq1 : QSt w1 b g s := (HI.out.q.below (Below.refl _ _ |>.trans (below3 w _ _ _))).below hl3
  have HQ1 := Lib.hid hq1
  clear hl1 hl2 hl3 hlo hq1 c0 c1 c2 k0 k1 k2 k3 k4 k5 f0 f1 f2 HT
  obtain ⟨c0, c1, c2, k0, k1, k2, k3, k4, k5, f0, f1, f2⟩ := HT1.out.cells
  go_wp2_with fail
  refine (putAll_c b g s o.lines lo lc _ HQ1.out HI.out.fit HL1.out.rd HI.out.ok.bytes HI.out.ok.count).mono ?_
  rintro e w2 ⟨rfl, g', q1, n1, m1⟩
  have HN1 := Lib.hid n1
  have HM1 := Lib.hid m1
  have HQ2 := Lib.hid q1
  have HT2 := Lib.hid (HT1.out.step m1 HF.out)
  have hr2 : RSt w2 r _ s := HI.out.rr.mod HT2.out.mod fun k hk e => e.elim (HI.out.off k hk).1 (HI.out.off k hk).2
  have HR2 := Lib.hid hr2
  have ha2 := HI.out.arg.mod0 HT2.out.mod fun hn k hk e => e.elim (HI.out.argOff hn k hk).1 (HI.out.argOff hn k hk).2
  have HA2 := Lib.hid ha2
  clear q1 m1 hr2 ha2 c0 c1 c2 k0 k1 k2 k3 k4 k5 f0 f1 f2 n1
  obtain ⟨c0, c1, c2, k0, k1, k2, k3, k4, k5, f0, f1, f2⟩ := HT2.out.cells
  go_wp2_with fail
  refine (rputAll_c r _ s o.lines ao cap _ HR2.out HI.out.fit HA2.out HI.out.ok.count HI.out.ok.bytes).mono ?_
  rintro e w3 ⟨v', r', rfl, q2, n2, b2⟩
  have HN2 := Lib.hid n2
  obtain ⟨sv3, ps3, hv3, hR3, -⟩ := id q2
  obtain ⟨bo3, bcap3, hsv3⟩ := hR3.shape
  subst hsv3
  subst hv3
  have HB2 := Lib.hid b2
  have HQ3 := Lib.hid q2
  clear q2 n2 b2 hR3 c0 c1 c2 k0 k1 k2 k3 k4 k5 f0 f1 f2
  have HT3 := Lib.hid (HT2.out.below HB2.out)
  obtain ⟨c0, c1, c2, k0, k1, k2, k3, k4, k5, f0, f1, f2⟩ := HT3.out.cells
  have HM := Lib.hid (Mid.make HI.out.q HI.out.rr HI.out.off HI.out.arg HI.out.argOff HT1.out HL1.out HLO.out HQ2.out HN1.out HM1.out HQ3.out HN2.out HB2.out)
  clear HQ1 HL1 HLO HT1 HT2 HT3 HN1 HM1 HQ2 HR2 HA2 HN2 HB2 HQ3
  go_wp2
  go_loopw [13] (fun i wr => ∃ k : Nat, k ≤ o.lines.length ∧ i = .int .i64 k ∧ Hid (Mid w b g g' r r' (putSt s o.lines) (.int .i64 (putSt s o.lines).limit) (.slice bo3 ps3.length bcap3) (.bool (putSt s o.lines).closed) #[.int .i64 o.kind, .string o.line, .slice ao o.lines.length cap, .int .i64 o.pane, .int .i64 o.tick, .int .i64 o.n] (.slice lo o.lines.length lc) (.slice ao o.lines.length cap) o.lines k wr)) (fun i _ => o.lines.length - (intOf i).toNat)
  case atStart => exact ⟨0, Nat.zero_le _, rfl, HM⟩
  case round =>
    obtain ⟨k, hk, rfl, HV⟩ := hrel
    clear HM c0 c1 c2 k0 k1 k2 k3 k4 k5 f0 f1 f2
    have hcc := HI.out.ok.count
    obtain ⟨c0, c1, c2, k2, z0, z1, z2, y0, y1, y2⟩ := HV.out.cells
    simp only [List.getElem?_toArray, List.getElem?_cons_succ, List.getElem?_cons_zero] at k2
    by_cases hlt : k < o.lines.length
    · obtain ⟨ys, hys, hyk⟩ := HV.out.row
      obtain ⟨lg, loff, lcap, cur, hv, hnc, hcur, hfit, hcell, hfz⟩ := hys.at_ (by omega)
      cases hv
      obtain ⟨ag, aoff, acap, hv, hnc2, hc2⟩ := HV.out.arg.at_ (by omega)
      cases hv
      have d1 := hcell k _ ((hyk k (Nat.le_refl _)).trans (strs_get o.lines k hlt))
      have d2 := hc2 k _ (strs_get o.lines k hlt)
      have e1 := hfz (loff + k)
      have hlt' : (k : Int) < (o.lines.length : Int) := by omega
      have hk0 : (0 : Int) ≤ (k : Int) := by omega
      clear hcell hc2 hfz hcur hys hyk
      go_wp2
      go_quiet (fail)
      go_wp2
      go_roundw
      case rel => exact ⟨k + 1, by omega, by go_num, Lib.hid ((HV.out.drewN _).next _)⟩
      case measure => simp [intOf]; omega
    · go_wp2
      refine bodyPost_ret (v := .tuple #[.agg #[.int .i64 (putSt s o.lines).limit, .slice bo3 ps3.length bcap3, .bool (putSt s o.lines).closed], .bool true]) (by simp [results, Try.results13, go_sem, z0, z1, z2]) rfl ?_
      exact HV.out.fin _ _ _

set_option maxHeartbeats 4000000 in
set_option maxRecDepth 100000 in
theorem step2_c (b : Nat) (g r : Option Nat) (v : Value) (s : St) (o : Opn) (ao : Option Addr) (cap : Nat) (w : World) (h : StepIn w b g r v s o ao cap) (hk : o.kind = 2) :
    Calls Try.prog 13 #[.pointer (some ⟨b, 0, none⟩), v, opVal o ao cap] w fun e w' => StepPost w b g r (nextSt s o) e w' := by
  obtain ⟨sv, ps, hv, hR, -⟩ := id h.rr
  obtain ⟨bo, bcap, hsv⟩ := hR.shape
  subst hsv
  subst hv
  have hns : nextSt s o = outSt s o.pane o.tick o.lines := by simp [nextSt, hk]
  have hd0 : (o.kind == 0) = false := by rw [hk]; rfl
  have hd1 : (o.kind == 1) = false := by rw [hk]; rfl
  have hd2 : (o.kind == 2) = true := by rw [hk]; rfl
  clear hk
  rw [hns]
  clear hns hR
  have HF := Lib.hid (foot_lt h.q)
  have HI := Lib.hid h
  clear h
  have HT := Lib.hid (Three.start b g w (.int .i64 s.limit) (.slice bo ps.length bcap) (.bool s.closed) #[.int .i64 o.kind, .string o.line, .slice ao o.lines.length cap, .int .i64 o.pane, .int .i64 o.tick, .int .i64 o.n])
  obtain ⟨c0, c1, c2, k0, k1, k2, k3, k4, k5, f0, f1, f2⟩ := HT.out.cells
  unfold opVal
  go_enter Try.func13, Try.ntmps13
  go_wp2_with fail
  refine (lists_c o.lines ao cap _ (HI.out.arg.mod0 HT.out.mod (fun hn k hk e => e.elim (HI.out.argOff hn k hk).1 (HI.out.argOff hn k hk).2)) HI.out.ok.count).mono ?_
  rintro e w1 ⟨lo, lc, rfl, hl1, hl2, hl3⟩
  have HT1 := Lib.hid (HT.out.below hl3)
  have HL1 := Lib.hid hl1
  have hlo : ∀ k, (Value.slice lo o.lines.length lc).ownBlock = some k → w.heap.size + 3 ≤ k := fun k hk => Nat.le_trans HT.out.size (hl2 k hk)
  have HLO := Lib.hid hlo
  have hq1 : QSt w1 b g s := (HI.out.q.below (Below.refl _ _ |>.trans (below3 w _ _ _))).below hl3
  have HQ1 := Lib.hid hq1
  clear hl1 hl2 hl3 hlo hq1 c0 c1 c2 k0 k1 k2 k3 k4 k5 f0 f1 f2 HT
  obtain ⟨c0, c1, c2, k0, k1, k2, k3, k4, k5, f0, f1, f2⟩ := HT1.out.cells
  go_wp2_with fail
  refine (out_c b g s o.pane o.tick o.lines lo lc _ HQ1.out HI.out.fit HL1.out.rd HI.out.ok.bytes HI.out.ok.count).mono ?_
  rintro e w2 ⟨rfl, g', q1, n1, m1⟩
  have HN1 := Lib.hid n1
  have HM1 := Lib.hid m1
  have HQ2 := Lib.hid q1
  have HT2 := Lib.hid (HT1.out.step m1 HF.out)
  have hr2 : RSt w2 r _ s := HI.out.rr.mod HT2.out.mod fun k hk e => e.elim (HI.out.off k hk).1 (HI.out.off k hk).2
  have HR2 := Lib.hid hr2
  have ha2 := HI.out.arg.mod0 HT2.out.mod fun hn k hk e => e.elim (HI.out.argOff hn k hk).1 (HI.out.argOff hn k hk).2
  have HA2 := Lib.hid ha2
  clear q1 m1 hr2 ha2 c0 c1 c2 k0 k1 k2 k3 k4 k5 f0 f1 f2 n1
  obtain ⟨c0, c1, c2, k0, k1, k2, k3, k4, k5, f0, f1, f2⟩ := HT2.out.cells
  go_wp2_with fail
  refine (rout_c r _ s o.pane o.tick o.lines ao cap _ HR2.out HI.out.fit HA2.out HI.out.ok.count HI.out.ok.bytes).mono ?_
  rintro e w3 ⟨v', r', rfl, q2, n2, b2⟩
  have HN2 := Lib.hid n2
  obtain ⟨sv3, ps3, hv3, hR3, -⟩ := id q2
  obtain ⟨bo3, bcap3, hsv3⟩ := hR3.shape
  subst hsv3
  subst hv3
  have HB2 := Lib.hid b2
  have HQ3 := Lib.hid q2
  clear q2 n2 b2 hR3 c0 c1 c2 k0 k1 k2 k3 k4 k5 f0 f1 f2
  have HT3 := Lib.hid (HT2.out.below HB2.out)
  obtain ⟨c0, c1, c2, k0, k1, k2, k3, k4, k5, f0, f1, f2⟩ := HT3.out.cells
  have HM := Lib.hid (Mid.make HI.out.q HI.out.rr HI.out.off HI.out.arg HI.out.argOff HT1.out HL1.out HLO.out HQ2.out HN1.out HM1.out HQ3.out HN2.out HB2.out)
  clear HQ1 HL1 HLO HT1 HT2 HT3 HN1 HM1 HQ2 HR2 HA2 HN2 HB2 HQ3
  go_wp2
  go_loopw [13] (fun i wr => ∃ k : Nat, k ≤ o.lines.length ∧ i = .int .i64 k ∧ Hid (Mid w b g g' r r' (outSt s o.pane o.tick o.lines) (.int .i64 (outSt s o.pane o.tick o.lines).limit) (.slice bo3 ps3.length bcap3) (.bool (outSt s o.pane o.tick o.lines).closed) #[.int .i64 o.kind, .string o.line, .slice ao o.lines.length cap, .int .i64 o.pane, .int .i64 o.tick, .int .i64 o.n] (.slice lo o.lines.length lc) (.slice ao o.lines.length cap) o.lines k wr)) (fun i _ => o.lines.length - (intOf i).toNat)
  case atStart => exact ⟨0, Nat.zero_le _, rfl, HM⟩
  case round =>
    obtain ⟨k, hk, rfl, HV⟩ := hrel
    clear HM c0 c1 c2 k0 k1 k2 k3 k4 k5 f0 f1 f2
    have hcc := HI.out.ok.count
    obtain ⟨c0, c1, c2, k2, z0, z1, z2, y0, y1, y2⟩ := HV.out.cells
    simp only [List.getElem?_toArray, List.getElem?_cons_succ, List.getElem?_cons_zero] at k2
    by_cases hlt : k < o.lines.length
    · obtain ⟨ys, hys, hyk⟩ := HV.out.row
      obtain ⟨lg, loff, lcap, cur, hv, hnc, hcur, hfit, hcell, hfz⟩ := hys.at_ (by omega)
      cases hv
      obtain ⟨ag, aoff, acap, hv, hnc2, hc2⟩ := HV.out.arg.at_ (by omega)
      cases hv
      have d1 := hcell k _ ((hyk k (Nat.le_refl _)).trans (strs_get o.lines k hlt))
      have d2 := hc2 k _ (strs_get o.lines k hlt)
      have e1 := hfz (loff + k)
      have hlt' : (k : Int) < (o.lines.length : Int) := by omega
      have hk0 : (0 : Int) ≤ (k : Int) := by omega
      clear hcell hc2 hfz hcur hys hyk
      go_wp2
      go_quiet (fail)
      go_wp2
      go_roundw
      case rel => exact ⟨k + 1, by omega, by go_num, Lib.hid ((HV.out.drewN _).next _)⟩
      case measure => simp [intOf]; omega
    · go_wp2
      refine bodyPost_ret (v := .tuple #[.agg #[.int .i64 (outSt s o.pane o.tick o.lines).limit, .slice bo3 ps3.length bcap3, .bool (outSt s o.pane o.tick o.lines).closed], .bool true]) (by simp [results, Try.results13, go_sem, z0, z1, z2]) rfl ?_
      exact HV.out.fin _ _ _

set_option maxHeartbeats 4000000 in
set_option maxRecDepth 100000 in
theorem step3_c (b : Nat) (g r : Option Nat) (v : Value) (s : St) (o : Opn) (ao : Option Addr) (cap : Nat) (w : World) (h : StepIn w b g r v s o ao cap) (hk : o.kind = 3) :
    Calls Try.prog 13 #[.pointer (some ⟨b, 0, none⟩), v, opVal o ao cap] w fun e w' => StepPost w b g r (nextSt s o) e w' := by
  obtain ⟨sv, ps, hv, hR, -⟩ := id h.rr
  obtain ⟨bo, bcap, hsv⟩ := hR.shape
  subst hsv
  subst hv
  have hns : nextSt s o = endSt s o.line := by simp [nextSt, hk]
  have hd0 : (o.kind == 0) = false := by rw [hk]; rfl
  have hd1 : (o.kind == 1) = false := by rw [hk]; rfl
  have hd2 : (o.kind == 2) = false := by rw [hk]; rfl
  have hd3 : (o.kind == 3) = true := by rw [hk]; rfl
  clear hk
  rw [hns]
  clear hns hR
  have HF := Lib.hid (foot_lt h.q)
  have HI := Lib.hid h
  clear h
  have HT := Lib.hid (Three.start b g w (.int .i64 s.limit) (.slice bo ps.length bcap) (.bool s.closed) #[.int .i64 o.kind, .string o.line, .slice ao o.lines.length cap, .int .i64 o.pane, .int .i64 o.tick, .int .i64 o.n])
  obtain ⟨c0, c1, c2, k0, k1, k2, k3, k4, k5, f0, f1, f2⟩ := HT.out.cells
  unfold opVal
  go_enter Try.func13, Try.ntmps13
  go_wp2_with fail
  refine (lists_c o.lines ao cap _ (HI.out.arg.mod0 HT.out.mod (fun hn k hk e => e.elim (HI.out.argOff hn k hk).1 (HI.out.argOff hn k hk).2)) HI.out.ok.count).mono ?_
  rintro e w1 ⟨lo, lc, rfl, hl1, hl2, hl3⟩
  have HT1 := Lib.hid (HT.out.below hl3)
  have HL1 := Lib.hid hl1
  have hlo : ∀ k, (Value.slice lo o.lines.length lc).ownBlock = some k → w.heap.size + 3 ≤ k := fun k hk => Nat.le_trans HT.out.size (hl2 k hk)
  have HLO := Lib.hid hlo
  have hq1 : QSt w1 b g s := (HI.out.q.below (Below.refl _ _ |>.trans (below3 w _ _ _))).below hl3
  have HQ1 := Lib.hid hq1
  clear hl1 hl2 hl3 hlo hq1 c0 c1 c2 k0 k1 k2 k3 k4 k5 f0 f1 f2 HT
  obtain ⟨c0, c1, c2, k0, k1, k2, k3, k4, k5, f0, f1, f2⟩ := HT1.out.cells
  go_wp2_with fail
  refine (end_c b g s o.line _ HQ1.out HI.out.fit).mono ?_
  rintro e w2 ⟨rfl, g', q1, n1, m1⟩
  have HN1 := Lib.hid n1
  have HM1 := Lib.hid m1
  have HQ2 := Lib.hid q1
  have HT2 := Lib.hid (HT1.out.step m1 HF.out)
  have hr2 : RSt w2 r _ s := HI.out.rr.mod HT2.out.mod fun k hk e => e.elim (HI.out.off k hk).1 (HI.out.off k hk).2
  have HR2 := Lib.hid hr2
  have ha2 := HI.out.arg.mod0 HT2.out.mod fun hn k hk e => e.elim (HI.out.argOff hn k hk).1 (HI.out.argOff hn k hk).2
  have HA2 := Lib.hid ha2
  clear q1 m1 hr2 ha2 c0 c1 c2 k0 k1 k2 k3 k4 k5 f0 f1 f2 n1
  obtain ⟨c0, c1, c2, k0, k1, k2, k3, k4, k5, f0, f1, f2⟩ := HT2.out.cells
  go_wp2_with fail
  refine (rend_c r _ s o.line _ HR2.out HI.out.fit HI.out.ok.line).mono ?_
  rintro e w3 ⟨v', r', rfl, q2, n2, b2⟩
  have HN2 := Lib.hid n2
  obtain ⟨sv3, ps3, hv3, hR3, -⟩ := id q2
  obtain ⟨bo3, bcap3, hsv3⟩ := hR3.shape
  subst hsv3
  subst hv3
  have HB2 := Lib.hid b2
  have HQ3 := Lib.hid q2
  clear q2 n2 b2 hR3 c0 c1 c2 k0 k1 k2 k3 k4 k5 f0 f1 f2
  have HT3 := Lib.hid (HT2.out.below HB2.out)
  obtain ⟨c0, c1, c2, k0, k1, k2, k3, k4, k5, f0, f1, f2⟩ := HT3.out.cells
  have HM := Lib.hid (Mid.make HI.out.q HI.out.rr HI.out.off HI.out.arg HI.out.argOff HT1.out HL1.out HLO.out HQ2.out HN1.out HM1.out HQ3.out HN2.out HB2.out)
  clear HQ1 HL1 HLO HT1 HT2 HT3 HN1 HM1 HQ2 HR2 HA2 HN2 HB2 HQ3
  go_wp2
  go_loopw [13] (fun i wr => ∃ k : Nat, k ≤ o.lines.length ∧ i = .int .i64 k ∧ Hid (Mid w b g g' r r' (endSt s o.line) (.int .i64 (endSt s o.line).limit) (.slice bo3 ps3.length bcap3) (.bool (endSt s o.line).closed) #[.int .i64 o.kind, .string o.line, .slice ao o.lines.length cap, .int .i64 o.pane, .int .i64 o.tick, .int .i64 o.n] (.slice lo o.lines.length lc) (.slice ao o.lines.length cap) o.lines k wr)) (fun i _ => o.lines.length - (intOf i).toNat)
  case atStart => exact ⟨0, Nat.zero_le _, rfl, HM⟩
  case round =>
    obtain ⟨k, hk, rfl, HV⟩ := hrel
    clear HM c0 c1 c2 k0 k1 k2 k3 k4 k5 f0 f1 f2
    have hcc := HI.out.ok.count
    obtain ⟨c0, c1, c2, k2, z0, z1, z2, y0, y1, y2⟩ := HV.out.cells
    simp only [List.getElem?_toArray, List.getElem?_cons_succ, List.getElem?_cons_zero] at k2
    by_cases hlt : k < o.lines.length
    · obtain ⟨ys, hys, hyk⟩ := HV.out.row
      obtain ⟨lg, loff, lcap, cur, hv, hnc, hcur, hfit, hcell, hfz⟩ := hys.at_ (by omega)
      cases hv
      obtain ⟨ag, aoff, acap, hv, hnc2, hc2⟩ := HV.out.arg.at_ (by omega)
      cases hv
      have d1 := hcell k _ ((hyk k (Nat.le_refl _)).trans (strs_get o.lines k hlt))
      have d2 := hc2 k _ (strs_get o.lines k hlt)
      have e1 := hfz (loff + k)
      have hlt' : (k : Int) < (o.lines.length : Int) := by omega
      have hk0 : (0 : Int) ≤ (k : Int) := by omega
      clear hcell hc2 hfz hcur hys hyk
      go_wp2
      go_quiet (fail)
      go_wp2
      go_roundw
      case rel => exact ⟨k + 1, by omega, by go_num, Lib.hid ((HV.out.drewN _).next _)⟩
      case measure => simp [intOf]; omega
    · go_wp2
      refine bodyPost_ret (v := .tuple #[.agg #[.int .i64 (endSt s o.line).limit, .slice bo3 ps3.length bcap3, .bool (endSt s o.line).closed], .bool true]) (by simp [results, Try.results13, go_sem, z0, z1, z2]) rfl ?_
      exact HV.out.fin _ _ _

set_option maxHeartbeats 4000000 in
set_option maxRecDepth 100000 in
theorem step4_c (b : Nat) (g r : Option Nat) (v : Value) (s : St) (o : Opn) (ao : Option Addr) (cap : Nat) (w : World) (h : StepIn w b g r v s o ao cap) (hk0 : o.kind ≠ 0) (hk1 : o.kind ≠ 1) (hk2 : o.kind ≠ 2) (hk3 : o.kind ≠ 3) :
    Calls Try.prog 13 #[.pointer (some ⟨b, 0, none⟩), v, opVal o ao cap] w fun e w' => StepPost w b g r (nextSt s o) e w' := by
  obtain ⟨sv, ps, hv, hR, -⟩ := id h.rr
  obtain ⟨bo, bcap, hsv⟩ := hR.shape
  subst hsv
  subst hv
  have hns : nextSt s o = drainSt s o.n := by simp [nextSt, hk0, hk1, hk2, hk3]
  have hd0 : (o.kind == 0) = false := by simpa using hk0
  have hd1 : (o.kind == 1) = false := by simpa using hk1
  have hd2 : (o.kind == 2) = false := by simpa using hk2
  have hd3 : (o.kind == 3) = false := by simpa using hk3
  clear hk0 hk1 hk2 hk3
  rw [hns]
  clear hns hR
  have HF := Lib.hid (foot_lt h.q)
  have HI := Lib.hid h
  clear h
  have HT := Lib.hid (Three.start b g w (.int .i64 s.limit) (.slice bo ps.length bcap) (.bool s.closed) #[.int .i64 o.kind, .string o.line, .slice ao o.lines.length cap, .int .i64 o.pane, .int .i64 o.tick, .int .i64 o.n])
  obtain ⟨c0, c1, c2, k0, k1, k2, k3, k4, k5, f0, f1, f2⟩ := HT.out.cells
  unfold opVal
  go_enter Try.func13, Try.ntmps13
  go_wp2_with fail
  refine (lists_c o.lines ao cap _ (HI.out.arg.mod0 HT.out.mod (fun hn k hk e => e.elim (HI.out.argOff hn k hk).1 (HI.out.argOff hn k hk).2)) HI.out.ok.count).mono ?_
  rintro e w1 ⟨lo, lc, rfl, hl1, hl2, hl3⟩
  have HT1 := Lib.hid (HT.out.below hl3)
  have HL1 := Lib.hid hl1
  have hlo : ∀ k, (Value.slice lo o.lines.length lc).ownBlock = some k → w.heap.size + 3 ≤ k := fun k hk => Nat.le_trans HT.out.size (hl2 k hk)
  have HLO := Lib.hid hlo
  have hq1 : QSt w1 b g s := (HI.out.q.below (Below.refl _ _ |>.trans (below3 w _ _ _))).below hl3
  have HQ1 := Lib.hid hq1
  clear hl1 hl2 hl3 hlo hq1 c0 c1 c2 k0 k1 k2 k3 k4 k5 f0 f1 f2 HT
  obtain ⟨c0, c1, c2, k0, k1, k2, k3, k4, k5, f0, f1, f2⟩ := HT1.out.cells
  go_wp2_with fail
  refine (drain_c b g s o.n _ HQ1.out (by have := HI.out.fit.len; omega) HI.out.ok.n0 HI.out.ok.n1).mono ?_
  rintro e w2 ⟨t, rfl, ht, q1, m1⟩
  have HTT := Lib.hid ht
  have HN1 : Hid (NewG w1 g g) := Lib.hid (.inl rfl)
  clear ht
  have HM1 := Lib.hid m1
  have HQ2 := Lib.hid q1
  have HT2 := Lib.hid (HT1.out.step m1 HF.out)
  have hr2 : RSt w2 r _ s := HI.out.rr.mod HT2.out.mod fun k hk e => e.elim (HI.out.off k hk).1 (HI.out.off k hk).2
  have HR2 := Lib.hid hr2
  have ha2 := HI.out.arg.mod0 HT2.out.mod fun hn k hk e => e.elim (HI.out.argOff hn k hk).1 (HI.out.argOff hn k hk).2
  have HA2 := Lib.hid ha2
  clear q1 m1 hr2 ha2 c0 c1 c2 k0 k1 k2 k3 k4 k5 f0 f1 f2
  obtain ⟨c0, c1, c2, k0, k1, k2, k3, k4, k5, f0, f1, f2⟩ := HT2.out.cells
  go_wp2_with fail
  refine (rdrain_c r _ s o.n _ HR2.out (by have := HI.out.fit.len; omega) HI.out.ok.n0 HI.out.ok.n1).mono ?_
  rintro e w3 ⟨t', v', r', rfl, ht', q2, n2, b2⟩
  obtain rfl : t = t' := ByteArray.ext (Array.toList_inj.1 (HTT.out.trans ht'.symm))
  have HN2 : Hid (NewR w2 r r') := Lib.hid (.inr n2)
  clear ht'
  obtain ⟨sv3, ps3, hv3, hR3, -⟩ := id q2
  obtain ⟨bo3, bcap3, hsv3⟩ := hR3.shape
  subst hsv3
  subst hv3
  have HB2 := Lib.hid b2
  have HQ3 := Lib.hid q2
  clear q2 n2 b2 hR3 c0 c1 c2 k0 k1 k2 k3 k4 k5 f0 f1 f2
  have HT3 := Lib.hid (HT2.out.below HB2.out)
  obtain ⟨c0, c1, c2, k0, k1, k2, k3, k4, k5, f0, f1, f2⟩ := HT3.out.cells
  have HM := Lib.hid (Mid.make HI.out.q HI.out.rr HI.out.off HI.out.arg HI.out.argOff HT1.out HL1.out HLO.out HQ2.out HN1.out HM1.out HQ3.out HN2.out HB2.out)
  clear HQ1 HL1 HLO HT1 HT2 HT3 HN1 HM1 HQ2 HR2 HA2 HN2 HB2 HQ3
  go_wp2
  go_loopw [13] (fun i wr => ∃ k : Nat, k ≤ o.lines.length ∧ i = .int .i64 k ∧ Hid (Mid w b g g r r' (drainSt s o.n) (.int .i64 (drainSt s o.n).limit) (.slice bo3 ps3.length bcap3) (.bool (drainSt s o.n).closed) #[.int .i64 o.kind, .string o.line, .slice ao o.lines.length cap, .int .i64 o.pane, .int .i64 o.tick, .int .i64 o.n] (.slice lo o.lines.length lc) (.slice ao o.lines.length cap) o.lines k wr)) (fun i _ => o.lines.length - (intOf i).toNat)
  case atStart => exact ⟨0, Nat.zero_le _, rfl, HM⟩
  case round =>
    obtain ⟨k, hk, rfl, HV⟩ := hrel
    clear HM c0 c1 c2 k0 k1 k2 k3 k4 k5 f0 f1 f2
    have hcc := HI.out.ok.count
    obtain ⟨c0, c1, c2, k2, z0, z1, z2, y0, y1, y2⟩ := HV.out.cells
    simp only [List.getElem?_toArray, List.getElem?_cons_succ, List.getElem?_cons_zero] at k2
    by_cases hlt : k < o.lines.length
    · obtain ⟨ys, hys, hyk⟩ := HV.out.row
      obtain ⟨lg, loff, lcap, cur, hv, hnc, hcur, hfit, hcell, hfz⟩ := hys.at_ (by omega)
      cases hv
      obtain ⟨ag, aoff, acap, hv, hnc2, hc2⟩ := HV.out.arg.at_ (by omega)
      cases hv
      have d1 := hcell k _ ((hyk k (Nat.le_refl _)).trans (strs_get o.lines k hlt))
      have d2 := hc2 k _ (strs_get o.lines k hlt)
      have e1 := hfz (loff + k)
      have hlt' : (k : Int) < (o.lines.length : Int) := by omega
      have hk0 : (0 : Int) ≤ (k : Int) := by omega
      clear hcell hc2 hfz hcur hys hyk
      go_wp2
      go_quiet (fail)
      go_wp2
      go_roundw
      case rel => exact ⟨k + 1, by omega, by go_num, Lib.hid ((HV.out.drewN _).next _)⟩
      case measure => simp [intOf]; omega
    · go_wp2
      refine bodyPost_ret (v := .tuple #[.agg #[.int .i64 (drainSt s o.n).limit, .slice bo3 ps3.length bcap3, .bool (drainSt s o.n).closed], .bool true]) (by simp [results, Try.results13, go_sem, z0, z1, z2]) rfl ?_
      exact HV.out.fin _ _ _
end Go.Proofs.Ytbfmfliknhcoeaa
