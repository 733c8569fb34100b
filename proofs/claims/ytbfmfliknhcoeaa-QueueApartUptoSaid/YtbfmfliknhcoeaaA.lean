import Derived.Test.YtbfmfliknhcoeaaProg
import Derived.Test.YtbfmfliknhcoeaaQ
import Derived.Deep.QuietTactic
import Derived.BigQuiet
import Derived.BigRegion
import Derived.Deep.RegionLaw
namespace Go.Proofs.Ytbfmfliknhcoeaa
open Go.RowKit QP
theorem info76 : (Try.prog.info? 76).map (fun i => (i.zero, i.size, i.bytes)) = some (some (.agg #[.int .i64 0, .int .i64 0, .string ⟨#[]⟩]), 3, 32) := by kernel_rfl

theorem fin_new {w W w1 : World} {b : Nat} {g : Option Nat} {limit size : Int} {closed : Bool} {p : Part} {ps : List Part} {sv v' : Value} {cs : List Value} {n : Nat} (h0 : Mod (foot b g) w W) (hg : sv.ownBlock = g) (hgb : g ≠ some b)
    (hb1 : Blk w1 b 71 #[.int .i64 limit, .int .i64 size, sv, .bool closed]) (hr1 : Row w1 76 3 v' n cs) (hcs : cs = cellsOf (ps ++ [p])) (hn : n = ps.length + 1)
    (hm1 : Mod (fun k => sv.ownBlock = some k) W w1) (ho1 : v'.ownBlock = sv.ownBlock ∨ v'.ownBlock = some W.heap.size) (hbw : b < w.heap.size) :
    ∃ sv', Blk (w1.setCell ⟨b, 2, none⟩ v') b 71 #[.int .i64 limit, .int .i64 size, sv', .bool closed] ∧ Row (w1.setCell ⟨b, 2, none⟩ v') 76 3 sv' (ps.length + 1) (cellsOf (ps ++ [p])) ∧
      (sv'.ownBlock = g ∨ ∃ k, sv'.ownBlock = some k ∧ w.heap.size ≤ k) ∧ Mod (foot b g) w (w1.setCell ⟨b, 2, none⟩ v') := by
  subst hcs; subst hn
  have hbW : b < W.heap.size := Nat.lt_of_lt_of_le hbw h0.size
  have hne : v'.ownBlock ≠ some b := by
    rcases ho1 with h | h
    · rw [h, hg]; exact hgb
    · rw [h]; intro e; injection e with e; omega
  refine ⟨v', hb1.set_ 2 v', hr1.far (p := ⟨b, 2, none⟩) hne v', ?_, ?_⟩
  · rcases ho1 with h | h
    · exact .inl (h.trans hg)
    · exact .inr ⟨_, h, h0.size⟩
  · exact (h0.trans' hm1 fun i _ hi => .inr (hg.symm.trans hi)).setCell (.inl (.inl rfl)) v'

set_option maxHeartbeats 1000000 in
set_option maxRecDepth 100000 in
/-- the parts' slice is appended to -/
theorem add_new (b : Nat) (g : Option Nat) (limit size : Int) (closed : Bool) (p : Part) (ps : List Part) (sv : Value) (w : World)
    (hb : Blk w b 71 #[.int .i64 limit, .int .i64 size, sv, .bool closed]) (hr : Row w 76 3 sv ps.length (cellsOf ps)) (hg : sv.ownBlock = g) (hgb : g ≠ some b)
    (h0 : 0 ≤ size) (hs : size ≤ 1000000) (hp : p.text.size ≤ 10000000) (hn : ps.length ≤ 1000000)
    (hlast : ∀ x, ps.getLast? = some x → ¬ (x.pane = p.pane ∧ x.tick = p.tick)) :
    Calls Try.prog 49 #[.pointer (some ⟨b, 0, none⟩), .agg #[.int .i64 p.pane, .int .i64 p.tick, .string p.text]] w fun e w' => e = .returned (.tuple #[]) ∧
      ∃ sv', Blk w' b 71 #[.int .i64 limit, .int .i64 (size + p.text.size), sv', .bool closed] ∧ Row w' 76 3 sv' (ps.length + 1) (cellsOf (ps ++ [p])) ∧
        (sv'.ownBlock = g ∨ ∃ k, sv'.ownBlock = some k ∧ w.heap.size ≤ k) ∧ Mod (foot b g) w w' := by
  obtain ⟨i0, hi, hz0, hz1, hz2⟩ := info_parts info76
  obtain ⟨ao, cap, rfl, _⟩ := id hr
  have c1 := hb.cell 1
  have c2 := hb.cell 2
  have f1 := hb.frozen 1
  have f2 := hb.frozen 2
  have hblt := hb.lt
  simp only [List.getElem?_toArray, List.getElem?_cons_succ, List.getElem?_cons_zero] at c1 c2
  have hne : (Value.slice ao ps.length cap).ownBlock ≠ some b := by rw [hg]; exact hgb
  by_cases hn0 : ps.length = 0
  · rw [hn0] at hr hne c2 hg
    rw [hn0]
    have hps : ps = [] := List.eq_nil_of_length_eq_zero hn0
    subst hps
    have Hr := Lib.hid hr
    clear hr
    have Hb := Lib.hid hb
    have Hg := Lib.hid hg
    clear hb hlast hn0 hg
    go_enter Try.func49, Try.ntmps49
    go_wp2
    go_region
    go_wp2
    go_quiet (fail)
    go_wp2
    go_region_law (refine step_append_row (v := .slice ao 0 cap) rfl (.tmp 54) (.tmp 56) 69 rfl 76 i0 (.agg #[.int .i64 0, .int .i64 0, .string ⟨#[]⟩]) 3 32 Try.underlying69 hi hz0 hz1 hz2 rfl (by decide) rfl ((((Hr.out.far (p := ⟨b, 1, none⟩) hne _).alloc _).drewN _).alloc _) rfl (Rd.box _ _ 3 1 _ (by simp) rfl) (by simp [Value.oneCell']) (by simp [maxLen]) (by omega) ?_; intro v' w1 hrow hmod hown; obtain ⟨ao1, cap1, rfl, _⟩ := id hrow; have HR1 := Lib.hid hrow; have HM1 := Lib.hid hmod; have HB1 := Lib.hid (((((Hb.out.set_ 1 _).alloc _).drewN _).alloc _).keep hmod hne : Blk w1 b 71 #[.int .i64 limit, .int .i64 (size + p.text.size), .slice ao 0 cap, .bool closed]); have q2 : w1.cell? ⟨b, 2, none⟩ = some (.slice ao 0 cap) := HB1.out.cell 2; have g2 := HB1.out.frozen 2; have HO1 := Lib.hid hown; clear hrow hmod hown)
    all_goals
      go_wp2
      go_end0
      exact ⟨rfl, fin_new (ps := []) (((((Mod.refl (foot b g) w).setCell (.inl (.inl rfl)) _).alloc _).drewN _).alloc _) Hg.out hgb HB1.out HR1.out rfl rfl HM1.out HO1.out hblt⟩
  · obtain ⟨m, hm⟩ : ∃ m, ps.length = m + 1 := ⟨ps.length - 1, by omega⟩
    obtain ⟨x, hx⟩ : ∃ x, ps[m]? = some x := ⟨ps[m]'(by omega), List.getElem?_eq_getElem (by omega)⟩
    have hlx := hlast x (by rw [List.getLast?_eq_getElem?, hm]; exact hx)
    obtain ⟨gg, off, cap', cur, hv, hnc, hcur, hfit, hcell, hfz⟩ := hr.at_ (by omega)
    cases hv
    have hgg : ∀ j, (partCells x)[j]? = none ∨ (cellsOf ps)[m * 3 + j]? = (partCells x)[j]? := fun j => by
      by_cases hj : j < 3
      · right
        have := cellsOf_get ps m (by omega) j hj
        rw [this]
        congr 2
        rw [List.getElem?_eq_getElem (by omega)] at hx
        injection hx
      · left; exact List.getElem?_eq_none (by simp [partCells]; omega)
    have d0 : w.cell? ⟨gg, off + m * 3, none⟩ = some (.int .i64 x.pane) := hcell (m * 3) _ (by have := hgg 0; simpa [partCells] using this)
    have d1 : w.cell? ⟨gg, off + m * 3 + 1, none⟩ = some (.int .i64 x.tick) := hcell (m * 3 + 1) _ (by have := hgg 1; simpa [partCells] using this)
    have d2 : w.cell? ⟨gg, off + m * 3 + 2, none⟩ = some (.string x.text) := hcell (m * 3 + 2) _ (by have := hgg 2; simpa [partCells] using this)
    have hglt : gg < w.heap.size := lt_of_heap hcur
    have hgb' : gg ≠ b := fun e => hne (by simp [Value.ownBlock, e])
    rw [hm] at hr hne c2 hg
    have HM : Hid (ps.length = m + 1) := Lib.hid hm
    have Hr := Lib.hid hr
    have Hb := Lib.hid hb
    rw [hm] at Hb
    have Hg := Lib.hid hg
    have Hlx := Lib.hid hlx
    clear hb hr hlast hn0 hg hcell hfz hgg hx hcur hlx
    rw [hm] at hnc hn
    rw [hm]
    clear hm
    have hcase : ((x.pane == p.pane) = true ∧ (x.tick == p.tick) = false) ∨ (x.pane == p.pane) = false := by
      by_cases hpane : x.pane = p.pane
      · refine .inl ⟨by simpa using hpane, ?_⟩
        have h2 : x.tick ≠ p.tick := fun e => Hlx.out ⟨hpane, e⟩
        simpa using h2
      · exact .inr (by simpa using hpane)
    rcases hcase with ⟨q1, q2⟩ | q1
    all_goals
      go_enter Try.func49, Try.ntmps49
      go_wp2
      go_region
      go_wp2
      go_quiet (fail)
      go_wp2
      go_region_law (refine step_append_row (v := .slice (some ⟨gg, off, none⟩) (m + 1) cap) rfl (.tmp 54) (.tmp 56) 69 rfl 76 i0 (.agg #[.int .i64 0, .int .i64 0, .string ⟨#[]⟩]) 3 32 Try.underlying69 hi hz0 hz1 hz2 rfl (by decide) rfl ((((Hr.out.far (p := ⟨b, 1, none⟩) hne _).alloc _).drewN _).alloc _) rfl (Rd.box _ _ 3 1 _ (by simp) rfl) (by simp [Value.oneCell']) (by simp [maxLen]; omega) (by omega) ?_; intro v' w1 hrow hmod hown; obtain ⟨ao1, cap1, rfl, _⟩ := id hrow; have HR1 := Lib.hid hrow; have HM1 := Lib.hid hmod; have HB1 := Lib.hid (((((Hb.out.set_ 1 _).alloc _).drewN _).alloc _).keep hmod hne : Blk w1 b 71 #[.int .i64 limit, .int .i64 (size + p.text.size), .slice (some ⟨gg, off, none⟩) (m + 1) cap, .bool closed]); have q2 : w1.cell? ⟨b, 2, none⟩ = some (.slice (some ⟨gg, off, none⟩) (m + 1) cap) := HB1.out.cell 2; have g2 := HB1.out.frozen 2; have HO1 := Lib.hid hown; clear hrow hmod hown)
      all_goals
        go_wp2
        go_end0
        refine ⟨rfl, ?_⟩
        have hfin := fin_new (ps := ps) (p := p) (((((Mod.refl (foot b g) w).setCell (.inl (.inl rfl)) _).alloc _).drewN _).alloc _) Hg.out hgb HB1.out HR1.out (by rw [cellsOf_append]; simp [cellsOf, partCells]) (by rw [HM.out]) HM1.out HO1.out hblt
        rw [HM.out] at hfin
        exact hfin

set_option maxRecDepth 100000 in
/-- the last part grows -/
theorem add_same (b : Nat) (g : Option Nat) (limit size : Int) (closed : Bool) (p x : Part) (ps : List Part) (sv : Value) (w : World)
    (hb : Blk w b 71 #[.int .i64 limit, .int .i64 size, sv, .bool closed]) (hr : Row w 76 3 sv (ps.length + 1) (cellsOf (ps ++ [x]))) (hg : sv.ownBlock = g) (hgb : g ≠ some b)
    (h0 : 0 ≤ size) (hs : size ≤ 1000000) (hp : p.text.size ≤ 10000000) (hn : ps.length ≤ 1000000) (hx : x.text.size ≤ 1000000)
    (q1 : (x.pane == p.pane) = true) (q2 : (x.tick == p.tick) = true) :
    Calls Try.prog 49 #[.pointer (some ⟨b, 0, none⟩), .agg #[.int .i64 p.pane, .int .i64 p.tick, .string p.text]] w fun e w' => e = .returned (.tuple #[]) ∧
      ∃ sv', Blk w' b 71 #[.int .i64 limit, .int .i64 (size + p.text.size), sv', .bool closed] ∧ Row w' 76 3 sv' (ps.length + 1) (cellsOf (ps ++ [{ x with text := x.text ++ p.text }])) ∧
        (sv'.ownBlock = g ∨ ∃ k, sv'.ownBlock = some k ∧ w.heap.size ≤ k) ∧ Mod (foot b g) w w' := by
  have c1 := hb.cell 1
  have c2 := hb.cell 2
  have f1 := hb.frozen 1
  have hblt := hb.lt
  simp only [List.getElem?_toArray, List.getElem?_cons_succ, List.getElem?_cons_zero] at c1 c2
  obtain ⟨gg, off, cap, cur, rfl, hnc, hcur, hfit, hcell, hfz⟩ := hr.at_ (by omega)
  have hat : ∀ j, j < 3 → (cellsOf (ps ++ [x]))[ps.length * 3 + j]? = (partCells x)[j]? := fun j hj => by
    rw [cellsOf_get _ ps.length (by simp) j hj]
    congr 2
    simp
  have d0 : w.cell? ⟨gg, off + ps.length * 3, none⟩ = some (.int .i64 x.pane) := hcell (ps.length * 3) _ (hat 0 (by decide))
  have d1 : w.cell? ⟨gg, off + ps.length * 3 + 1, none⟩ = some (.int .i64 x.tick) := hcell (ps.length * 3 + 1) _ (hat 1 (by decide))
  have d2 : w.cell? ⟨gg, off + ps.length * 3 + 2, none⟩ = some (.string x.text) := hcell (ps.length * 3 + 2) _ (hat 2 (by decide))
  have e2 := hfz (off + ps.length * 3 + 2)
  have hglt : gg < w.heap.size := lt_of_heap hcur
  have hne : (Value.slice (some ⟨gg, off, none⟩) (ps.length + 1) cap).ownBlock ≠ some b := by rw [hg]; exact hgb
  have hgb' : gg ≠ b := fun e => hne (by simp [Value.ownBlock, e])
  have Hr := Lib.hid hr
  have Hb := Lib.hid hb
  have Hg := Lib.hid hg
  clear hb hr hg hcell hfz hat hcur
  have hset : cellsOf (ps ++ [{ x with text := x.text ++ p.text }]) = (cellsOf (ps ++ [x])).set (ps.length * 3 + 2) (.string (x.text ++ p.text)) := by
    rw [cellsOf_append, cellsOf_append, List.set_append_right _ _ (by rw [cellsOf_length]; omega), cellsOf_length, show ps.length * 3 + 2 - ps.length * 3 = 2 by omega]
    simp [cellsOf, partCells]
  have HS := Lib.hid hset
  clear hset
  generalize ps.length = m at *
  go_enter Try.func49, Try.ntmps49
  go_wp2
  go_region
  go_wp2
  go_quiet (fail)
  go_wp2
  go_region
  all_goals
    go_wp2
    refine bodyPost_ret (results_none rfl _ _ _) rfl ?_
    refine ⟨rfl, _, ((((Hb.out.set_ 1 _).alloc _).drewN _).far (p := ⟨gg, off + m * 3 + 2, none⟩) (fun e => hgb' e.symm) _), ?_, .inl Hg.out, ?_⟩
    · rw [HS.out]
      exact Row.set_ (j := m * 3 + 2) (((Hr.out.far (p := ⟨b, 1, none⟩) hne _).alloc _).drewN _) _
    · exact (((((Mod.refl (foot b g) w).setCell (a := ⟨b, 1, none⟩) (.inl (.inl rfl)) _).alloc _).drewN _)).setCell (a := ⟨gg, off + m * 3 + 2, none⟩) (.inl (.inr Hg.out.symm)) _
end Go.Proofs.Ytbfmfliknhcoeaa
