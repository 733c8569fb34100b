/- The laws' made. -/
import Derived.Test.YtbfmfliknhcoeaaX
import Derived.Test.YtbfmfliknhcoeaaV
namespace Go.Proofs.Ytbfmfliknhcoeaa
open Go.RowKit QP

/-- the box of the result, the box of the document's queue, and all that was -/
structure Pair2 (w : World) (k1 k2 : Nat) (u0 u1 u2 v0 v1 v2 : Value) (w1 : World) : Prop where
  bel : Below w.heap.size w w1
  b1 : Blk w1 k1 29 #[u0, u1, u2]
  b2 : Blk w1 k2 29 #[v0, v1, v2]
theorem Pair2.below {w w1 w2 : World} {k1 k2 : Nat} {u0 u1 u2 v0 v1 v2 : Value} (h : Pair2 w k1 k2 u0 u1 u2 v0 v1 v2 w1) (hb : Below w1.heap.size w1 w2) : Pair2 w k1 k2 u0 u1 u2 v0 v1 v2 w2 :=
  ⟨h.bel.trans (hb.mono h.bel.size), (hb.block _ h.b1.lt).trans h.b1, (hb.block _ h.b2.lt).trans h.b2⟩

section
variable {w w1 w2 : World} {k1 k2 : Nat} {u0 u1 u2 v0 v1 v2 : Value}
theorem Pair2.cells (h : Pair2 w k1 k2 u0 u1 u2 v0 v1 v2 w1) : w1.cell? ⟨k2, 0, none⟩ = some v0 ∧ w1.cell? ⟨k2, 1, none⟩ = some v1 ∧ w1.cell? ⟨k2, 2, none⟩ = some v2 ∧
      w1.cell? ⟨k1, 0, none⟩ = some u0 ∧ w1.cell? ⟨k1, 1, none⟩ = some u1 ∧ w1.cell? ⟨k1, 2, none⟩ = some u2 ∧
      w1.frozen? ⟨k1, 0, none⟩ = false ∧ w1.frozen? ⟨k1, 1, none⟩ = false ∧ w1.frozen? ⟨k1, 2, none⟩ = false ∧ Hid (Pair2 w k1 k2 u0 u1 u2 v0 v1 v2 w1) :=
  ⟨h.b2.cell 0, h.b2.cell 1, h.b2.cell 2, h.b1.cell 0, h.b1.cell 1, h.b1.cell 2, h.b1.frozen 0, h.b1.frozen 1, h.b1.frozen 2, Lib.hid h⟩
theorem pair_start (h : Hid (Pair2 w k1 k2 u0 u1 u2 v0 v1 v2 w1)) :
    w1.drew.cell? ⟨k2, 0, none⟩ = some v0 ∧ w1.drew.cell? ⟨k2, 1, none⟩ = some v1 ∧ w1.drew.cell? ⟨k2, 2, none⟩ = some v2 ∧
      w1.drew.cell? ⟨k1, 0, none⟩ = some u0 ∧ w1.drew.cell? ⟨k1, 1, none⟩ = some u1 ∧ w1.drew.cell? ⟨k1, 2, none⟩ = some u2 ∧
      w1.drew.frozen? ⟨k1, 0, none⟩ = false ∧ w1.drew.frozen? ⟨k1, 1, none⟩ = false ∧ w1.drew.frozen? ⟨k1, 2, none⟩ = false ∧ Hid (Pair2 w k1 k2 u0 u1 u2 v0 v1 v2 w1.drew) := (h.out.below (below_drewN (Below.refl _ _) 1)).cells
theorem pair_keep (h : Hid (Pair2 w k1 k2 u0 u1 u2 v0 v1 v2 w1)) (hb : Hid (Below w1.heap.size w1 w2)) :
    w2.cell? ⟨k2, 0, none⟩ = some v0 ∧ w2.cell? ⟨k2, 1, none⟩ = some v1 ∧ w2.cell? ⟨k2, 2, none⟩ = some v2 ∧
      w2.cell? ⟨k1, 0, none⟩ = some u0 ∧ w2.cell? ⟨k1, 1, none⟩ = some u1 ∧ w2.cell? ⟨k1, 2, none⟩ = some u2 ∧
      w2.frozen? ⟨k1, 0, none⟩ = false ∧ w2.frozen? ⟨k1, 1, none⟩ = false ∧ w2.frozen? ⟨k1, 2, none⟩ = false ∧ Hid (Pair2 w k1 k2 u0 u1 u2 v0 v1 v2 w2) := (h.out.below hb.out).cells
theorem pair_works (_ : Hid (Pair2 w k1 k2 u0 u1 u2 v0 v1 v2 w1)) : Calls Try.prog 38 #[] w1 fun e w' => e = .returned (.bool true) ∧ Hid (Below w1.heap.size w1 w') := (works_c w1).mono fun _ _ h => ⟨h.1, Lib.hid h.2⟩
end

/-- .. whatever the box of the result holds -/
def PairE (w : World) (k1 k2 : Nat) (v0 v1 v2 : Value) (w1 : World) : Prop := ∃ u0 u1 u2, Pair2 w k1 k2 u0 u1 u2 v0 v1 v2 w1
theorem PairE.below {w w1 w2 : World} {k1 k2 : Nat} {v0 v1 v2 : Value} (h : PairE w k1 k2 v0 v1 v2 w1) (hb : Below w1.heap.size w1 w2) : PairE w k1 k2 v0 v1 v2 w2 := by
  obtain ⟨u0, u1, u2, h⟩ := h
  exact ⟨u0, u1, u2, h.below hb⟩
theorem PairE.cells {w w1 : World} {k1 k2 : Nat} {v0 v1 v2 : Value} (h : PairE w k1 k2 v0 v1 v2 w1) : w1.cell? ⟨k2, 0, none⟩ = some v0 ∧ w1.cell? ⟨k2, 1, none⟩ = some v1 ∧ w1.cell? ⟨k2, 2, none⟩ = some v2 ∧ Hid (PairE w k1 k2 v0 v1 v2 w1) := by
  obtain ⟨u0, u1, u2, h⟩ := id h
  rename_i h0
  exact ⟨h.b2.cell 0, h.b2.cell 1, h.b2.cell 2, Lib.hid h0⟩
theorem paire_keep {w w1 w2 : World} {k1 k2 : Nat} {v0 v1 v2 : Value} (h : Hid (PairE w k1 k2 v0 v1 v2 w1)) (hb : Hid (Below w1.heap.size w1 w2)) :
    w2.cell? ⟨k2, 0, none⟩ = some v0 ∧ w2.cell? ⟨k2, 1, none⟩ = some v1 ∧ w2.cell? ⟨k2, 2, none⟩ = some v2 ∧ Hid (PairE w k1 k2 v0 v1 v2 w2) := (h.out.below hb.out).cells
theorem works_k (w1 : World) : Calls Try.prog 38 #[] w1 fun e w' => e = .returned (.bool true) ∧ Hid (Below w1.heap.size w1 w') := (works_c w1).mono fun _ _ h => ⟨h.1, Lib.hid h.2⟩

theorem paire_sets {w w1 : World} {k1 k2 : Nat} {u0 u1 u2 v0 v1 v2 : Value} (h : Hid (Pair2 w k1 k2 u0 u1 u2 v0 v1 v2 w1)) (hk : k1 < k2) (hw : w.heap.size ≤ k1) (y0 y1 y2 : Value) :
    (((w1.setCell ⟨k1, 0, none⟩ y0).setCell ⟨k1, 1, none⟩ y1).setCell ⟨k1, 2, none⟩ y2).cell? ⟨k2, 0, none⟩ = some v0 ∧ (((w1.setCell ⟨k1, 0, none⟩ y0).setCell ⟨k1, 1, none⟩ y1).setCell ⟨k1, 2, none⟩ y2).cell? ⟨k2, 1, none⟩ = some v1 ∧ (((w1.setCell ⟨k1, 0, none⟩ y0).setCell ⟨k1, 1, none⟩ y1).setCell ⟨k1, 2, none⟩ y2).cell? ⟨k2, 2, none⟩ = some v2 ∧
      Hid (PairE w k1 k2 v0 v1 v2 (((w1.setCell ⟨k1, 0, none⟩ y0).setCell ⟨k1, 1, none⟩ y1).setCell ⟨k1, 2, none⟩ y2)) := by
  have hP := h.out
  have hm := mod3 w1 k1 y0 y1 y2
  exact PairE.cells ⟨_, _, _, below_mod hP.bel hm hP.bel.size (fun i hi e => by omega), ((hP.b1.set_ 0 _).set_ 1 _).set_ 2 _, hP.b2.keep hm (by omega)⟩

set_option maxHeartbeats 400000 in
set_option maxRecDepth 100000 in
theorem made_c (limit : Int) (w : World) (h0 : 0 ≤ limit) (h1 : limit ≤ 65536) :
    Calls Try.prog 16 #[.int .i64 limit] w fun e w' => ∃ b v, e = .returned (.tuple #[.pointer (some ⟨b, 0, none⟩), v, .bool true]) ∧ Both w w' b none none v ⟨limit, [], false⟩ := by
  go_enter Try.func16, Try.ntmps16
  go_wp2_with fail
  refine (new_c limit _ h0 h1).mono ?_
  rintro e w1 ⟨rfl, q1, b1⟩
  go_wp2_with fail
  refine (rnew_c limit _ h0 h1).mono ?_
  rintro e w2 ⟨v, rfl, q2, b2⟩
  obtain ⟨sv, ps, hv, hR, -⟩ := id q2
  obtain ⟨bo, bcap, hsv⟩ := hR.shape
  subst hsv
  subst hv
  have hs : w.heap.size < w2.heap.size := by
    have := b1.size
    have := b2.size
    simp at *
    omega
  have hp : Pair2 w w.heap.size w2.heap.size (.int .i64 0) (.slice none 0 0) (.bool false) (.int .i64 limit) (.slice bo ps.length bcap) (.bool false) (w2.alloc (.cells #[.int .i64 limit, .slice bo ps.length bcap, .bool false] 29)) := by
    have hb : Below w.heap.size w w2 := (((Below.refl _ _).alloc (Nat.le_refl _) _).trans (b1.mono (by simp))).trans (b2.mono (by have := b1.size; simp at this; omega))
    have hk := Blk.new w 29 #[.int .i64 0, .slice none 0 0, .bool false]
    have hk1 : Blk w1 w.heap.size 29 _ := (b1.block _ hk.lt).trans hk
    have hk2 : Blk w2 w.heap.size 29 _ := (b2.block _ hk1.lt).trans hk1
    exact ⟨hb.alloc hb.size _, hk2.alloc _, Blk.new _ _ _⟩
  have HP := Lib.hid hp
  have hbo : Both w (w2.alloc (.cells #[.int .i64 limit, .slice bo ps.length bcap, .bool false] 29)) (w.heap.size + 1) none none (.agg #[.int .i64 limit, .slice bo ps.length bcap, .bool false]) ⟨limit, [], false⟩ := by
    refine ⟨⟨?_, by omega, by simp, hp.bel⟩, q2.alloc _, by simp, by simp⟩
    have := (q1.below b2).alloc (.cells #[.int .i64 limit, .slice bo ps.length bcap, .bool false] 29)
    simpa using this
  have HB := Lib.hid hbo
  clear q1 q2 b1 b2 hR hbo
  obtain ⟨c0, c1, c2⟩ : _ ∧ _ ∧ _ := ⟨hp.b2.cell 0, hp.b2.cell 1, hp.b2.cell 2⟩
  obtain ⟨d0, d1, d2⟩ : _ ∧ _ ∧ _ := ⟨hp.b1.cell 0, hp.b1.cell 1, hp.b1.cell 2⟩
  obtain ⟨f0, f1, f2⟩ : _ ∧ _ ∧ _ := ⟨hp.b1.frozen 0, hp.b1.frozen 1, hp.b1.frozen 2⟩
  simp only [List.getElem?_toArray, List.getElem?_cons_succ, List.getElem?_cons_zero] at c0 c1 c2 d0 d1 d2
  clear hp
  go_wp2_with fail
  have hd := HP.out.below (below_drewN (Below.refl _ _) 1)
  have HD := Lib.hid hd
  have HE : Hid (PairE w w.heap.size w2.heap.size (.int .i64 limit) (.slice bo ps.length bcap) (.bool false) (w2.alloc (.cells #[.int .i64 limit, .slice bo ps.length bcap, .bool false] 29)).drew) := Lib.hid ⟨_, _, _, hd⟩
  clear d0 d1 d2 f0 f1 f2 hd
  go_region_held3 (fun w' => w'.cell? ⟨w2.heap.size, 0, none⟩ = some (.int .i64 limit) ∧ w'.cell? ⟨w2.heap.size, 1, none⟩ = some (.slice bo ps.length bcap) ∧ w'.cell? ⟨w2.heap.size, 2, none⟩ = some (.bool false) ∧ Hid (PairE w w.heap.size w2.heap.size (.int .i64 limit) (.slice bo ps.length bcap) (.bool false) w'))
    (first | exact HE.out.cells | (go_split_ands; exact paire_keep (by assumption) (by assumption)) | exact paire_sets HX hs (Nat.le_refl _) _ _ _)
    (first | (go_at_call 38; refine (works_k _).mono ?_; rintro e w' ⟨rfl, HW⟩; obtain ⟨x0, x1, x2, x3, x4, x5, x6, x7, x8, HX⟩ := pair_keep HD HW))
  go_wp2
  refine bodyPost_ret (v := .tuple #[.pointer (some ⟨w.heap.size + 1, 0, none⟩), .agg #[.int .i64 limit, .slice bo ps.length bcap, .bool false], .bool true]) (by simp [results, Try.results16, go_sem, x3, x4, x5]) rfl ?_
  have hb2 := (HB.out.below (below_drewN (Below.refl _ _) 1)).below HW.out
  have hm := mod3 w' w.heap.size (.int .i64 limit) (.slice bo ps.length bcap) (.bool false)
  exact ⟨_, _, rfl, ⟨hb2.own.q.mod hm (fun k hk e => hk.elim (fun e' => by omega) (fun e' => nomatch e')), hb2.own.b0, hb2.own.g0, below_mod hb2.own.bel hm hb2.own.bel.size fun i hi e => by omega⟩, hb2.rr.mod hm (by simp), hb2.off, hb2.r0⟩

set_option maxHeartbeats 400000 in
set_option maxRecDepth 100000 in
theorem made_no (limit : Int) (w : World) (h : limit < 0 ∨ 65536 < limit) :
    Calls Try.prog 16 #[.int .i64 limit] w fun e w' => e = .returned (.tuple #[.pointer none, .agg #[.int .i64 0, .slice none 0 0, .bool false], .bool true]) ∧ Below w.heap.size w w' := by
  go_enter Try.func16, Try.ntmps16
  go_wp2_with fail
  refine (new_no limit _ h).mono ?_
  rintro e w1 ⟨rfl, rfl⟩
  go_wp2_with fail
  refine (rnew_no limit _ h).mono ?_
  rintro e w2 ⟨rfl, b2⟩
  have hs : w.heap.size < w2.heap.size := by
    have := b2.size
    simp at this
    omega
  have hp : Pair2 w w.heap.size w2.heap.size (.int .i64 0) (.slice none 0 0) (.bool false) (.int .i64 0) (.slice none 0 0) (.bool false) (w2.alloc (.cells #[.int .i64 0, .slice none 0 0, .bool false] 29)) := by
    have hb : Below w.heap.size w w2 := ((Below.refl _ _).alloc (Nat.le_refl _) _).trans (b2.mono (by simp))
    have hk := Blk.new w 29 #[.int .i64 0, .slice none 0 0, .bool false]
    have hk2 : Blk w2 w.heap.size 29 _ := (b2.block _ hk.lt).trans hk
    exact ⟨hb.alloc hb.size _, hk2.alloc _, Blk.new _ _ _⟩
  have HP := Lib.hid hp
  clear b2
  obtain ⟨c0, c1, c2⟩ : _ ∧ _ ∧ _ := ⟨hp.b2.cell 0, hp.b2.cell 1, hp.b2.cell 2⟩
  simp only [List.getElem?_toArray, List.getElem?_cons_succ, List.getElem?_cons_zero] at c0 c1 c2
  clear hp h
  go_wp2_with fail
  have hd := HP.out.below (below_drewN (Below.refl _ _) 1)
  have HD := Lib.hid hd
  have HE : Hid (PairE w w.heap.size w2.heap.size (.int .i64 0) (.slice none 0 0) (.bool false) (w2.alloc (.cells #[.int .i64 0, .slice none 0 0, .bool false] 29)).drew) := Lib.hid ⟨_, _, _, hd⟩
  clear hd
  go_region_held3 (fun w' => w'.cell? ⟨w2.heap.size, 0, none⟩ = some (.int .i64 0) ∧ w'.cell? ⟨w2.heap.size, 1, none⟩ = some (.slice none 0 0) ∧ w'.cell? ⟨w2.heap.size, 2, none⟩ = some (.bool false) ∧ Hid (PairE w w.heap.size w2.heap.size (.int .i64 0) (.slice none 0 0) (.bool false) w'))
    (first | exact HE.out.cells | (go_split_ands; exact paire_keep (by assumption) (by assumption)) | exact paire_sets HX hs (Nat.le_refl _) _ _ _)
    (first | (go_at_call 38; refine (works_k _).mono ?_; rintro e w' ⟨rfl, HW⟩; obtain ⟨x0, x1, x2, x3, x4, x5, x6, x7, x8, HX⟩ := pair_keep HD HW))
  go_wp2
  refine bodyPost_ret (v := .tuple #[.pointer none, .agg #[.int .i64 0, .slice none 0 0, .bool false], .bool true]) (by simp [results, Try.results16, go_sem, x3, x4, x5]) rfl ?_
  have hb2 := (HP.out.below (below_drewN (Below.refl _ _) 1)).below HW.out
  have hm := mod3 w' w.heap.size (.int .i64 0) (.slice none 0 0) (.bool false)
  exact ⟨rfl, below_mod hb2.bel hm hb2.bel.size fun i hi e => by omega⟩
end Go.Proofs.Ytbfmfliknhcoeaa
