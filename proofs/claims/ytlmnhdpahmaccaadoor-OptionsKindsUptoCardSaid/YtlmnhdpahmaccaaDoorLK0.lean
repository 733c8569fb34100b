/- What the walk of OptionsKinds keeps. -/
import Derived.Test.YtlmnhdpahmaccaaDoorLB
import Derived.Test.YtlmnhdpahmaccaaDoorSB
import Derived.Test.YtlmnhdpahmaccaaDoorRB
import Derived.Deep.RegionHeld3
namespace Go.Proofs.YtlmnhdpahmaccaaDoor
open Go.RowKit QP

theorem ops_at {W w : World} {so : Option Addr} {cap : Nat} {ops : List KOp} (h : Rd W 7 (.slice so ops.length cap) ops.length (opsCells ops)) (hb : Below W.heap.size W w) (j : Nat) (hj : j < ops.length) :
    ∃ g off, so = some ⟨g, off, none⟩ ∧ ops.length ≤ cap ∧ w.cell? ⟨g, off + j * 7, none⟩ = some (.int .i64 ops[j].kind) ∧ w.cell? ⟨g, off + j * 7 + 1, none⟩ = some (.int .i64 ops[j].sc) ∧ w.cell? ⟨g, off + j * 7 + 2, none⟩ = some (.int .i64 ops[j].a) ∧
      w.cell? ⟨g, off + j * 7 + 3, none⟩ = some (.int .i64 ops[j].b) ∧ w.cell? ⟨g, off + j * 7 + 4, none⟩ = some (.int .i64 ops[j].c) ∧ w.cell? ⟨g, off + j * 7 + 5, none⟩ = some (.string ops[j].name) ∧ w.cell? ⟨g, off + j * 7 + 6, none⟩ = some (.string ops[j].value) := by
  obtain ⟨g, off, cap', hv, hnc, hc⟩ := (h.kept (by decide) hb).at_ (by omega)
  cases hv
  have key : ∀ i, i < 7 → ∀ u, (opCells ops[j])[i]? = some u → w.cell? ⟨g, off + j * 7 + i, none⟩ = some u := fun i hi u hu => by
    have := hc (j * 7 + i) u ((opsCells_get ops j hj i hi).trans hu)
    rwa [← Nat.add_assoc] at this
  exact ⟨g, off, rfl, hnc, key 0 (by decide) _ rfl, key 1 (by decide) _ rfl, key 2 (by decide) _ rfl, key 3 (by decide) _ rfl, key 4 (by decide) _ rfl, key 5 (by decide) _ rfl, key 6 (by decide) _ rfl⟩
theorem seven_cells {w : World} {k : Nat} {t : TypeId} {q : KOp} (h : Blk w k t (opCells q).toArray) :
    w.cell? ⟨k, 0, none⟩ = some (.int .i64 q.kind) ∧ w.cell? ⟨k, 1, none⟩ = some (.int .i64 q.sc) ∧ w.cell? ⟨k, 2, none⟩ = some (.int .i64 q.a) ∧ w.cell? ⟨k, 3, none⟩ = some (.int .i64 q.b) ∧ w.cell? ⟨k, 4, none⟩ = some (.int .i64 q.c) ∧ w.cell? ⟨k, 5, none⟩ = some (.string q.name) ∧ w.cell? ⟨k, 6, none⟩ = some (.string q.value) :=
  ⟨h.cell 0, h.cell 1, h.cell 2, h.cell 3, h.cell 4, h.cell 5, h.cell 6⟩
theorem kinds_new {W : World} {last : KOp} {w1 : World} {k b : Nat} (ho : OptIs w1 k b []) (hkb : k ≠ b) (hbl : (W.alloc (.cells (opCells last).toArray 41)).heap.size ≤ b)
    (hb : Below (W.alloc (.cells (opCells last).toArray 41)).heap.size (W.alloc (.cells (opCells last).toArray 41)) w1) : KindAt W w1 k b W.heap.size [] last := by
  have e1 : (W.alloc (.cells (opCells last).toArray 41)).heap.size = W.heap.size + 1 := by simp
  exact ⟨((Below.refl _ _).alloc (Nat.le_refl _) _).trans (hb.mono (by omega)), ho, Good.nil, (Blk.new W 41 (opCells last).toArray).below_ hb, hkb, by omega, by omega⟩

structure RowsAt (w : World) (g b : Nat) : Prop where
  tab : Rd w 7 (.slice (some ⟨g, 0, none⟩) 22 22) 22 (rrowsCells b table)
  wds : WordsAt w b
theorem RowsAt.below {w w1 : World} {g b : Nat} (h : RowsAt w g b) (hb : Below w.heap.size w w1) : RowsAt w1 g b := ⟨h.tab.kept (by decide) hb, h.wds.below hb⟩

structure KR (W w : World) (k b kx : Nat) (E : List (PK × ByteArray)) (last : KOp) (g bb : Nat) : Prop where
  k : KindAt W w k b kx E last
  r : RowsAt w g bb
theorem KR.below {W w w1 : World} {k b kx g bb : Nat} {E : List (PK × ByteArray)} {last : KOp} (h : KR W w k b kx E last g bb) (hb : Below w.heap.size w w1) : KR W w1 k b kx E last g bb := ⟨h.k.below hb, h.r.below hb⟩
theorem KR.get_c {W w : World} {k b kx g bb : Nat} {E : List (PK × ByteArray)} {last : KOp} (h : KR W w k b kx E last g bb) (i : Nat) (hi : i < 22) (s wi p : Int) (h1 : I64 s) (h2 : I64 wi) (h3 : I64 p) (h4 : (table[i]'hi).name.size ≤ 1048576) :
    Calls Tryd.prog 9 #[.pointer (some ⟨k, 0, none⟩), .string (table[i]'hi).name, .int .i64 s, .int .i64 wi, .int .i64 p] w fun e w' =>
      e = .returned (.tuple #[.string (getVal (look E) (table[i]'hi).name s wi p).1, .int .i64 0]) ∧ Hid (KR W w' k b kx E last g bb) := by
  have h0 : I64 1 := ⟨by decide, by decide⟩
  have hg := (h.k.good.get i hi s wi p).1
  refine (Go.Proofs.YtlmnhdpahmaccaaDoor.get_c k b E _ s wi p w h.k.o (OkPk.mk' h0 h1 h4) (OkPk.mk' h0 h2 h4) (OkPk.mk' h0 h3 h4)).mono ?_
  rintro e w' ⟨rfl, hb⟩
  exact ⟨by rw [hg], Lib.hid (h.below hb.out)⟩
theorem name_size : ∀ k, ∀ h : k < 22, (table[k]'h).name.size ≤ 1048576 := by decide +kernel
/-- what a drawn region keeps, and finds -/
def Keeps (W : World) (k b kx : Nat) (E : List (PK × ByteArray)) (last : KOp) (g bb i : Nat) (r : ORow) (w : World) : Prop :=
  w.cell? ⟨g, i * 7, none⟩ = some (.string r.name) ∧ w.cell? ⟨kx, 2, none⟩ = some (.int .i64 last.a) ∧ w.cell? ⟨kx, 3, none⟩ = some (.int .i64 last.b) ∧ w.cell? ⟨kx, 4, none⟩ = some (.int .i64 last.c) ∧ Hid (KR W w k b kx E last g bb)
theorem keeps_of {W w : World} {k b kx g bb i : Nat} {E : List (PK × ByteArray)} {last : KOp} {r : ORow} (h : Hid (KR W w k b kx E last g bb)) (hi : i < 22) (hr : Hid (table[i]'hi = r)) : w.cell? ⟨g, i * 7, none⟩ = some (.string r.name) ∧ w.cell? ⟨kx, 2, none⟩ = some (.int .i64 last.a) ∧ w.cell? ⟨kx, 3, none⟩ = some (.int .i64 last.b) ∧ w.cell? ⟨kx, 4, none⟩ = some (.int .i64 last.c) ∧ Hid (KR W w k b kx E last g bb) := by
  obtain ⟨-, -, c2, c3, c4, -, -⟩ := seven_cells h.out.k.box
  have r0 := (rrow_at h.out.r.tab (i := i) hi).1
  rw [hr.out] at r0
  exact ⟨r0, c2, c3, c4, h⟩

theorem keeps2_of {W w : World} {k b kx : Nat} {E : List (PK × ByteArray)} {last : KOp} (h : Hid (KindAt W w k b kx E last)) : w.cell? ⟨kx, 1, none⟩ = some (.int .i64 last.sc) ∧ w.cell? ⟨kx, 2, none⟩ = some (.int .i64 last.a) ∧ w.cell? ⟨kx, 5, none⟩ = some (.string last.name) ∧ Hid (KindAt W w k b kx E last) := by
  obtain ⟨-, c1, c2, -, -, c5, -⟩ := seven_cells h.out.box
  exact ⟨c1, c2, c5, h⟩
theorem scope_at {W w : World} {k b kx : Nat} {E : List (PK × ByteArray)} {last : KOp} (h : Hid (KindAt W w k b kx E last)) (sc : Int) (hs : (ofRow last.name).scope = sc) : Calls Tryd.prog 12 #[.string last.name] w fun e w' => e = .returned (.int .i64 sc) ∧ Hid (KindAt W w' k b kx E last) := by
  refine (scope_c last.name w).mono ?_
  rintro e w' ⟨rfl, hb⟩
  exact ⟨by rw [hs], Lib.hid (h.out.below hb.out)⟩
theorem may_same {sc id : Int} {name : ByteArray} (h : mayCode sc id name = 0) (h3 : sc ≠ 3) : (ofRow name).scope = sc := by
  obtain ⟨r, -, ho, hsc, -⟩ := may_parts h
  rw [ho]
  omega
theorem may_zero {sc id : Int} {name : ByteArray} (h : mayCode sc id name = 0) (h3 : sc ≠ 2 ∧ sc ≠ 3 ∧ sc ≠ 4) : id = 0 := by
  obtain ⟨r, -, -, hsc, -, -, h1, hs⟩ := may_parts h
  exact h1 (by omega)
theorem i64_0 : I64 0 := ⟨by decide, by decide⟩
theorem i64_pane : I64 1099511627776 := ⟨by decide, by decide⟩

end Go.Proofs.YtlmnhdpahmaccaaDoor
