/- The special keys' shapes: from what the row lists to what the walk reads. -/
import Derived.Test.YtlmnhdpahmaccaaDoorKA
import Derived.Test.YtlmnhdpahmaccaaDoorRows
import Derived.Lib.LaidU8
import Derived.OpenShut
import Derived.ChangeSame
namespace Go.Proofs.YtlmnhdpahmaccaaDoor
open Go.RowKit Go.ChangeShapes Go.WideShapes QP

def shapeData {H : Type} (s : Shape) : DataW H := .agg [.lit (.string s.name.data.toList), .lit (.int .u8 s.letter), .lit (.int .i64 s.number), .lit (.bool s.far)]
theorem laid_shapes : Rows.laid_mullion_keys_shapes (H := Unit) = .agg (shapes.map shapeData) := by kernel_rfl
theorem cells_shape : Tryd.prog.cellsOf 111 = 4 := by kernel_rfl
theorem cells_s : Tryd.prog.cellsOf 9 = 1 := by kernel_rfl
theorem cells_u8 : Tryd.prog.cellsOf 5 = 1 := by kernel_rfl
theorem cells_i : Tryd.prog.cellsOf 3 = 1 := by kernel_rfl
theorem cells_b : Tryd.prog.cellsOf 4 = 1 := by kernel_rfl

set_option maxRecDepth 100000 in
theorem shape_open {w : World} {fuel : Nat} {cs : List Value} {x : DataW Unit × List MemPlace} (h : DataW.trod (fun _ => ()) Tryd.prog w 0 (fun _ => true) false fuel 111 cs = some x) {s : Shape} (hs : x.1 = shapeData s) : cs = shapeCells s := by
  obtain ⟨xs, n, _, hx, hcl, hlen, hg⟩ := DataW.trod_struct Tryd.underlying111 h
  have hcl := hcl.trans cells_shape
  match cs, hcl with
  | [c0, c1, c2, c3], _ =>
    match xs, hlen with
    | [y0, y1, y2, y3], _ =>
      have g0 : DataW.trod (fun _ => ()) Tryd.prog w 0 (fun _ => true) false n 9 (([c0, c1, c2, c3].drop 0).take (Tryd.prog.cellsOf 9)) = some y0 := hg 0 _ rfl
      rw [cells_s] at g0
      have g1 : DataW.trod (fun _ => ()) Tryd.prog w 0 (fun _ => true) false n 5 (([c0, c1, c2, c3].drop 1).take (Tryd.prog.cellsOf 5)) = some y1 := hg 1 _ rfl
      rw [cells_u8] at g1
      have g2 : DataW.trod (fun _ => ()) Tryd.prog w 0 (fun _ => true) false n 3 (([c0, c1, c2, c3].drop 2).take (Tryd.prog.cellsOf 3)) = some y2 := hg 2 _ rfl
      rw [cells_i] at g2
      have g3 : DataW.trod (fun _ => ()) Tryd.prog w 0 (fun _ => true) false n 4 (([c0, c1, c2, c3].drop 3).take (Tryd.prog.cellsOf 4)) = some y3 := hg 3 _ rfl
      rw [cells_b] at g3
      obtain ⟨a0, e0, x0, -⟩ := DataW.trod_string Tryd.underlying9 (show DataW.trod (fun _ => ()) Tryd.prog w 0 (fun _ => true) false n 9 [c0] = some y0 from g0)
      obtain ⟨a1, e1, x1, -⟩ := DataW.trod_int Tryd.underlying5 (show DataW.trod (fun _ => ()) Tryd.prog w 0 (fun _ => true) false n 5 [c1] = some y1 from g1)
      obtain ⟨a2, e2, x2, -⟩ := DataW.trod_int Tryd.underlying3 (show DataW.trod (fun _ => ()) Tryd.prog w 0 (fun _ => true) false n 3 [c2] = some y2 from g2)
      obtain ⟨a3, e3, x3⟩ := DataW.trod_bool Tryd.underlying4 (show DataW.trod (fun _ => ()) Tryd.prog w 0 (fun _ => true) false n 4 [c3] = some y3 from g3)
      simp only [List.cons.injEq, and_true] at e0 e1 e2 e3
      subst e0 e1 e2 e3
      subst x0 x1 x2 x3
      rw [hx] at hs
      simp only [shapeData, List.map_cons, List.map_nil, DataW.agg.injEq, List.cons.injEq, DataW.lit.injEq, Lit.string.injEq, Lit.int.injEq, Lit.bool.injEq, and_true, true_and] at hs
      obtain ⟨h0, h1, h2, h3⟩ := hs
      have e : a0 = s.name := ByteArray.ext (Array.toList_inj.1 h0)
      rw [e, h1, h2, h3]
      rfl

theorem data_len : (shapes.map (shapeData (H := Unit))).length = 22 := rfl
set_option maxRecDepth 100000 in
theorem shapes_of_laid {W : World} (h : Lib.VarReads Tryd.prog W "mullion/keys.shapes" Rows.laid_mullion_keys_shapes) : ShapesAt W := by
  obtain ⟨g, t, cs, fuel, p, hg, ht, hvar, hd⟩ := h
  obtain rfl : 2 = g := Option.some.inj ((show Tryd.prog.globalNamed "mullion/keys.shapes" = some 2 by kernel_rfl).symm.trans hg)
  obtain rfl : 112 = t := Option.some.inj ((show (Tryd.prog.globals[2]?).map (·.type) = some 112 by kernel_rfl).symm.trans ht)
  obtain ⟨xs, m, _, hx, hcl, hlen, hi⟩ := DataW.trod_array Tryd.underlying112 hd
  rw [laid_shapes] at hx
  simp only [Prod.mk.injEq, DataW.agg.injEq] at hx
  intro j v hj
  have hjl : j < 88 := by
    have := (List.getElem?_eq_some_iff.1 hj).1
    have hl : shapesCells.length = 88 := by kernel_rfl
    omega
  have hq : j / 4 < 22 := by omega
  have hxl : j / 4 < xs.length := by omega
  have h1 := hi (j / 4) hq
  rw [cells_shape, List.getElem?_eq_getElem hxl] at h1
  have hsd : (xs[j / 4]'hxl).1 = shapeData (shapes[j / 4]'hq) := by
    have h2 := congrArg (fun l => l[j / 4]?) hx.1
    simp only [List.getElem?_map, List.getElem?_eq_getElem hxl, List.getElem?_eq_getElem (show j / 4 < shapes.length from hq), Option.map_some, Option.some.injEq] at h2
    exact h2.symm
  have h3 := shape_open h1 hsd
  have h4 := flat4_get shapes (j / 4) hq (j % 4) (Nat.mod_lt _ (by decide))
  rw [show j / 4 * 4 + j % 4 = j by omega] at h4
  have h5 : (shapeCells (shapes[j / 4]'hq))[j % 4]? = some v := h4.symm.trans hj
  rw [← h3, List.getElem?_take, if_pos (Nat.mod_lt _ (by decide)), List.getElem?_drop, show j / 4 * 4 + j % 4 = j by omega] at h5
  have h6 := World.var?_cell hg hvar j
  rw [Nat.zero_add]
  have : cs[j]? = some v := by simpa using h5
  rw [h6, this]
end Go.Proofs.YtlmnhdpahmaccaaDoor
