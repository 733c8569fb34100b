/- options: table, of, Names, Scope, New. -/
import Derived.Test.YtlmnhdpahmaccaaDoorBX
import Derived.Test.YtlmnhdpahmaccaaDoorOP
import Derived.Test.YtlmnhdpahmaccaaDoorMX
namespace Go.Proofs.YtlmnhdpahmaccaaDoor
open Go.RowKit QP

def rowCells (r : ORow) : List Value := [.string r.name, .int .i64 r.scope, .int .i64 r.kind, .int .i64 r.lo, .int .i64 r.hi, .string r.words, .string r.first]
def rowVal (r : ORow) : Value := .agg (rowCells r).toArray
def rowsCells (l : List ORow) : List Value := l.flatMap rowCells
theorem rowsCells_get (l : List ORow) (i : Nat) (h : i < l.length) (j : Nat) (hj : j < 7) : (rowsCells l)[i * 7 + j]? = (rowCells l[i])[j]? := by
  induction l generalizing i with
  | nil => simp at h
  | cons p ps ih =>
    have hc : rowsCells (p :: ps) = rowCells p ++ rowsCells ps := by simp [rowsCells]
    have hl : (rowCells p).length = 7 := rfl
    rw [hc]
    cases i with
    | zero => rw [Nat.zero_mul, Nat.zero_add, List.getElem?_append_left (by omega)]; rfl
    | succ i => rw [List.getElem?_append_right (by omega), hl, show (i + 1) * 7 + j - 7 = i * 7 + j by omega, ih i (by simpa using h)]; rfl
def zeroRow : ORow := ⟨⟨#[]⟩, 0, 0, 0, 0, ⟨#[]⟩, ⟨#[]⟩⟩
def ofRow (name : ByteArray) : ORow := (rowOf name).getD zeroRow

set_option maxHeartbeats 4000000 in
set_option maxRecDepth 100000 in
theorem table_c (w : World) : Calls Tryd.prog 22 #[] w fun e w' => ∃ g, e = .returned (.slice (some ⟨g, 0, none⟩) 22 22) ∧ w.heap.size ≤ g ∧ Rd w' 7 (.slice (some ⟨g, 0, none⟩) 22 22) 22 (rowsCells table) ∧ Below w.heap.size w w' := by
  go_enter Tryd.func22, Tryd.ntmps22
  go_wp2
  go_ret
  refine ⟨w.heap.size, rfl, Nat.le_refl _, ?_, (Below.refl _ _).alloc (Nat.le_refl _) _⟩
  exact Rd.box _ _ 7 22 _ rfl rfl

end Go.Proofs.YtlmnhdpahmaccaaDoor
