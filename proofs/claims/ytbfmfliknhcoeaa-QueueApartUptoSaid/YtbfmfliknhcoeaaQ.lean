/- The queue in memory: what the program's pointer stands for. -/
import Derived.Test.YtbfmfliknhcoeaaM
import Derived.Test.YtbfmfliknhcoeaaP
namespace Go.Proofs.Ytbfmfliknhcoeaa
open Go.RowKit QP

def partCells (p : Part) : List Value := [.int .i64 p.pane, .int .i64 p.tick, .string p.text]
def cellsOf (ps : List Part) : List Value := ps.flatMap partCells
theorem cellsOf_nil : cellsOf [] = [] := rfl
theorem cellsOf_cons (p : Part) (ps : List Part) : cellsOf (p :: ps) = partCells p ++ cellsOf ps := by simp [cellsOf]
theorem cellsOf_append (a b : List Part) : cellsOf (a ++ b) = cellsOf a ++ cellsOf b := by simp [cellsOf]
theorem cellsOf_length (ps : List Part) : (cellsOf ps).length = ps.length * 3 := by
  induction ps with
  | nil => rfl
  | cons p ps ih => rw [cellsOf_cons, List.length_append, ih, List.length_cons, Nat.succ_mul, Nat.add_comm]; rfl
theorem cellsOf_get (ps : List Part) (i : Nat) (h : i < ps.length) (j : Nat) (hj : j < 3) : (cellsOf ps)[i * 3 + j]? = (partCells ps[i])[j]? := by
  induction ps generalizing i with
  | nil => simp at h
  | cons p ps ih =>
    rw [cellsOf_cons]
    cases i with
    | zero => rw [Nat.zero_mul, Nat.zero_add, List.getElem?_append_left (by simpa [partCells] using hj)]; rfl
    | succ i =>
      have hl : (partCells p).length = 3 := rfl
      rw [List.getElem?_append_right (by rw [hl]; omega), hl, show (i + 1) * 3 + j - 3 = i * 3 + j by omega, ih i (by simpa using h)]
      rfl

theorem parts_le {ps : List Part} (h : okParts ps) : ps.length ≤ (flat ps).length := by
  induction ps with
  | nil => simp
  | cons p ps ih =>
    have h1 := (h p (by simp)).1
    have h2 := ih fun q hq => h q (by simp [hq])
    rw [flat_cons, List.length_append, tagged_length, List.length_cons]
    omega

/-- The queue at block b, its parts at block g: its limit, its bytes with their owners, whether it is closed. -/
def QIs (w : World) (b : Nat) (g : Option Nat) (limit : Int) (closed : Bool) (fl : Fl) : Prop :=
  ∃ sv parts, Blk w b 71 #[.int .i64 limit, .int .i64 fl.length, sv, .bool closed] ∧ Row w 76 3 sv parts.length (cellsOf parts) ∧ sv.ownBlock = g ∧ g ≠ some b ∧ flat parts = fl ∧ okParts parts

def foot (b : Nat) (g : Option Nat) : Nat → Prop := fun k => k = b ∨ g = some k
end Go.Proofs.Ytbfmfliknhcoeaa
