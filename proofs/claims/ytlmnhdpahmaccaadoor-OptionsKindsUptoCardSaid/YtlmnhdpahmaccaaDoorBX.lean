/- Small words beside M. -/
import Derived.Test.YtlmnhdpahmaccaaDoorM
import Derived.Test.YtlmnhdpahmaccaaDoorProg
import Derived.Deep.QuietTactic
import Derived.BigQuiet
import Derived.BigRegion
import Derived.Deep.RegionLaw
namespace Go.Proofs.YtlmnhdpahmaccaaDoor
open Go.RowKit

def strs (l : List ByteArray) : List Value := l.map Value.string
theorem strs_length (l : List ByteArray) : (strs l).length = l.length := by simp [strs]
theorem strs_get (l : List ByteArray) (i : Nat) (h : i < l.length) : (strs l)[i]? = some (.string l[i]) := by simp [strs, h]
theorem Rd.lt {w : World} {sz n : Nat} {v : Value} {xs : List Value} (h : Rd w sz v n xs) (hn : 0 < n) (hs : 0 < sz) : ∀ k, v.ownBlock = some k → k < w.heap.size := by
  intro k hk
  obtain ⟨ao, cap, rfl, hl, -, hc⟩ := h
  obtain ⟨g, off, rfl, hx⟩ := hc hn
  have hpos : 0 < xs.length := by rw [hl]; exact Nat.mul_pos hn hs
  have := hx 0 xs[0] (by simp)
  have hlt : g < w.heap.size := World.block_lt_of_cell? w _ this
  simp [Value.ownBlock] at hk
  omega
theorem Rd.kept {w w1 : World} {sz n : Nat} {v : Value} {xs : List Value} (h : Rd w sz v n xs) (hs : 0 < sz) (hb : Below w.heap.size w w1) : Rd w1 sz v n xs := by
  rcases Nat.eq_zero_or_pos n with h0 | h0
  · obtain ⟨ao, cap, h1, h2, h3, -⟩ := h
    exact ⟨ao, cap, h1, h2, h3, fun hh => by omega⟩
  · exact h.below hb (h.lt h0 hs)
theorem Blk.below_ {w w1 : World} {k : Nat} {t : TypeId} {cs : Array Value} (h : Blk w k t cs) (hb : Below w.heap.size w w1) : Blk w1 k t cs := (hb.block _ h.lt).trans h
theorem below_box {w w1 : World} (h : Below w.heap.size w w1) (o : Obj) : Below w.heap.size w (w1.alloc o) := h.alloc h.size o
theorem below_of {w w1 w2 : World} (h : Below w.heap.size w w1) (k : Below w1.heap.size w1 w2) : Below w.heap.size w w2 := h.trans (k.mono h.size)
end Go.Proofs.YtlmnhdpahmaccaaDoor
