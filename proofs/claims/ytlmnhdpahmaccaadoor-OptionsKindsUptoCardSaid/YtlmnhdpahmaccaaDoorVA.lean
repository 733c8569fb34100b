/- The library's variables that these functions read: they stay as nothing but new blocks turns. -/
import Derived.Test.YtlmnhdpahmaccaaDoorSH
import Derived.Test.YtlmnhdpahmaccaaDoorKA
import Derived.Lib.SmallJoins
namespace Go.Proofs.YtlmnhdpahmaccaaDoor
open Go.RowKit

structure VarsAt (w : World) : Prop where
  sh : ShapesAt w
  sp : Lib.TabIs Tryd.prog w "strings.asciiSpace" .u8 Lib.asciiSpaceTab
  pw : Lib.TabIs Tryd.prog w "internal/strconv.uint64pow10" .u64 Lib.pow10Tab
  u8 : Lib.Utf8Tabs 5 6 w
  es : ∃ tp p, w.var? Tryd.prog "strconv.ErrSyntax" = some #[.iface tp p]
  er : ∃ tp p, w.var? Tryd.prog "strconv.ErrRange" = some #[.iface tp p]
theorem VarsAt.below {w w1 : World} (h : VarsAt w) (hb : Below w.heap.size w w1) : VarsAt w1 where
  sh := h.sh.below hb (Nat.le_refl _)
  sp := Go.Joins.tab_stays (g := 0) (by kernel_rfl) h.sp hb (Nat.le_refl _)
  pw := Go.Joins.tab_stays (g := 7) (by kernel_rfl) h.pw hb (Nat.le_refl _)
  u8 := Utf8Tabs_below h.u8 hb
  es := by obtain ⟨tp, p, e⟩ := h.es; exact ⟨tp, p, Go.Joins.var_stays (g := 3) (by kernel_rfl) e hb (Nat.le_refl _)⟩
  er := by obtain ⟨tp, p, e⟩ := h.er; exact ⟨tp, p, Go.Joins.var_stays (g := 4) (by kernel_rfl) e hb (Nat.le_refl _)⟩
end Go.Proofs.YtlmnhdpahmaccaaDoor
