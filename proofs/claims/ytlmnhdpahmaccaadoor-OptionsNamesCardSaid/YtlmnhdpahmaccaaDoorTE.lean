/- the law's sameTexts. -/
import Derived.Test.YtlmnhdpahmaccaaDoorTB
namespace Go.Proofs.YtlmnhdpahmaccaaDoor
open Go.RowKit QP

set_option maxHeartbeats 2000000 in
set_option maxRecDepth 100000 in
theorem sameTexts_c (xs : List ByteArray) (ao bo : Option Addr) (acap bcap : Nat) (w : World) (h1 : Rd w 1 (.slice ao xs.length acap) xs.length (strs xs)) (h2 : Rd w 1 (.slice bo xs.length bcap) xs.length (strs xs)) (hn : xs.length ≤ 4000000) :
    Calls Tryd.prog 6 #[.slice ao xs.length acap, .slice bo xs.length bcap] w fun e w' => e = .returned (.bool true) ∧ Hid (Below w.heap.size w w') := by
  have H1 := Lib.hid h1
  have H2 := Lib.hid h2
  clear h1 h2
  go_enter Tryd.func6, Tryd.ntmps6
  go_wp2
  go_loopw [5] (fun i wr => ∃ k : Nat, k ≤ xs.length ∧ i = .int .i64 k ∧ Hid (Below w.heap.size w wr)) (fun i _ => xs.length - (intOf i).toNat)
  case atStart => exact ⟨0, Nat.zero_le _, rfl, Lib.hid (Below.refl _ _)⟩
  case round =>
    obtain ⟨k, hk, rfl, HW⟩ := hrel
    by_cases hlt : k < xs.length
    · obtain ⟨g, off, cap', hv, hnc, hc⟩ := (H1.out.kept (by decide) HW.out).at_ (by omega)
      cases hv
      obtain ⟨g2, off2, cap2, hv, hnc2, hc2⟩ := (H2.out.kept (by decide) HW.out).at_ (by omega)
      cases hv
      have d1 := hc k _ (strs_get xs k hlt)
      have d2 := hc2 k _ (strs_get xs k hlt)
      have hk0 : (0 : Int) ≤ (k : Int) := by omega
      have hk1 : (k : Int) < (xs.length : Int) := by omega
      clear hc hc2
      generalize xs[k] = x at d1 d2
      have hx : (x.toList != x.toList) = false := by simp
      go_wp2
      go_region
      all_goals
        go_wp2
        go_roundw
        case rel => exact ⟨k + 1, by omega, by go_num, Lib.hid HW.out.drew⟩
        case measure => simp [intOf]; omega
    · go_wp2
      go_ret
      exact ⟨rfl, HW⟩
end Go.Proofs.YtlmnhdpahmaccaaDoor
