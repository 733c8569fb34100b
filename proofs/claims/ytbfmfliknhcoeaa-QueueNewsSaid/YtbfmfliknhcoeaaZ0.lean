/- QueueNews, walked. -/
import Derived.Test.YtbfmfliknhcoeaaY
namespace Go.Proofs.Ytbfmfliknhcoeaa
open Go.RowKit QP

set_option maxRecDepth 100000 in
theorem news_c (limit : Int) (w : World) : Calls Try.prog 6 #[.int .i64 limit] w fun e w' => e = .returned (.bool true) ∧ Below w.heap.size w w' := by
  by_cases hl : limit < 0 ∨ 65536 < limit
  · go_enter Try.func6, Try.ntmps6
    go_wp2_with fail
    refine (made_no limit w hl).mono ?_
    rintro e w1 ⟨rfl, b1⟩
    have HB := Lib.hid b1
    clear b1
    go_wp2
    go_ret
    exact ⟨rfl, HB.out.alloc HB.out.size _⟩
  · go_enter Try.func6, Try.ntmps6
    go_wp2_with fail
    refine (made_c limit w (by omega) (by omega)).mono ?_
    rintro e w1 ⟨b, v, rfl, hb⟩
    obtain ⟨sv, ps, hv, hR, -⟩ := id hb.rr
    obtain ⟨bo, bcap, hsv⟩ := hR.shape
    subst hsv
    subst hv
    have HB := Lib.hid hb
    clear hb hR hl
    go_wp2_with fail
    have h2 := HB.out.below ((Below.refl w1.heap.size w1).alloc (Nat.le_refl _) (.cells #[.int .i64 limit, .slice bo ps.length bcap, .bool false] 29))
    refine (as_c b none none _ _ limit _ h2.own.q h2.rr (by simp)).mono ?_
    rintro e w2 ⟨rfl, b2⟩
    have H2 := Lib.hid (h2.below b2)
    clear h2 b2
    go_wp2_with fail
    refine (drain_c b none _ 1 _ H2.out.own.q (by simp) (by omega) (by omega)).mono ?_
    rintro e w3 ⟨t, rfl, ht, q3, m3⟩
    have : t = ⟨#[]⟩ := ByteArray.ext (Array.toList_inj.1 (ht.trans (by simp [drained, lett])))
    subst this
    have H3 := Lib.hid (H2.out.own.next q3 (.inl rfl) m3)
    clear ht q3 m3
    go_wp2
    go_ret
    exact ⟨rfl, H3.out.bel⟩
end Go.Proofs.Ytbfmfliknhcoeaa
