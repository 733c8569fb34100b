/- Two numbers in an array, as they come in. -/
import Derived.Test.YtbfmfliknhcoeaaPC
import Derived.Test.YtbfmfliknhcoeaaZB
import Derived.OpenShut
namespace Go.Proofs.Ytbfmfliknhcoeaa
open Go.Joins Go.RowKit Go.WideShapes Go.ChangeShapes Go.Deep QP

theorem cells51 : Try.prog.cellsOf 51 = 2 := by kernel_rfl
theorem cells3 : Try.prog.cellsOf 3 = 1 := by kernel_rfl

set_option maxRecDepth 100000 in
theorem open_two {H : Type} {enc : TypeId × Value → H} {W : World} {v : Value} {d : DataW H} {p : List MemPlace} (hv : Value.okWide Try.prog W .any 0 51 v) (h : DataW.Trod enc Try.prog W 0 (fun _ => true) true 51 v d p) :
    ∃ a b : Int, v = .agg #[.int .i64 a, .int .i64 b] := by
  simp only [Value.okWide, Try.underlying51] at hv
  obtain ⟨cs, rfl, hsz, -⟩ := hv
  obtain ⟨l⟩ := cs
  match l, hsz.trans cells51 with
  | [c0, c1], _ =>
    obtain ⟨fuel, hf⟩ := h
    obtain ⟨xs, m, _, hx, _, hlen, hg⟩ := DataW.trod_array Try.underlying51 hf
    have h0 := hg 0 (by decide)
    have h1 := hg 1 (by decide)
    rw [cells3] at h0 h1
    match xs, hlen with
    | [y0, y1], _ =>
      obtain ⟨a0, e0, -, -⟩ := DataW.trod_int Try.underlying3 (show DataW.trod enc Try.prog W 0 (fun _ => true) true m 3 [c0] = some y0 from h0)
      obtain ⟨a1, e1, -, -⟩ := DataW.trod_int Try.underlying3 (show DataW.trod enc Try.prog W 0 (fun _ => true) true m 3 [c1] = some y1 from h1)
      simp only [List.cons.injEq, and_true] at e0 e1
      subst e0 e1
      exact ⟨a0, a1, rfl⟩
end Go.Proofs.Ytbfmfliknhcoeaa
