/- OptionsKinds, walked: it answers true. -/
import Derived.Test.YtlmnhdpahmaccaaDoorLK1
import Derived.Test.YtlmnhdpahmaccaaDoorLK2
namespace Go.Proofs.YtlmnhdpahmaccaaDoor
open Go.RowKit QP

theorem optionsKinds_c (so : Option Addr) (cap : Nat) (ops : List KOp) (last : KOp) (W : World) (hops : ∀ o ∈ ops, OkOp o) (hlast : OkOp last)
    (hrd : Rd W 7 (.slice so ops.length cap) ops.length (opsCells ops)) (hV : VarsAt W) :
    Calls Tryd.prog 4 #[.slice so ops.length cap, .agg #[.int .i64 last.kind, .int .i64 last.sc, .int .i64 last.a, .int .i64 last.b, .int .i64 last.c, .string last.name, .string last.value]] W fun e w' => e = .returned (.bool true) ∧ Hid (Below W.heap.size W w') := by
  rcases Nat.lt_or_ge 600 ops.length with h | h
  · exact optionsKinds_long so cap ops last W hops hlast h hrd hV
  · exact optionsKinds_short so cap ops last W hops hlast h hrd hV
end Go.Proofs.YtlmnhdpahmaccaaDoor
