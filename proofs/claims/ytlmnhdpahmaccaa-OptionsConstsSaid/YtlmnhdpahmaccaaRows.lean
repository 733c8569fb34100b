/-
  No cell of these rows narrows 'for every input' (looked for: loops, veiled, ifaces, maps, wideKeys, modest, calm, conditions, laid).
  DERIVED. THE GIVEN ROWS OF THIS SEAT. 2 by the template 'for every input the law returns true; each argument reads behind the call as it read before'; 0 by the template 'total and deterministic' (their statements: YtlmnhdpahmaccaaTotals.lean).
  GIVEN WITH THE SEED: the statements are not yours to turn. If you find one false, say at which input.
  Laid BY PROGRAM, IN A SANDBOX (cutbox-rows.mjs): the forced cells as the released guide's own fill.sh prints them over the translation ebf81c20e1760563… (all of the seat's roots in one cut). By AI agents, Wed Nov 11 2026. No macro, syntax, notation, axiom, sorry.
-/
import Derived.Test.YtlmnhdpahmaccaaChecked
import GoSem.Claim
import GoSem.ClaimJoined
import GoSem.ClaimMapViews
import Derived.JoinedTies
import Derived.KernelRfl
namespace Go.Proofs.Ytlmnhdpahmaccaa
/- THE CELL 'sum', in the pinned program and in every row, IS THE sha256 OF THE DUMP (.gsa) THAT YtlmnhdpahmaccaaProg.lean LOADS. Nothing in Lean hashes anything: it is a label: what it is worth is what the hold of that sum in a sandbox is worth. -/
noncomputable def Try.pinned : Pinned := { name := "ytlmnhdpahmaccaa", sum := "ebf81c20e1760563846a19a38da6fde956ab11f97230166986f7dbc133a83f16", checked := Try.checked }
namespace Rows
def none {H : Type} : Left H := { results := [], args := [] }

/-- 'mullionlaw22.BindsConsts': WHATEVER THE INPUT: true; the input reads as it did. -/
def bindsConstsSpec : ChangeSpec := { name := "bindsConsts", fn := fun _ => fun
  | [] => { results := [.lit (.bool true)], args := [] }
  | _ => none }
def bindsConstsRow : OpenClaim := { program := "ytlmnhdpahmaccaa", sum := "ebf81c20e1760563846a19a38da6fde956ab11f97230166986f7dbc133a83f16", func := "mullion/mullionlaw22.BindsConsts", spec := "bindsConsts", apart := false }
def BindsConstsSaid : Prop := bindsConstsRow.holds Try.pinned (OpenSpec.ofChange bindsConstsSpec)

/-- ITS FALSE NEIGHBOUR: 'it returns false'. Refute it at one input. -/
def bindsConstsWrong : ChangeSpec := { name := "bindsConsts", fn := fun _ => fun
  | [] => { results := [.lit (.bool false)], args := [] }
  | _ => none }
def BindsConstsWrongFalsely : Prop := bindsConstsRow.holds Try.pinned (OpenSpec.ofChange bindsConstsWrong)

/-- 'mullionlaw23.OptionsConsts': WHATEVER THE INPUT: true; the input reads as it did. -/
def optionsConstsSpec : ChangeSpec := { name := "optionsConsts", fn := fun _ => fun
  | [] => { results := [.lit (.bool true)], args := [] }
  | _ => none }
def optionsConstsRow : OpenClaim := { program := "ytlmnhdpahmaccaa", sum := "ebf81c20e1760563846a19a38da6fde956ab11f97230166986f7dbc133a83f16", func := "mullion/mullionlaw23.OptionsConsts", spec := "optionsConsts", apart := false }
def OptionsConstsSaid : Prop := optionsConstsRow.holds Try.pinned (OpenSpec.ofChange optionsConstsSpec)

/-- ITS FALSE NEIGHBOUR: 'it returns false'. Refute it at one input. -/
def optionsConstsWrong : ChangeSpec := { name := "optionsConsts", fn := fun _ => fun
  | [] => { results := [.lit (.bool false)], args := [] }
  | _ => none }
def OptionsConstsWrongFalsely : Prop := optionsConstsRow.holds Try.pinned (OpenSpec.ofChange optionsConstsWrong)

/- THE SECOND FORM. 'bulk': how many values and letters a reading holds, each counted each time it is reached (what is shared counts as often as it is met; a slice's spare places count too). A statement '..UptoSaid' is the law's where the arguments, and the package variables that the reading takes, are together of bulk at most 1048576: NARROWER than '..Said'. Prove '..Said' where nothing that the law and all that it calls make is longer than what came in: it says more and counts as full. Else prove '..UptoSaid'. A law counts once. -/
mutual
def uptoBulk {H : Type} : DataW H → Nat
  | .lit (.string bytes) => bytes.length + 1
  | .lit _ => 1
  | .nil => 1
  | .ptr d => uptoBulk d + 1
  | .slice elems spare => uptoBulkAll elems + uptoBulkAll spare + 1
  | .agg parts => uptoBulkAll parts + 1
  | .iface _ d => uptoBulk d + 1
  | .map entries => uptoBulkEntries entries + 1
  | .held _ => 1
def uptoBulkAll {H : Type} : List (DataW H) → Nat
  | [] => 0
  | d :: r => uptoBulk d + uptoBulkAll r
def uptoBulkEntries {H : Type} : List (Lit × DataW H) → Nat
  | [] => 0
  | x :: r => uptoBulkEntry x + uptoBulkEntries r
def uptoBulkEntry {H : Type} : Lit × DataW H → Nat
  | (.string bytes, d) => bytes.length + uptoBulk d + 1
  | (_, d) => uptoBulk d + 1
 end
def uptoSmall : (H : Type) → List (DataW H) → Bool := fun _ ds => decide (uptoBulkAll ds ≤ 1048576)
def OpenSpec.upto (s : _root_.Go.ChangeSpec) : _root_.Go.OpenSpec := { _root_.Go.OpenSpec.ofChange s with cond := some uptoSmall }

/-- 'mullionlaw22.BindsConsts', WHERE WHAT IT READS IS OF BULK AT MOST 1048576: true; the input reads as it did. -/
def bindsConstsUptoRow : OpenClaim := { program := "ytlmnhdpahmaccaa", sum := "ebf81c20e1760563846a19a38da6fde956ab11f97230166986f7dbc133a83f16", func := "mullion/mullionlaw22.BindsConsts", spec := "bindsConsts", apart := false, narrowed := true }
def BindsConstsUptoSaid : Prop := bindsConstsUptoRow.holds Try.pinned (OpenSpec.upto bindsConstsSpec)

/-- 'mullionlaw23.OptionsConsts', WHERE WHAT IT READS IS OF BULK AT MOST 1048576: true; the input reads as it did. -/
def optionsConstsUptoRow : OpenClaim := { program := "ytlmnhdpahmaccaa", sum := "ebf81c20e1760563846a19a38da6fde956ab11f97230166986f7dbc133a83f16", func := "mullion/mullionlaw23.OptionsConsts", spec := "optionsConsts", apart := false, narrowed := true }
def OptionsConstsUptoSaid : Prop := optionsConstsUptoRow.holds Try.pinned (OpenSpec.upto optionsConstsSpec)

end Rows
end Go.Proofs.Ytlmnhdpahmaccaa
