/- OptionsKinds returns true at every call whose arguments are of bulk at most 1048576, and changes no argument: whatever was done, what Get answers is a value of the option's kind; behind a Set that is taken it is that value, for just that id. The one condition is that bulk. The card: keys.shapes and the library's variables that the row lists are tied to the program's text by the given tie. -/
import Derived.Test.YtlmnhdpahmaccaaDoorLK
import Derived.Test.YtlmnhdpahmaccaaDoorOC
import Derived.Test.YtlmnhdpahmaccaaDoorLV
import Derived.Test.YtlmnhdpahmaccaaDoorRows
import Derived.Test.YtlmnhdpahmaccaaDoorCards
import Derived.Test.YtlmnhdpahmaccaaDoorTie
import Derived.Test.YtlmnhdpahmaccaaDoorChecked
import Derived.Deep.DeepHandedRow
import Derived.ChangeMaps5
import Derived.Lay
import Derived.LaidLaws
import Derived.MakeChecks
import Derived.SevenTiedAt
import Derived.ProofKit
namespace Go.Proofs.YtlmnhdpahmaccaaDoor.optionsKinds
open Go.ChangeShapes Go.WideShapes Go.ChangeAt Go.RowKit

theorem own : ownKnob Tryd.prog.godebug = none := by kernel_rfl
theorem plain_laid : (Rows.optionsKindsUptoRow.laid.all fun x => x.2.handleName?.isNone) = true := by kernel_rfl

set_option maxRecDepth 100000 in
theorem contract (H : Type) (enc : TypeId × Value → H) (W : World) (args : Array Value) (ds gs : List (DataW H)) (before : List MemPlace)
    (hval : ∀ (j : Nat) t v, Tryd.f4.params[j]? = some t → args[j]? = some v → Value.okWide Tryd.prog W .any 0 t v)
    (hW : DataW.Whole enc Tryd.prog Tryd.f4.params.toList Rows.optionsKindsSpec.vars false W args.toList ds gs before) (hk : Rows.uptoSmall H (ds ++ gs) = true) (hL : laidMetH Tryd.prog Rows.optionsKindsUptoRow.laid W) :
    Calls Tryd.prog 4 args W fun e W' => ∃ v, e = .returned v ∧ Rows.optionsKindsSpec.post enc Tryd.prog Tryd.f4 false true false false W args v W' := by
  have hW' := hW
  obtain ⟨p, q, hA, hV, rfl, hfz, hnd⟩ := hW
  rw [Tryd.params4] at hA hval
  obtain ⟨v0, vs0, d0, ds0, p0, q0, hargs0, rfl, rfl, h0, r0⟩ := trodAll_cons hA
  obtain ⟨v1, vs1, d1, ds1, p1, q1, hargs1, rfl, rfl, h1, r1⟩ := trodAll_cons r0
  obtain ⟨rfl, rfl, rfl⟩ := trodAll_nil r1
  subst hargs1
  obtain rfl : args = #[v0, v1] := by cases args; simp_all
  obtain ⟨rfl, rfl⟩ := trodVars_none hV
  have hbk : Rows.uptoBulkAll [d0, d1] ≤ 1048576 := by simpa [Rows.uptoSmall] using hk
  simp only [Rows.uptoBulkAll] at hbk
  obtain ⟨so, scap, ops, rfl, hops, -, hrd⟩ := open_ops (hval 0 39 v0 rfl rfl) h0 (by omega)
  obtain ⟨last, rfl, hlast⟩ := open_op (hval 1 41 v1 rfl rfl) h1 (by omega)
  rw [MakeChecks.laidMetH_plain _ _ _ plain_laid] at hL
  refine (optionsKinds_c so scap ops last W hops hlast hrd (vars_of_laid hL)).mono fun e W' ⟨he, hb⟩ => ?_
  subst he
  exact ⟨_, rfl, law_post hW' rfl (by rw [Tryd.params4]; decide +kernel) (by kernel_rfl) rfl rfl rfl hb.out⟩

set_option maxRecDepth 100000 in
theorem witness (os : Os) (H : Type) (enc : TypeId × Value → H) :
    ∃ (w : World) (tape : Tape) (i : Input), w.os = os ∧ (w.forCall tape i).Shaped Tryd.checked.prog ∧ i.vars = [] ∧ Input.okWide Tryd.checked.prog (w.forCall tape i) .any w.heap.size 4 i ∧
      (Rows.OpenSpec.upto Rows.optionsKindsSpec).preRow enc Tryd.checked.prog Tryd.f4 Rows.optionsKindsUptoRow.domain false Rows.optionsKindsUptoRow.laid (w.forCall tape i).memory i.args ∧
      ({ modest := false } : Assume).holds Tryd.checked.prog (lone (Frame.enter Tryd.checked.prog 4 i.args .normal) [] (w.forCall tape i)) := by
  obtain ⟨w, tape, i, h1, h2, h3, h4, h5, h6⟩ := ChangeSpec.witness_shaped (enc := enc) (C := Tryd.checked) (os := os) (f := 4) (fn := Tryd.f4) (s := Rows.optionsKindsSpec) (conds := Rows.optionsKindsUptoRow.domain) (apart := false)
    (X := fun w args => (Rows.OpenSpec.upto Rows.optionsKindsSpec).preRow enc Tryd.prog Tryd.f4 Rows.optionsKindsUptoRow.domain false Rows.optionsKindsUptoRow.laid w args) false (World.laidAll Tryd.prog os Rows.optionsKindsUptoRow.laid)
    #[.slice none 0 0, .agg #[.int .i64 0, .int .i64 0, .int .i64 0, .int .i64 0, .int .i64 0, .string ⟨#[]⟩, .string ⟨#[]⟩]] 8 (World.laidAll_os _ _ _)
    (World.shaped_of_ZipB (by kernel_rfl) (by kernel_rfl)) (by kernel_rfl) (by kernel_rfl) (by kernel_rfl)
    (OpenSpec.preRow_of_cond 8 (x := ([.nil, .agg [.lit (.int .i64 0), .lit (.int .i64 0), .lit (.int .i64 0), .lit (.int .i64 0), .lit (.int .i64 0), .lit (.string []), .lit (.string [])]], [], [])) (by kernel_rfl) (by kernel_rfl) (fun k hk => by cases hk; rfl) (by kernel_rfl)
      (by rw [MakeChecks.laidMetH_plain _ _ _ plain_laid]; exact laidMet_laidAll _ (by kernel_rfl) (by kernel_rfl)))
  exact ⟨w, tape, i, h1, h2, h3, h4, h5.1.2, h6⟩

set_option maxRecDepth 100000 in
theorem lifted (os : Os) (started : os.Started) (H : Type) (enc : TypeId × Value → H) (F : Stop.Interp) :
    ReturnsInHanded {} Tryd.checked os 4 .any ((Rows.OpenSpec.upto Rows.optionsKindsSpec).preRow enc Tryd.prog Tryd.f4 Rows.optionsKindsUptoRow.domain false Rows.optionsKindsUptoRow.laid) (((Rows.OpenSpec.upto Rows.optionsKindsSpec).at F).post enc Tryd.prog Tryd.f4 false true false false) := by
  refine returnsInHanded_of_row (C := Tryd.checked) (s := Rows.OpenSpec.upto Rows.optionsKindsSpec) own started (by kernel_rfl) Tryd.func4 (witness os H enc) ?_
  intro W base args ds gs before hval hW _ hk _ hL _ _
  exact contract H enc W args ds gs before hval hW (hk _ rfl) hL

set_option maxRecDepth 100000 in
theorem said : Rows.OptionsKindsUptoSaid :=
  OpenClaim.holds_of_cond 4 Tryd.f4 rfl rfl rfl rfl rfl rfl rfl ⟨rfl, rfl, rfl, rfl, rfl⟩ rfl rfl rfl rfl rfl (by kernel_rfl) Tryd.func4 (by kernel_rfl)
    (of_decide_eq_true (by kernel_rfl)) (by unfold Func.isWrapper; first | (rw [if_pos (by decide +kernel)]; kernel_rfl) | (rw [if_neg (by decide +kernel)]; exact ⟨rfl, rfl⟩))
    (fun os started H enc _ F => by rw [OpenClaim.pre_eq_preRow]; exact lifted os started H enc F)

theorem proved : Rows.OptionsKindsUptoCardSaid :=
  Claim7.holds_tied_plain_at .later [] [.data, .data, .data, .data, .sentinel, .sentinel, .listed, .data, .data, .pinned] true (true, "c6b6eb63c43f0f8d6e0f48d04062193cb1db88f7138e5de595c50a29d603cf1c") true
    said (fun _ h => by cases h) (by kernel_rfl) (fun _ h => by cases h) optionsKindsUpto_row_tie rfl ⟨rfl, rfl⟩ (by kernel_rfl) rfl
    (fun f fn hf hfn => by
      obtain rfl : f = 4 := Option.some.inj ((show Tryd.prog.funcNamed "mullion/mullionlaw23.OptionsKinds" = some 4 by kernel_rfl).symm.trans hf) |>.symm
      obtain rfl : fn = Tryd.f4 := (Option.some.inj (Tryd.func4.symm.trans hfn)).symm
      exact ⟨by kernel_rfl, fun j t ht => by
        rw [Tryd.params4] at ht
        have hm : t ∈ [39, 41] := by simpa using Array.mem_of_getElem? ht
        have hall : ([39, 41].all fun u => !Tryd.prog.wantsStandIn u) = true := by kernel_rfl
        exact (show Tryd.prog.wantsStandIn t = false by simpa using List.all_eq_true.1 hall t hm)⟩)
    (by kernel_rfl)
#print axioms proved
end Go.Proofs.YtlmnhdpahmaccaaDoor.optionsKinds
