/- The library's variables: from what the row lists to what the walk reads. -/
import Derived.Test.YtlmnhdpahmaccaaDoorVA
import Derived.Test.YtlmnhdpahmaccaaDoorLA
import Derived.Lib.LaidTab
import Derived.Lib.LaidU8
import Derived.Stop.LaidErr
namespace Go.Proofs.YtlmnhdpahmaccaaDoor
open Go.RowKit Go.ChangeShapes Go.WideShapes QP

theorem tab_of_reads {P : Program} {W : World} {name : String} {k : IntKind} {zs : List Int} {g : Nat} {t e : TypeId} {n : Nat}
    (hg : P.globalNamed name = some g) (hty : (P.globals[g]?).map (·.type) = some t) (ht : P.underlying t = some (.array n e)) (he : P.underlying e = some (.int k)) (hce : P.cellsOf e = 1) (hct : P.cellsOf t = n)
    (h : Lib.VarReads P W name (Lib.tabData k zs)) : Lib.TabIs P W name k zs := by
  obtain ⟨g', t', cs, fuel, p, hg', ht', hvar, hd⟩ := h
  obtain rfl := Option.some.inj (hg.symm.trans hg')
  obtain rfl := Option.some.inj (hty.symm.trans ht')
  unfold Lib.TabIs
  rw [hvar, ← Lib.cells_of_tab ht he hce hct hd]
theorem laid_pow : Rows.laid_internal_strconv_uint64pow10 (H := Unit) = Lib.tabData .u64 Lib.pow10Tab := by kernel_rfl
theorem laid_space : Rows.laid_strings_asciiSpace (H := Unit) = Lib.tabData .u8 Lib.asciiSpaceTab := by kernel_rfl
theorem laid_first : Rows.laid_unicode_utf8_first = Lib.firstData := by kernel_rfl
theorem laid_accept : Rows.laid_unicode_utf8_acceptRanges (H := Unit) = Lib.acceptData := by kernel_rfl
theorem u8_extra : U8Extra Tryd.prog Tryd.lays260_ren := ⟨by kernel_rfl, by kernel_rfl, by kernel_rfl, by kernel_rfl, by kernel_rfl, by kernel_rfl, by kernel_rfl⟩
theorem star_err : "*" ++ "errors.errorString" = "*errors.errorString" := by decide
theorem row_err (u : TypeId) (h : Tryd.prog.typeName? 3 u = some "*errors.errorString") : u = 149 :=
  typeName_ptr_named (nm := "errors.errorString") (by rw [star_err]; kernel_rfl) (by kernel_rfl) (by decide) u (by rw [star_err]; exact h)
theorem vars_of_laid {W : World} (h : laidMet Tryd.prog Rows.optionsKindsUptoRow.laid W) : VarsAt W := by
  have hp := Lib.laidMet.reads h (n := "internal/strconv.uint64pow10") (d := Rows.laid_internal_strconv_uint64pow10) (by simp [Rows.optionsKindsUptoRow])
  have hs := Lib.laidMet.reads h (n := "strings.asciiSpace") (d := Rows.laid_strings_asciiSpace) (by simp [Rows.optionsKindsUptoRow])
  have hf := Lib.laidMet.reads h (n := "unicode/utf8.first") (d := Rows.laid_unicode_utf8_first) (by simp [Rows.optionsKindsUptoRow])
  have ha := Lib.laidMet.reads h (n := "unicode/utf8.acceptRanges") (d := Rows.laid_unicode_utf8_acceptRanges) (by simp [Rows.optionsKindsUptoRow])
  have hk := Lib.laidMet.reads h (n := "mullion/keys.shapes") (d := Rows.laid_mullion_keys_shapes) (by simp [Rows.optionsKindsUptoRow])
  rw [laid_pow] at hp
  rw [laid_space] at hs
  rw [laid_first] at hf
  rw [laid_accept] at ha
  have h4 : laidMet Tryd.prog (("strconv.ErrRange", Rows.laid_strconv_ErrRange) :: ("strconv.ErrSyntax", Rows.laid_strconv_ErrSyntax) :: (Rows.optionsKindsUptoRow.laid.drop 6)) W := h.tail.tail.tail.tail
  obtain ⟨a0, s0, hv0, -⟩ := laid_sentinel h4 (g := 4) (ti := 93) (tp := 149) (te := 151) (ts := 9) (by kernel_rfl) (by kernel_rfl) Tryd.underlying93 row_err Tryd.underlying149 Tryd.underlying151 rfl rfl Tryd.underlying9 (by kernel_rfl) (by kernel_rfl)
  obtain ⟨a1, s1, hv1, -⟩ := laid_sentinel h4.tail (g := 3) (ti := 93) (tp := 149) (te := 151) (ts := 9) (by kernel_rfl) (by kernel_rfl) Tryd.underlying93 row_err Tryd.underlying149 Tryd.underlying151 rfl rfl Tryd.underlying9 (by kernel_rfl) (by kernel_rfl)
  exact ⟨shapes_of_laid hk, tab_of_reads (g := 0) (t := 97) (e := 5) (n := 256) (by kernel_rfl) (by kernel_rfl) Tryd.underlying97 Tryd.underlying5 (by kernel_rfl) (by kernel_rfl) hs,
    tab_of_reads (g := 7) (t := 159) (e := 133) (n := 20) (by kernel_rfl) (by kernel_rfl) Tryd.underlying159 Tryd.underlying133 (by kernel_rfl) (by kernel_rfl) hp,
    utf8Tabs_of_reads Tryd.lays260 u8_extra hf ha, ⟨_, _, hv1⟩, ⟨_, _, hv0⟩⟩
end Go.Proofs.YtlmnhdpahmaccaaDoor
