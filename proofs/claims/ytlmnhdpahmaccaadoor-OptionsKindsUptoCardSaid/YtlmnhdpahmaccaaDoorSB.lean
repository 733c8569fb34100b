/- options: takes, at a key. The law's 'sure'. -/
import Derived.Test.YtlmnhdpahmaccaaDoorSA
import Derived.Test.YtlmnhdpahmaccaaDoorKF
namespace Go.Proofs.YtlmnhdpahmaccaaDoor
open Go.RowKit QP

set_option maxHeartbeats 4000000 in
set_option maxRecDepth 100000 in
theorem takes_key_c (dec : ByteArray → Int × Int) (r : ORow) (hk : r.kind = 4) (s : ByteArray) (w : World) (h : ShapesAt w)
    (hdec : ∀ m : Nat, m < 8 → 0 < (restOf s m).size → ∀ w', Hid (Below w.heap.size w w') → Calls Tryd.prog 63 #[.string (restOf s m)] w' fun e w'' => e = .returned (.tuple #[.int .i32 (dec (restOf s m)).1, .int .i64 (dec (restOf s m)).2]) ∧ Hid (Below w'.heap.size w' w''))
    (hr : ∀ m : Nat, m < 8 → IntKind.wrap .i64 (dec (restOf s m)).1 = (dec (restOf s m)).1) :
    Calls Tryd.prog 27 #[.agg #[.string r.name, .int .i64 r.scope, .int .i64 r.kind, .int .i64 r.lo, .int .i64 r.hi, .string r.words, .string r.first], .string s] w fun e w' => e = .returned (.bool (readCode dec s == 0)) ∧ Hid (Below w.heap.size w w') := by
  rw [hk]
  have hb0 : Below w.heap.size w (w.alloc (.cells #[.string r.name, .int .i64 r.scope, .int .i64 4, .int .i64 r.lo, .int .i64 r.hi, .string r.words, .string r.first] 54)) := (Below.refl _ _).alloc (Nat.le_refl _) _
  have hread := read_c dec s _ (h.below hb0 (Nat.le_refl _)) (fun m hm h0 w' hb => hdec m hm h0 w' (Lib.hid (below_of hb0 hb.out))) hr
  have HB0 := Lib.hid hb0
  obtain ⟨a, ha⟩ : ∃ a, ((readKey dec s).getD (0, 0)).1 = a := ⟨_, rfl⟩
  obtain ⟨b, hb⟩ : ∃ b, ((readKey dec s).getD (0, 0)).2 = b := ⟨_, rfl⟩
  rw [ha, hb] at hread
  clear h hdec hr hk hb0 ha hb
  go_enter Tryd.func27, Tryd.ntmps27
  go_wp2_with fail
  refine hread.mono ?_
  rintro e w1 ⟨rfl, HB1⟩
  have HB := Lib.hid (below_of HB0.out HB1.out)
  go_wp2
  go_ret
  exact ⟨rfl, Lib.hid (below_box HB.out _)⟩

/-! ### the key "M-x" -/
def mx : ByteArray := ⟨#[77, 45, 120]⟩
def decA (r : ByteArray) : Int × Int := (((r.data.toList.head?).map fun b => (b.toNat : Int)).getD 0, 1)
theorem rest_mx (m : Nat) (hm : m < 8) : restOf mx m = ⟨#[77, 45, 120]⟩ ∨ restOf mx m = ⟨#[120]⟩ := by
  have hc : m = 0 ∨ m = 1 ∨ m = 2 ∨ m = 3 ∨ m = 4 ∨ m = 5 ∨ m = 6 ∨ m = 7 := by omega
  rcases hc with rfl | rfl | rfl | rfl | rfl | rfl | rfl | rfl
  · exact .inl (by kernel_rfl)
  · exact .inl (by kernel_rfl)
  · exact .inr (by kernel_rfl)
  · exact .inl (by kernel_rfl)
  · exact .inl (by kernel_rfl)
  · exact .inl (by kernel_rfl)
  · exact .inl (by kernel_rfl)
  · exact .inl (by kernel_rfl)
theorem dec_mx (m : Nat) (hm : m < 8) (_ : 0 < (restOf mx m).size) (w' : World) : Calls Tryd.prog 63 #[.string (restOf mx m)] w' fun e w'' => e = .returned (.tuple #[.int .i32 (decA (restOf mx m)).1, .int .i64 (decA (restOf mx m)).2]) ∧ Hid (Below w'.heap.size w' w'') := by
  rcases rest_mx m hm with h | h
  · rw [h]
    exact (decode_ascii_c ⟨#[77, 45, 120]⟩ (by decide) (by decide) w').mono fun e w'' hh => ⟨hh.1, Lib.hid (hh.2 ▸ Below.refl _ _)⟩
  · rw [h]
    exact (decode_ascii_c ⟨#[120]⟩ (by decide) (by decide) w').mono fun e w'' hh => ⟨hh.1, Lib.hid (hh.2 ▸ Below.refl _ _)⟩
theorem wrap_mx (m : Nat) (hm : m < 8) : IntKind.wrap .i64 (decA (restOf mx m)).1 = (decA (restOf mx m)).1 := by
  rcases rest_mx m hm with h | h <;> rw [h] <;> decide
theorem read_mx : readKey decA mx = some (120, 2) := by kernel_rfl

def prefix_ : ByteArray := ⟨#[112, 114, 101, 102, 105, 120]⟩
def rowPrefix : ORow := ⟨prefix_, 2, 4, 0, 0, ⟨#[]⟩, ⟨#[67, 45, 98]⟩⟩
theorem row_prefix : rowOf prefix_ = some rowPrefix := by kernel_rfl

theorem get_zero : getVal (look ([] : List (PK × ByteArray))) prefix_ 1 1 1 = (⟨#[67, 45, 98]⟩, 0) := by kernel_rfl
theorem set_mx : setCode [] 2 1 prefix_ mx true = 0 ∧ setE [] 2 1 prefix_ mx true = [((2, 1, prefix_), mx)] := ⟨by kernel_rfl, by kernel_rfl⟩
theorem get_one : getVal (look [((2, 1, prefix_), mx)]) prefix_ 1 0 0 = (mx, 0) := by kernel_rfl
theorem get_two : getVal (look [((2, 1, prefix_), mx)]) prefix_ 2 0 0 = (⟨#[67, 45, 98]⟩, 0) := by kernel_rfl
theorem scope_status : (ofRow ⟨#[115, 116, 97, 116, 117, 115]⟩).scope = 2 := by kernel_rfl

set_option maxHeartbeats 8000000 in
set_option maxRecDepth 100000 in
theorem sure_c (w : World) (h : ShapesAt w) : Calls Tryd.prog 14 #[] w fun e w' => e = .returned (.bool true) ∧ Hid (Below w.heap.size w w') := by
  have HS := Lib.hid h
  clear h
  go_enter Tryd.func14, Tryd.ntmps14
  go_wp2_with fail
  refine (new_c _).mono ?_
  rintro e w1 ⟨k, b, rfl, ho1, hk0, hb0, hkb, hb1⟩
  have HO1 := Lib.hid ho1
  have HB1 := Lib.hid hb1
  clear ho1 hb1
  go_wp2_with fail
  refine (get_c k b [] prefix_ 1 1 1 _ HO1.out ⟨by decide, by decide, by decide, by decide, by decide⟩ ⟨by decide, by decide, by decide, by decide, by decide⟩ ⟨by decide, by decide, by decide, by decide, by decide⟩).mono ?_
  rw [get_zero]
  rintro e w2 ⟨rfl, HB2⟩
  have HB12 := Lib.hid (below_of HB1.out HB2.out)
  have hset := set_c k b [] 2 1 prefix_ mx true w2 (HO1.out.below HB2.out) hkb ⟨by decide, by decide, by decide, by decide, by decide⟩ (by decide) (fun r hr w' hb => by
    rw [row_prefix] at hr
    injection hr with hr
    subst hr
    have := takes_key_c decA rowPrefix rfl mx w' ((HS.out.below HB12.out (Nat.le_refl _)).below hb.out (Nat.le_refl _)) (fun m hm h0 w'' _ => dec_mx m hm h0 w'') wrap_mx
    have hrc : (readCode decA mx == 0) = true := by unfold readCode; rw [read_mx]; rfl
    rw [hrc] at this
    exact this)
  rw [set_mx.1, set_mx.2] at hset
  go_wp2_with fail
  refine hset.mono ?_
  rintro e w3 ⟨rfl, HP3⟩
  have HB3 := Lib.hid (below_mod HB12.out HP3.out.mod HB12.out.size (fun i hi e => by omega))
  go_wp2_with fail
  refine (get_c k b [((2, 1, prefix_), mx)] prefix_ 1 0 0 _ HP3.out.o ⟨by decide, by decide, by decide, by decide, by decide⟩ ⟨by decide, by decide, by decide, by decide, by decide⟩ ⟨by decide, by decide, by decide, by decide, by decide⟩).mono ?_
  rw [get_one]
  rintro e w4 ⟨rfl, HB4⟩
  go_wp2_with fail
  refine (get_c k b [((2, 1, prefix_), mx)] prefix_ 2 0 0 _ (HP3.out.o.below HB4.out) ⟨by decide, by decide, by decide, by decide, by decide⟩ ⟨by decide, by decide, by decide, by decide, by decide⟩ ⟨by decide, by decide, by decide, by decide, by decide⟩).mono ?_
  rw [get_two]
  rintro e w5 ⟨rfl, HB5⟩
  have HBA := Lib.hid (below_of (below_of HB3.out HB4.out) HB5.out)
  unfold mx
  go_wp2_with (first | (go_at_call 12; refine (scope_c _ _).mono ?_; rw [scope_status]; rintro e w6 ⟨rfl, HB6⟩) | go_in)
  go_ret
  exact ⟨rfl, Lib.hid (below_of HBA.out HB6.out)⟩
end Go.Proofs.YtlmnhdpahmaccaaDoor
