/- the library's HasPrefix, CutPrefix; DecodeRuneInString at a character below 128. -/
import Derived.Test.YtlmnhdpahmaccaaDoorKD
namespace Go.Proofs.YtlmnhdpahmaccaaDoor
open Go.RowKit QP

def hasPre (s p : ByteArray) : Bool := decide (p.size ≤ s.size) && sameS (s.extract 0 p.size) p

set_option maxHeartbeats 2000000 in
set_option maxRecDepth 100000 in
theorem hasPrefix_c (s p : ByteArray) (w : World) : Calls Tryd.prog 73 #[.string s, .string p] w fun e w' => e = .returned (.bool (hasPre s p)) ∧ w = w' := by
  by_cases h1 : p.size ≤ s.size
  · have hz : decide ((s.size : Int) ≥ (p.size : Int)) = true := by simp; omega
    have hz' : (p.size : Int) ≤ (s.size : Int) := by omega
    cases he : sameS (s.extract 0 p.size) p with
    | true =>
      have h2 : ((s.extract 0 p.size).toList == p.toList) = true := (sameS_beq _ _).trans he
      have hv : hasPre s p = true := by unfold hasPre; rw [he]; simpa using h1
      have HV := Lib.hid hv
      clear hv he
      go_enter Tryd.func73, Tryd.ntmps73
      go_wp2
      go_ret
      exact ⟨by rw [HV.out]; rfl, rfl⟩
    | false =>
      have h2 : ((s.extract 0 p.size).toList == p.toList) = false := (sameS_beq _ _).trans he
      have hv : hasPre s p = false := by unfold hasPre; rw [he]; simp
      have HV := Lib.hid hv
      clear hv he
      go_enter Tryd.func73, Tryd.ntmps73
      go_wp2
      go_ret
      exact ⟨by rw [HV.out]; rfl, rfl⟩
  · have hz : decide ((s.size : Int) ≥ (p.size : Int)) = false := by simp; omega
    have hv : hasPre s p = false := by unfold hasPre; rw [decide_eq_false h1]; rfl
    have HV := Lib.hid hv
    clear hv
    go_enter Tryd.func73, Tryd.ntmps73
    go_wp2
    go_ret
    exact ⟨by rw [HV.out]; rfl, rfl⟩

set_option maxHeartbeats 2000000 in
set_option maxRecDepth 100000 in
theorem cutPrefix_c (s p : ByteArray) (w : World) : Calls Tryd.prog 47 #[.string s, .string p] w fun e w' => e = .returned (.tuple #[.string (if hasPre s p then s.extract p.size s.size else s), .bool (hasPre s p)]) ∧ w = w' := by
  cases hp : hasPre s p with
  | true =>
    have h1 : p.size ≤ s.size := by
      unfold hasPre at hp
      simp only [Bool.and_eq_true, decide_eq_true_eq] at hp
      exact hp.1
    have hz' : (p.size : Int) ≤ (s.size : Int) := by omega
    have HP := Lib.hid hp
    clear hp
    go_enter Tryd.func47, Tryd.ntmps47
    go_wp2_with (first | (go_at_call 73; refine (hasPrefix_c s p _).mono ?_; rintro e w' ⟨rfl, rfl⟩; rw [HP.out]) | go_in)
    go_ret2
    exact ⟨rfl, rfl⟩
  | false =>
    have HP := Lib.hid hp
    clear hp
    go_enter Tryd.func47, Tryd.ntmps47
    go_wp2_with (first | (go_at_call 73; refine (hasPrefix_c s p _).mono ?_; rintro e w' ⟨rfl, rfl⟩; rw [HP.out]) | go_in)
    go_ret2
    exact ⟨rfl, rfl⟩

set_option maxHeartbeats 2000000 in
set_option maxRecDepth 100000 in
theorem decode_ascii_c (s : ByteArray) (h : 0 < s.size) (hb : s[0].toNat < 128) (w : World) : Calls Tryd.prog 63 #[.string s] w fun e w' => e = .returned (.tuple #[.int .i32 s[0].toNat, .int .i64 1]) ∧ w = w' := by
  have hne : (!s.toList.isEmpty) = true := by rw [empty_iff, decide_eq_false (by omega)]; rfl
  have hlt : decide ((s[0].toNat : Int) < 128) = true := by simp; omega
  have hs0 : s[0]? = some s[0] := by simp [h]
  have hwr : IntKind.wrap .i32 (s[0].toNat : Int) = (s[0].toNat : Int) := by simp [IntKind.wrap, IntKind.signed, IntKind.bits]; omega
  go_enter Tryd.func63, Tryd.ntmps63
  go_wp2
  go_ret2
  exact ⟨rfl, rfl⟩
end Go.Proofs.YtlmnhdpahmaccaaDoor
