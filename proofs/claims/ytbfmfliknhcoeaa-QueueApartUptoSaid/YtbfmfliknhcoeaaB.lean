/- queue.bad, and slices.ContainsFunc over it: is one of the lines no line? -/
import Derived.Test.YtbfmfliknhcoeaaS
import Derived.Test.YtbfmfliknhcoeaaQ
import Derived.Deep.QuietTactic
import Derived.BigQuiet
namespace Go.Proofs.Ytbfmfliknhcoeaa
open Go.RowKit QP

def strs (l : List ByteArray) : List Value := l.map Value.string
theorem strs_length (l : List ByteArray) : (strs l).length = l.length := by simp [strs]
theorem strs_get (l : List ByteArray) (i : Nat) (h : i < l.length) : (strs l)[i]? = some (.string l[i]) := by simp [strs, h]

theorem indexByte_contains (l : List UInt8) (c : UInt8) : decide (0 ≤ Lib.indexByte l c) = l.contains c := by
  have h : ∀ l : List UInt8, (0 ≤ Lib.indexByte l c ↔ c ∈ l) ∧ -1 ≤ Lib.indexByte l c := by
    intro l
    induction l with
    | nil => simp [Lib.indexByte]
    | cons b l ih =>
      simp only [Lib.indexByte]
      by_cases hb : b = c
      · subst hb; simp
      · have hb' : (b == c) = false := by simpa using hb
        simp only [hb', Bool.false_eq_true, if_false, List.mem_cons]
        by_cases hm : Lib.indexByte l c = -1
        · have h2 : c ∉ l := fun hc => by have := ih.1.2 hc; omega
          simp [hm, h2, Ne.symm hb]
        · have h1 : 0 ≤ Lib.indexByte l c := by have := ih.2; omega
          have h2 := ih.1.1 h1
          have hm' : (Lib.indexByte l c == -1) = false := by simpa using hm
          simp only [hm', Bool.false_eq_true, if_false]
          refine ⟨⟨fun _ => .inr h2, fun _ => by omega⟩, by omega⟩
  rw [Bool.eq_iff_iff]
  simp [(h l).1]

theorem bad_c (s : ByteArray) (w : World) : Calls Try.prog 48 #[.string s] w fun e w' => e = .returned (.bool (!goodLine s)) ∧ w = w' := by
  by_cases h : 8192 < s.size
  · have hg : (!goodLine s) = true := by simp [goodLine, show ¬ s.size ≤ 8192 by omega]
    have hd : decide ((8192 : Int) < (s.size : Int)) = true := by simp; omega
    have HG := Lib.hid hg
    clear hg
    go_enter Try.func48, Try.ntmps48
    go_wp2
    go_ret
    rw [HG.out]
    exact ⟨rfl, rfl⟩
  · have hd : decide ((8192 : Int) < (s.size : Int)) = false := by simp; omega
    have hg : (!goodLine s) = decide (0 ≤ Lib.indexByte s.data.toList 10) := by
      rw [indexByte_contains]
      simp [goodLine, QP.bytes, show s.size ≤ 8192 by omega]
    have HG := Lib.hid hg
    clear hg
    go_enter Try.func48, Try.ntmps48
    go_wp2_with (go_at_call 56; refine (Try.strings_Contains_one s 10 _).mono ?_; rintro e w' ⟨rfl, rfl⟩)
    go_ret
    rw [HG.out]
    exact ⟨rfl, rfl⟩

set_option maxRecDepth 100000 in
/-- the place of the first line that is none; -1: all are lines -/
theorem indexFunc_c (ls : List ByteArray) (ao : Option Addr) (cap : Nat) (w : World) (hr : Rd w 1 (.slice ao ls.length cap) ls.length (strs ls)) (hn : ls.length ≤ 9223372036854775807) :
    Calls Try.prog 69 #[.slice ao ls.length cap, .func (.func 48) #[] #[]] w fun e w' => (∃ n : Int, e = .returned (.int .i64 n) ∧ -1 ≤ n ∧ decide (0 ≤ n) = !ls.all goodLine) ∧ w = w' := by
  have HR := Lib.hid hr
  clear hr
  go_enter Try.func69, Try.ntmps69
  go_wp2
  go_loop [8] (fun i => ∃ k : Nat, k ≤ ls.length ∧ i = .int .i64 k ∧ Hid ((ls.take k).all goodLine = true)) (fun i => ls.length - (intOf i).toNat)
  case atStart => exact ⟨0, Nat.zero_le _, rfl, Lib.hid (by simp)⟩
  case round =>
    obtain ⟨k, hk, rfl, HK⟩ := hrel
    by_cases hlt : k < ls.length
    · obtain ⟨g, off, cap', hv, hnc, hc⟩ := HR.out.at_ (by omega)
      cases hv
      have hck := hc k _ (strs_get ls k hlt)
      clear hc
      have hts : (ls.take (k + 1)).all goodLine = ((ls.take k).all goodLine && goodLine ls[k]) := by
        rw [List.take_succ_eq_append_getElem hlt, List.all_append]; simp
      have HT := Lib.hid hts
      clear hts
      cases hb : goodLine ls[k] with
      | true =>
        go_wp2_with (go_at_call 48; refine (bad_c _ _).mono ?_; rintro e w' ⟨rfl, rfl⟩)
        go_round
        case rel => exact ⟨k + 1, by omega, by go_num, Lib.hid (by rw [HT.out, HK.out, hb]; rfl)⟩
        case measure => simp [intOf]; omega
      | false =>
        have hall : ls.all goodLine = false := by
          rw [List.all_eq_false]
          exact ⟨ls[k], List.getElem_mem hlt, by simp [hb]⟩
        have HA := Lib.hid hall
        clear hall
        go_wp2_with (go_at_call 48; refine (bad_c _ _).mono ?_; rintro e w' ⟨rfl, rfl⟩)
        go_ret
        exact ⟨⟨k, rfl, by omega, by rw [HA.out]; simp⟩, rfl⟩
    · have hke : k = ls.length := by omega
      have hall : ls.all goodLine = true := by
        have := HK.out
        rwa [hke, List.take_length] at this
      have HA := Lib.hid hall
      clear hall hke
      go_wp2
      go_ret
      exact ⟨⟨-1, rfl, by omega, by rw [HA.out]; simp⟩, rfl⟩

/-- is one of the lines no line? -/
theorem containsFunc_c (ls : List ByteArray) (ao : Option Addr) (cap : Nat) (w : World) (hr : Rd w 1 (.slice ao ls.length cap) ls.length (strs ls)) (hn : ls.length ≤ 9223372036854775807) :
    Calls Try.prog 54 #[.slice ao ls.length cap, .func (.func 48) #[] #[]] w fun e w' => e = .returned (.bool (!ls.all goodLine)) ∧ w = w' := by
  have HR := Lib.hid hr
  clear hr
  go_enter Try.func54, Try.ntmps54
  go_wp2_with (go_at_call 69; refine (indexFunc_c ls ao cap _ HR.out hn).mono ?_; rintro e w' ⟨⟨n, rfl, hn1, hn2⟩, rfl⟩; have H2 := Lib.hid hn2; clear hn2)
  go_ret
  rw [← H2.out]
  exact ⟨rfl, rfl⟩
end Go.Proofs.Ytbfmfliknhcoeaa
