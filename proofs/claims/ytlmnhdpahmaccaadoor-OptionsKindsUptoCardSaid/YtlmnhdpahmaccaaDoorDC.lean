/- the document's keys: worth. -/
import Derived.Test.YtlmnhdpahmaccaaDoorDB
namespace Go.Proofs.YtlmnhdpahmaccaaDoor
open Go.RowKit QP

def lowCells : List Value := [.int .i64 0, .int .i64 192, .int .i64 224, .int .i64 240]
def topCells : List Value := [.int .i64 127, .int .i64 223, .int .i64 239, .int .i64 247]
def worthVal (s : List UInt8) : Int := match dworth s with | some c => c | none => -1

structure WorthAt (W w : World) (g h : Nat) : Prop where
  bel : Below W.heap.size W w
  low : Rd w 1 (.slice (some ⟨g, 0, none⟩) 4 4) 4 lowCells
  top : Rd w 1 (.slice (some ⟨h, 0, none⟩) 4 4) 4 topCells

theorem dcont_lt : ∀ (r : List UInt8) (c d : Nat), dcont c r = some d → d < (c + 1) * 64 ^ r.length
  | [], c, d, h => by
    rw [dcont] at h
    injection h with h
    simp
    omega
  | b :: r, c, d, h => by
    rw [dcont] at h
    split at h
    · cases h
    · have := dcont_lt r _ d h
      have hb := b.toNat_lt
      rw [List.length_cons, Nat.pow_succ]
      refine Nat.lt_of_lt_of_le this ?_
      rw [Nat.mul_comm (64 ^ r.length) 64, ← Nat.mul_assoc]
      refine Nat.mul_le_mul_right _ ?_
      omega
theorem low_parts {n : Nat} (h : n < 4) : lows.getD n 0 = (if n = 0 then 0 else if n = 1 then 192 else if n = 2 then 224 else 240) ∧ tops.getD n 0 = (if n = 0 then 127 else if n = 1 then 223 else if n = 2 then 239 else 247) := by
  have hc : n = 0 ∨ n = 1 ∨ n = 2 ∨ n = 3 := by omega
  rcases hc with rfl | rfl | rfl | rfl <;> exact ⟨rfl, rfl⟩
theorem dworth_lt {s : List UInt8} {c : Nat} (hs : s.length ≤ 4) (h : dworth s = some c) : c < 2097152 := by
  cases s with
  | nil => cases h
  | cons b r =>
    rw [dworth] at h
    split at h
    · cases h
    · rename_i hb
      have h1 := dcont_lt r _ c h
      simp only [List.length_cons] at hs
      have hc : r.length = 0 ∨ r.length = 1 ∨ r.length = 2 ∨ r.length = 3 := by omega
      obtain ⟨l1, l2⟩ := low_parts (n := r.length) (by omega)
      rcases hc with e | e | e | e <;> rw [e] at h1 l1 l2 hb <;> simp [lows, tops] at h1 hb <;> omega

theorem wrap_byte (b : UInt8) : wrap64 (b.toNat : Int) = (b.toNat : Int) := by
  have := b.toNat_lt
  simp [wrap64]
  omega
set_option maxHeartbeats 8000000 in
set_option maxRecDepth 100000 in
theorem dworth_c (s : ByteArray) (h0 : 0 < s.size) (h4 : s.size ≤ 4) (w : World) : Calls Tryd.prog 56 #[.string s] w fun e w' => e = .returned (.int .i64 (worthVal s.data.toList)) ∧ Hid (Below w.heap.size w w') := by
  obtain ⟨r, hbr⟩ : ∃ r, s.data.toList = s[0] :: r := by
    cases hl : s.data.toList with
    | nil =>
      have := congrArg List.length hl
      have e : s.size = 0 := this
      omega
    | cons b r =>
      have h1 : s.data.toList[0]? = some (s[0]'h0) := by
        rw [Array.getElem?_toList]
        exact Array.getElem?_eq_getElem _
      rw [hl, List.getElem?_cons_zero] at h1
      injection h1 with h1
      exact ⟨r, by rw [h1]⟩
  have HL : Hid (r.length + 1 = s.size) := Lib.hid (congrArg List.length hbr).symm
  have hget : ∀ j, ∀ hj : j < r.length, r[j]? = some (s[j + 1]'(by have := HL.out; omega)) := fun j hj => by
    have h1 : s.data.toList[j + 1]? = some (s[j + 1]'(by have := HL.out; omega)) := by
      rw [Array.getElem?_toList]
      exact Array.getElem?_eq_getElem _
    rw [hbr, List.getElem?_cons_succ] at h1
    exact h1
  have hs0 : s[0]? = some s[0] := by simp [h0]
  have hwr : wrap64 (s[0].toNat : Int) = (s[0].toNat : Int) := wrap_byte _
  have hn : r.length < 4 := by have := HL.out; omega
  obtain ⟨l1, l2⟩ := low_parts hn
  obtain ⟨lo, hlo⟩ : ∃ lo, lows.getD r.length 0 = lo := ⟨_, rfl⟩
  obtain ⟨hi, hhi⟩ : ∃ hi, tops.getD r.length 0 = hi := ⟨_, rfl⟩
  have hW : worthVal s.data.toList = if s[0].toNat < lo ∨ hi < s[0].toNat then -1 else match dcont (s[0].toNat - lo) r with | some c => (c : Int) | none => -1 := by
    unfold worthVal
    rw [hbr, dworth, hlo, hhi]
    by_cases hh : s[0].toNat < lo ∨ hi < s[0].toNat
    · rw [if_pos hh, if_pos hh]
    · rw [if_neg hh, if_neg hh]
  obtain ⟨v, hv⟩ : ∃ v, worthVal s.data.toList = v := ⟨_, rfl⟩
  rw [hv]
  have HW := Lib.hid (hv.symm.trans hW)
  have hb1 : Below w.heap.size w (w.alloc (.cells lowCells.toArray 3)) := (Below.refl _ _).alloc (Nat.le_refl _) _
  have hb2 := hb1.alloc (by simp) (.cells topCells.toArray 3)
  have HA : Hid (WorthAt w ((w.alloc (.cells #[.int .i64 0, .int .i64 192, .int .i64 224, .int .i64 240] 3)).alloc (.cells #[.int .i64 127, .int .i64 223, .int .i64 239, .int .i64 247] 3)) w.heap.size (w.heap.size + 1)) :=
    Lib.hid ⟨hb2, (Rd.box _ _ 1 4 _ rfl rfl).alloc _, Rd.box _ _ 1 4 _ (by simp) rfl⟩
  have hlast : ((s.size : Int) - 1) = (r.length : Int) := by have := HL.out; omega
  have hr0 : (0 : Int) ≤ (r.length : Int) := by omega
  have hr4 : (r.length : Int) < 4 := by omega
  have hbn := s[0].toNat_lt
  have cl : ((w.alloc (.cells #[.int .i64 0, .int .i64 192, .int .i64 224, .int .i64 240] 3)).alloc (.cells #[.int .i64 127, .int .i64 223, .int .i64 239, .int .i64 247] 3)).cell? ⟨w.heap.size, r.length, none⟩ = some (.int .i64 lo) := by
    rw [((Blk.new w 3 #[.int .i64 0, .int .i64 192, .int .i64 224, .int .i64 240]).alloc _).cell]
    rw [← hlo, l1]
    have hc : r.length = 0 ∨ r.length = 1 ∨ r.length = 2 ∨ r.length = 3 := by omega
    rcases hc with e | e | e | e <;> rw [e] <;> rfl
  have ct : ((w.alloc (.cells #[.int .i64 0, .int .i64 192, .int .i64 224, .int .i64 240] 3)).alloc (.cells #[.int .i64 127, .int .i64 223, .int .i64 239, .int .i64 247] 3)).cell? ⟨w.heap.size + 1, r.length, none⟩ = some (.int .i64 hi) := by
    have hk := Blk.new (w.alloc (.cells #[.int .i64 0, .int .i64 192, .int .i64 224, .int .i64 240] 3)) 3 #[.int .i64 127, .int .i64 223, .int .i64 239, .int .i64 247]
    have e1 : (w.alloc (.cells #[.int .i64 0, .int .i64 192, .int .i64 224, .int .i64 240] 3)).heap.size = w.heap.size + 1 := by simp
    rw [e1] at hk
    rw [hk.cell]
    rw [← hhi, l2]
    have hc : r.length = 0 ∨ r.length = 1 ∨ r.length = 2 ∨ r.length = 3 := by omega
    rcases hc with e | e | e | e <;> rw [e] <;> rfl
  have hlo3 : lo ≤ 240 := by rw [← hlo, l1]; (repeat' split) <;> omega
  have hhi3 : hi ≤ 247 := by rw [← hhi, l2]; (repeat' split) <;> omega
  have HG := Lib.hid hget
  have h00 : (0 : Int) < (s.size : Int) := by omega
  clear hW hv hb1 hb2 hget l1 l2 hlo hhi hbr h4 hn
  by_cases hx : s[0].toNat < lo
  · have q1 : decide (s[0].toNat < lo) = true := decide_eq_true hx
    have hv : v = -1 := by rw [HW.out, if_pos (.inl hx)]
    subst hv
    clear HW
    go_enter Tryd.func56, Tryd.ntmps56
    go_wp2
    go_ret
    exact ⟨rfl, Lib.hid HA.out.bel⟩
  have q1 : decide (s[0].toNat < lo) = false := decide_eq_false hx
  by_cases hy : hi < s[0].toNat
  · have q2 : decide (hi < s[0].toNat) = true := decide_eq_true hy
    have hv : v = -1 := by rw [HW.out, if_pos (.inr hy)]
    subst hv
    clear HW
    go_enter Tryd.func56, Tryd.ntmps56
    go_wp2
    go_ret
    exact ⟨rfl, Lib.hid HA.out.bel⟩
  have q2 : decide (hi < s[0].toNat) = false := decide_eq_false hy
  have HV := Lib.hid (HW.out.trans (if_neg (fun h => h.elim hx hy)))
  have hsub : (s[0].toNat : Int) - (lo : Int) = ((s[0].toNat - lo : Nat) : Int) := by omega
  obtain ⟨c0, hc0⟩ : ∃ c0, s[0].toNat - lo = c0 := ⟨_, rfl⟩
  rw [hc0] at hsub HV
  have hc0b : c0 < 256 := by omega
  clear HW hc0
  go_enter Tryd.func56, Tryd.ntmps56
  go_wp2
  go_loopw [7, 8] (fun c i wr => ∃ (k n : Nat), k ≤ r.length ∧ i = .int .i64 ((k : Int) + 1) ∧ c = .int .i64 (n : Int) ∧ n < 1000000000 ∧ Hid (n < 256 * 64 ^ k) ∧ Hid (dcont c0 r = dcont n (r.drop k)) ∧ Hid (WorthAt w wr w.heap.size (w.heap.size + 1))) (fun _ i _ => s.size - (intOf i).toNat)
  case atStart => exact ⟨0, c0, Nat.zero_le _, rfl, rfl, by omega, Lib.hid (by simpa using hc0b), Lib.hid rfl, HA⟩
  case round =>
    obtain ⟨k, n, hk, rfl, rfl, hn9, HN, HD, HA2⟩ := hrel
    clear HA cl ct
    have hsz := HL.out
    by_cases hlt : k < r.length
    · have hx := HG.out k hlt
      obtain ⟨x, hxe⟩ : ∃ x, s[k + 1]'(by have := HL.out; omega) = x := ⟨_, rfl⟩
      have hsk : s[k + 1]? = some x := by rw [← hxe]; simp
      rw [hxe] at hx
      have hdrop : r.drop k = x :: r.drop (k + 1) := by
        rw [List.drop_eq_getElem_cons hlt]
        congr 1
        rw [List.getElem?_eq_getElem hlt] at hx
        exact Option.some.inj hx
      have z1 : (k : Int) + 1 < (s.size : Int) := by omega
      have z2 : (0 : Int) ≤ (k : Int) + 1 := by omega
      have z3 : k + 1 < s.size := by omega
      have hwx : wrap64 (x.toNat : Int) = (x.toNat : Int) := wrap_byte _
      have hxb := x.toNat_lt
      clear hx
      by_cases hx1 : x.toNat < 128
      · have p1 : decide ((x.toNat : Int) < 128) = true := by simp; omega
        have hv : v = -1 := by
          rw [HV.out, HD.out, hdrop, dcont, if_pos (.inl hx1)]
        subst hv
        clear HV hdrop
        go_wp2
        go_ret
        exact ⟨rfl, Lib.hid HA2.out.bel⟩
      have p1 : decide ((x.toNat : Int) < 128) = false := by simp; omega
      by_cases hx2 : 191 < x.toNat
      · have p2 : decide ((x.toNat : Int) > 191) = true := by simp; omega
        have hv : v = -1 := by
          rw [HV.out, HD.out, hdrop, dcont, if_pos (.inr hx2)]
        subst hv
        clear HV hdrop
        go_wp2
        go_ret
        exact ⟨rfl, Lib.hid HA2.out.bel⟩
      have p2 : decide ((x.toNat : Int) > 191) = false := by simp; omega
      have hn' : 64 * (n : Int) + (x.toNat : Int) - 128 = ((64 * n + x.toNat - 128 : Nat) : Int) := by omega
      have HD' : Hid (dcont c0 r = dcont (64 * n + x.toNat - 128) (r.drop (k + 1))) := Lib.hid (by rw [HD.out, hdrop, dcont, if_neg (fun h => h.elim hx1 hx2)])
      have hN' : 64 * n + x.toNat - 128 < 256 * 64 ^ (k + 1) := by
        have := HN.out
        rw [Nat.pow_succ]
        omega
      have hk4 : k + 1 = 1 ∨ k + 1 = 2 ∨ k + 1 = 3 := by omega
      have hn2 : 64 * n + x.toNat - 128 < 1000000000 := by rcases hk4 with e | e | e <;> rw [e] at hN' <;> omega
      have HN' := Lib.hid hN'
      obtain ⟨m, hm⟩ : ∃ m, 64 * n + x.toNat - 128 = m := ⟨_, rfl⟩
      rw [hm] at hn' HD' HN' hn2
      clear hdrop hN' hm HN HD
      go_wp2
      go_roundw
      case rel => exact ⟨k + 1, m, by omega, by go_num, rfl, hn2, HN', HD', HA2⟩
      case measure => simp [intOf]; omega
    · have hke : k = r.length := by omega
      have hv : v = n := by
        rw [HV.out, HD.out, List.drop_eq_nil_of_le (by omega), dcont]
      have z1 : decide (((k : Int) + 1) < (s.size : Int)) = false := by simp; omega
      subst hv
      clear HV
      go_wp2
      go_ret
      exact ⟨rfl, Lib.hid HA2.out.bel⟩
end Go.Proofs.YtlmnhdpahmaccaaDoor
