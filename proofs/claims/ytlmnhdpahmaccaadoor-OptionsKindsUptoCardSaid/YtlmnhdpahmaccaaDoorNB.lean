/- the document's numbers: PutNumber, Number. -/
import Derived.Test.YtlmnhdpahmaccaaDoorDB
import Derived.Test.YtlmnhdpahmaccaaDoorNP
import Derived.Test.YtlmnhdpahmaccaaDoorDC
namespace Go.Proofs.YtlmnhdpahmaccaaDoor
open Go.RowKit QP

theorem putn_one {n : Nat} (h : n < 10) : putn n = [UInt8.ofNat (48 + n)] := by
  unfold putn
  rw [if_pos (by unfold top; omega), Lib.decDigits_one h]
theorem putn_more {n : Nat} (h : ¬ n < 10) (h1 : n ≤ top) : putn n = putn (n / 10) ++ putn (n % 10) := by
  have h2 : n / 10 ≤ top := by unfold top at *; omega
  rw [putn_one (n := n % 10) (by omega)]
  unfold putn
  rw [if_pos h1, if_pos h2, Lib.decDigits, dif_neg h]
theorem bytes_append (a b : List UInt8) : (⟨(a ++ b).toArray⟩ : ByteArray) = ⟨a.toArray⟩ ++ ⟨b.toArray⟩ := bytes_ext (by simp)

set_option maxHeartbeats 4000000 in
set_option maxRecDepth 100000 in
theorem rputn_c : ∀ (n : Nat) (_ : n ≤ 9223372036854775807) (w : World), Calls Tryd.prog 37 #[.int .i64 n] w fun e w' => e = .returned (.string ⟨(putn n).toArray⟩) ∧ Hid (Below w.heap.size w w') := by
  intro n
  induction n using Nat.strongRecOn with
  | _ n ih =>
    intro hn w
    have q1 : decide ((n : Int) < 0) = false := by simp
    have hni : (n : Int) ≤ 9223372036854775807 := by omega
    by_cases ht : n ≤ top
    · have q2 : decide ((n : Int) > 4611686018427387904) = false := by unfold top at ht; simp; omega
      by_cases h10 : n < 10
      · have q3 : decide ((n : Int) < 10) = true := by simp; omega
        have hb := run_box_string w [48 + (n : Int)]
        simp only [List.map_cons, List.map_nil, List.length_cons, List.length_nil, Nat.zero_add] at hb
        have hv : ofInts [48 + (n : Int)] = ⟨(putn n).toArray⟩ := by
          unfold ofInts
          rw [putn_one h10]
          simp only [List.map_cons, List.map_nil, show (48 + (n : Int)).toNat = 48 + n by omega]
        rw [hv] at hb
        generalize (⟨(putn n).toArray⟩ : ByteArray) = t at hb ⊢
        have HB : Hid (Below w.heap.size w (w.alloc (.cells #[.int .u8 (48 + (n : Int))] 5))) := Lib.hid ((Below.refl _ _).alloc (Nat.le_refl _) _)
        clear ih hn ht hv
        go_enter Tryd.func37, Tryd.ntmps37
        go_wp2
        go_ret
        exact ⟨rfl, HB⟩
      · have q3 : decide ((n : Int) < 10) = false := by simp; omega
        have ih1 := fun w => ih (n / 10) (by omega) (by omega) w
        have ih2 := fun w => ih (n % 10) (by omega) (by omega) w
        have e1 : ((n / 10 : Nat) : Int) = (n : Int) / 10 := by omega
        have e2 : ((n % 10 : Nat) : Int) = (n : Int) % 10 := by omega
        simp only [e1] at ih1
        simp only [e2] at ih2
        have hv : (⟨(putn n).toArray⟩ : ByteArray) = ⟨(putn (n / 10)).toArray⟩ ++ ⟨(putn (n % 10)).toArray⟩ := by rw [putn_more h10 ht, bytes_append]
        have l1 := putn_len (n / 10)
        have l2 := putn_len (n % 10)
        obtain ⟨ta, hta⟩ : ∃ ta, (⟨(putn (n / 10)).toArray⟩ : ByteArray) = ta := ⟨_, rfl⟩
        obtain ⟨tb, htb⟩ : ∃ tb, (⟨(putn (n % 10)).toArray⟩ : ByteArray) = tb := ⟨_, rfl⟩
        have la : ta.size ≤ 19 := by rw [← hta]; exact l1
        have lb : tb.size ≤ 19 := by rw [← htb]; exact l2
        rw [hta] at ih1 hv
        rw [htb] at ih2 hv
        rw [hv]
        have hs : ¬ 9223372036854775807 < ta.size + tb.size := by omega
        have hs' : ta.size + tb.size ≤ 9223372036854775807 := by omega
        clear ih hn ht hv l1 l2 hta htb e1 e2
        go_enter Tryd.func37, Tryd.ntmps37
        go_wp2_with fail
        refine (ih1 _).mono ?_
        rintro e w1 ⟨rfl, HB1⟩
        go_wp2_with fail
        refine (ih2 _).mono ?_
        rintro e w2 ⟨rfl, HB2⟩
        have HB := Lib.hid (below_of HB1.out HB2.out)
        go_wp2
        go_ret
        exact ⟨rfl, HB⟩
    · have q2 : decide ((n : Int) > 4611686018427387904) = true := by unfold top at ht; simp; omega
      have hv : (⟨(putn n).toArray⟩ : ByteArray) = ⟨#[]⟩ := by unfold putn; rw [if_neg ht]
      rw [hv]
      clear ih hn ht hv
      go_enter Tryd.func37, Tryd.ntmps37
      go_wp2
      go_ret
      exact ⟨rfl, Lib.hid (Below.refl _ _)⟩

theorem rloop_none {i n : Nat} {c : UInt8} {r : List UInt8} (h : c.toNat < 48 ∨ 57 < c.toNat ∨ 18 < i ∨ 461168601842738790 < n) : rloop i n (c :: r) = none := by rw [rloop, if_pos h]
theorem rloop_next {i n : Nat} {c : UInt8} {r : List UInt8} (h : ¬ (c.toNat < 48 ∨ 57 < c.toNat ∨ 18 < i ∨ 461168601842738790 < n)) : rloop i n (c :: r) = rloop (i + 1) (10 * n + (c.toNat - 48)) r := by rw [rloop, if_neg h]
theorem rnum_none {s : List UInt8} (h : rloop 0 0 s = none) : rnum s = none := by unfold rnum; rw [h]
theorem rnum_some {s : List UInt8} {n : Nat} (h : rloop 0 0 s = some n) : rnum s = if s = [] ∨ putn n ≠ s then none else some n := by unfold rnum; rw [h]
theorem drop_at {s : ByteArray} {k : Nat} (h : k < s.size) : s.data.toList.drop k = s[k] :: s.data.toList.drop (k + 1) := by
  have hl : k < s.data.toList.length := by rw [Array.length_toList]; exact h
  rw [List.drop_eq_getElem_cons hl]
  congr 1

set_option maxHeartbeats 4000000 in
set_option maxRecDepth 100000 in
theorem rnumber_c (s : ByteArray) (hs : s.size ≤ 9223372036854775807) (w : World) : Calls Tryd.prog 31 #[.string s] w fun e w' => e = .returned (.tuple #[.int .i64 ((rnum s.data.toList).getD 0 : Nat), .bool (rnum s.data.toList).isSome]) ∧ Hid (Below w.heap.size w w') := by
  obtain ⟨p, hp⟩ : ∃ p, rnum s.data.toList = p := ⟨_, rfl⟩
  have HP := Lib.hid hp
  rw [hp]
  clear hp
  have HS := Lib.hid hs
  have HB0 := Lib.hid (Below.refl w.heap.size w)
  clear hs
  go_enter Tryd.func31, Tryd.ntmps31
  go_wp2
  go_loopw [4, 5] (fun n i wr => ∃ (k m : Nat), k ≤ s.size ∧ i = .int .i64 k ∧ n = .int .i64 m ∧ m ≤ 4611686018427387909 ∧ Hid (rloop 0 0 s.data.toList = rloop k m (s.data.toList.drop k)) ∧ Hid (Below w.heap.size w wr)) (fun _ i _ => s.size - (intOf i).toNat)
  case atStart => exact ⟨0, 0, Nat.zero_le _, rfl, rfl, by omega, Lib.hid rfl, HB0⟩
  case round =>
    clear HB0
    obtain ⟨k, m, hk, rfl, rfl, hm, HN, HB⟩ := hrel
    have hsz := HS.out
    by_cases hlt : k < s.size
    · have hdrop := drop_at hlt
      have HD := Lib.hid hdrop
      have z1 : (k : Int) < (s.size : Int) := by omega
      have z2 : (0 : Int) ≤ (k : Int) := by omega
      have hxb := s[k].toNat_lt
      have hwx : wrap64 (s[k].toNat : Int) = (s[k].toNat : Int) := wrap_byte _
      clear hdrop
      by_cases h1 : s[k].toNat < 48
      · have p1 : decide ((s[k].toNat : Int) < 48) = true := by simp; omega
        have hpe : p = none := by rw [← HP.out]; exact rnum_none (by rw [HN.out, HD.out]; exact rloop_none (.inl h1))
        subst hpe
        clear HP HN HD
        go_wp2
        go_ret2
        exact ⟨rfl, HB⟩
      have p1 : decide ((s[k].toNat : Int) < 48) = false := by simp; omega
      by_cases h2 : 57 < s[k].toNat
      · have p2 : decide ((s[k].toNat : Int) > 57) = true := by simp; omega
        have hpe : p = none := by rw [← HP.out]; exact rnum_none (by rw [HN.out, HD.out]; exact rloop_none (.inr (.inl h2)))
        subst hpe
        clear HP HN HD
        go_wp2
        go_ret2
        exact ⟨rfl, HB⟩
      have p2 : decide ((s[k].toNat : Int) > 57) = false := by simp; omega
      by_cases h3 : 18 < k
      · have p3 : decide ((k : Int) > 18) = true := by simp; omega
        have hpe : p = none := by rw [← HP.out]; exact rnum_none (by rw [HN.out, HD.out]; exact rloop_none (.inr (.inr (.inl h3))))
        subst hpe
        clear HP HN HD
        go_wp2
        go_ret2
        exact ⟨rfl, HB⟩
      have p3 : decide ((k : Int) > 18) = false := by simp; omega
      by_cases h4 : 461168601842738790 < m
      · have p4 : decide ((m : Int) > 461168601842738790) = true := by simp; omega
        have hpe : p = none := by rw [← HP.out]; exact rnum_none (by rw [HN.out, HD.out]; exact rloop_none (.inr (.inr (.inr h4))))
        subst hpe
        clear HP HN HD
        go_wp2
        go_ret2
        exact ⟨rfl, HB⟩
      have p4 : decide ((m : Int) > 461168601842738790) = false := by simp; omega
      have HN' : Hid (rloop 0 0 s.data.toList = rloop (k + 1) (10 * m + (s[k].toNat - 48)) (s.data.toList.drop (k + 1))) := Lib.hid (by rw [HN.out, HD.out, rloop_next (by omega)])
      have hsub : ((s[k].toNat : Int) - 48) = ((s[k].toNat - 48 : Nat) : Int) := by omega
      have hv : 10 * (m : Int) + ((s[k].toNat - 48 : Nat) : Int) = ((10 * m + (s[k].toNat - 48) : Nat) : Int) := by omega
      have hx48 : s[k].toNat - 48 ≤ 9 := by omega
      obtain ⟨m2, hm2⟩ : ∃ m2, 10 * m + (s[k].toNat - 48) = m2 := ⟨_, rfl⟩
      have hm3 : m2 ≤ 4611686018427387909 := by omega
      rw [hm2] at hv HN'
      clear HN HD hm2
      go_wp2
      go_roundw
      case rel => exact ⟨k + 1, m2, by omega, by go_num, rfl, hm3, HN', HB⟩
      case measure => simp [intOf]; omega
    · have hke : k = s.size := by omega
      have hl : rloop 0 0 s.data.toList = some m := by rw [HN.out, List.drop_eq_nil_of_le (by rw [Array.length_toList]; show s.size ≤ k; omega), rloop]
      have HR := Lib.hid (HP.out.symm.trans (rnum_some hl))
      subst hke
      clear HP HN hl
      cases hz : s.toList.isEmpty with
      | true =>
        have hs0 : s.data.toList = [] := by rw [Go.ByteArray.toList_eq] at hz; simpa using hz
        have hpe : p = none := by rw [HR.out, if_pos (.inl hs0)]
        subst hpe
        clear HR hs0
        go_wp2
        go_ret2
        exact ⟨rfl, HB⟩
      | false =>
        have hs0 : s.data.toList ≠ [] := by rw [Go.ByteArray.toList_eq] at hz; simpa using hz
        have HZ := Lib.hid hs0
        have hput := rputn_c m (by omega) wr
        obtain ⟨t, ht⟩ : ∃ t, (⟨(putn m).toArray⟩ : ByteArray) = t := ⟨_, rfl⟩
        rw [ht] at hput
        have htl : putn m = t.data.toList := by rw [← ht]
        have HT := Lib.hid htl
        clear hs0 ht htl
        go_wp2_with fail
        refine hput.mono ?_
        rintro e w1 ⟨rfl, HB1⟩
        have HB2 := Lib.hid (below_of HB.out HB1.out)
        cases he : sameS t s with
        | true =>
          have h2 : (t.toList == s.toList) = true := (sameS_beq _ _).trans he
          have h3 : (t.toList != s.toList) = false := by rw [bne, h2]; rfl
          have hpe : p = some m := by rw [HR.out, if_neg]; rintro (h | h); exact HZ.out h; exact h (by rw [HT.out, (sameS_iff _ _).1 he])
          subst hpe
          clear HR he
          go_wp2
          go_ret2
          exact ⟨rfl, HB2⟩
        | false =>
          have h2 : (t.toList == s.toList) = false := (sameS_beq _ _).trans he
          have h3 : (t.toList != s.toList) = true := by rw [bne, h2]; rfl
          have hpe : p = none := by
            rw [HR.out, if_pos]
            refine .inr fun h => ?_
            rw [HT.out] at h
            rw [(sameS_iff _ _).2 (bytes_ext h)] at he
            cases he
          subst hpe
          clear HR he
          go_wp2
          go_ret2
          exact ⟨rfl, HB2⟩
end Go.Proofs.YtlmnhdpahmaccaaDoor
