/- QueueBytes, walked. -/
import Derived.Test.YtbfmfliknhcoeaaZ8
namespace Go.Proofs.Ytbfmfliknhcoeaa
open Go.RowKit QP

/-- the inner loop: what stands in 'in' behind m lines -/
def InAt (ti t : ByteArray) (ls : List ByteArray) (m : Nat) : Prop := QP.bytes t = QP.bytes ti ++ lineBytes (ls.take m)
theorem InAt.start (ti : ByteArray) (ls : List ByteArray) : InAt ti ti ls 0 := by simp [InAt, lineBytes_nil]
theorem InAt.next {ti t : ByteArray} {ls : List ByteArray} {m : Nat} (h : InAt ti t ls m) (hm : m < ls.length) : InAt ti (t ++ ls[m] ++ ⟨#[10]⟩) ls (m + 1) := by
  unfold InAt at *
  rw [lineBytes_take_succ ls m hm, bytes_append, bytes_append, h]
  simp [QP.bytes]
theorem InAt.size {ti t : ByteArray} {ls : List ByteArray} {m : Nat} (h : InAt ti t ls m) : t.size = ti.size + (lineBytes (ls.take m)).length := by
  have := congrArg List.length h
  rw [List.length_append, bytes_length, bytes_length] at this
  exact this
theorem line_le2 (ls : List ByteArray) (m : Nat) (hm : m < ls.length) : (lineBytes (ls.take m)).length + ls[m].size + 1 ≤ (lineBytes ls).length := by
  have h1 := lineBytes_take_succ ls m hm
  have h2 : (lineBytes (ls.take (m + 1))).length ≤ (lineBytes ls).length := by
    conv => rhs; rw [← List.take_append_drop (m + 1) ls]
    rw [lineBytes_append, List.length_append]; omega
  rw [h1, List.length_append, List.length_append, bytes_length] at h2
  simp at h2
  omega

theorem count_le (l : List ByteArray) : l.length ≤ (lineBytes l).length := by
  induction l with
  | nil => simp
  | cons a l ih => rw [lineBytes_cons, List.length_append, List.length_append]; simp; omega
theorem yes_facts {s s' : St} {o : Opn} {c : Int} {t : ByteArray} (ha : OpAft s o c t s') (hc : c = 0) :
    (s.closed = true → ¬(0 ≤ o.kind ∧ o.kind ≤ 3)) ∧ (o.kind = 3 → s'.closed = true) ∧ (o.kind ≠ 3 → s'.closed = s.closed) := by
  have h0 : opCode s o = 0 := ha.code.symm.trans hc
  have hs := ha.st
  subst hs
  exact ⟨(op_law s o).shut h0, fun h => ((op_law s o).end3 h0 h).2.1, (op_law s o).end_⟩

set_option maxHeartbeats 2000000 in
set_option maxRecDepth 100000 in
theorem bytes_c (limit : Int) (so : Option Addr) (scap : Nat) (xs : List OpAt) (w : World) (hs : Script w so scap xs) :
    Calls Try.prog 5 #[.int .i64 limit, .slice so xs.length scap] w fun e w' => e = .returned (.bool true) ∧ Below w.heap.size w w' := by
  have HS := Lib.hid hs
  clear hs
  by_cases hl : limit < 0 ∨ 65536 < limit
  · go_enter Try.func5, Try.ntmps5
    go_wp2_with fail
    refine (made_no limit w hl).mono ?_
    rintro e w1 ⟨rfl, hb⟩
    have HB := Lib.hid hb
    clear hb hl
    go_wp2
    go_ret
    exact ⟨rfl, HB.out.alloc HB.out.size _⟩
  · go_enter Try.func5, Try.ntmps5
    go_wp2_with fail
    refine (made_c limit w (by omega) (by omega)).mono ?_
    rintro e w1 ⟨b, v, rfl, hb⟩
    obtain ⟨sv, ps, hv, hR, -⟩ := id hb.rr
    obtain ⟨bo, bcap, hsv⟩ := hR.shape
    subst hsv
    subst hv
    have HO := Lib.hid (hb.own.alloc (.cells #[.int .i64 limit, .slice bo ps.length bcap, .bool false] 29))
    have HI : Hid (BInv ⟨limit, [], false⟩ ⟨#[]⟩ ⟨#[]⟩ 0) := Lib.hid ⟨SInv.new (by omega) (by omega), rfl, Nat.zero_le _⟩
    clear hb hR hl
    go_wp2
    go_loopw [8, 9, 10, 11] (fun vi vo ov i wr => ∃ (k : Nat) (s : St) (g : Option Nat) (ti to : ByteArray), k ≤ xs.length ∧ vi = .string ti ∧ vo = .string to ∧ ov = .bool s.closed ∧ i = .int .i64 k ∧
      Hid (Own w wr b g s) ∧ Hid (BInv s ti to k)) (fun _ _ _ i _ => xs.length - (intOf i).toNat)
    case atStart => exact ⟨0, ⟨limit, [], false⟩, _, _, _, Nat.zero_le _, rfl, rfl, rfl, rfl, HO, HI⟩
    case round =>
      clear HO HI
      obtain ⟨k, s, g, ti, to, hk, rfl, rfl, rfl, rfl, HO, HI⟩ := hrel
      have hxl := HS.out.len
      by_cases hlt : k < xs.length
      · obtain ⟨gg, off, hso, hnc, hsix⟩ := HS.out.at_ k hlt
        subst hso
        have H6 := Lib.hid hsix
        have HOK := Lib.hid (HS.out.ok xs[k] (List.getElem_mem hlt))
        have HAR := Lib.hid (HS.out.arg xs[k] (List.getElem_mem hlt))
        have hk0 : (0 : Int) ≤ (k : Int) := by omega
        have hk1 : (k : Int) < (xs.length : Int) := by omega
        clear hsix
        obtain ⟨s0, s1, s2, s3, s4, s5, -⟩ := six_keep H6 (Lib.hid HO.out.bel)
        go_wp2_with fail
        refine (called_k HO HI.out.inv HOK HAR).mono ?_
        rintro e w2 ⟨c, t, g', s', rfl, HA, HO2⟩
        clear s0 s1 s2 s3 s4 s5
        obtain ⟨s0, s1, s2, s3, s4, s5, -⟩ := six_keep H6 (Lib.hid HO2.out.bel)
        have ht1 := HA.out.size
        have hl1 := HI.out.len
        have hl2 := HI.out.big (by omega)
        have hsum : to.size + t.size ≤ 9223372036854775807 := by omega
        go_wp2_with fail
        refine (takes_k HO2 HAR).mono ?_
        rintro e w3 ⟨lo, lc, ls, rfl, HL, HO3, HLS⟩
        clear s0 s1 s2 s3 s4 s5
        obtain ⟨s0, s1, s2, s3, s4, s5, -⟩ := six_keep H6 (Lib.hid HO3.out.bel)
        by_cases hc : c = 0
        · have hcn : (c != 0) = false := by rw [hc]; rfl
          have hlb := takes_bulk HOK.out
          rw [← HLS.out] at hlb
          have hend : Hid (c = 0) := Lib.hid hc
          have hcl0 := Nat.le_trans (count_le ls) hlb
          have HIN := Lib.hid (InAt.start ti ls)
          clear hc
          go_wp2
          go_loop [8, 15] (fun vi j => ∃ (m : Nat) (t2 : ByteArray), m ≤ ls.length ∧ vi = .string t2 ∧ j = .int .i64 m ∧ Hid (InAt ti t2 ls m)) (fun _ j => ls.length - (intOf j).toNat)
          case atStart => exact ⟨0, ti, Nat.zero_le _, rfl, rfl, HIN⟩
          case round =>
            clear HIN
            obtain ⟨m, t2, hm, rfl, rfl, HIN⟩ := hrel
            by_cases hmt : m < ls.length
            · obtain ⟨g5, off5, cap5, hv, hnc5, hc5⟩ := HL.out.at_ (by omega)
              cases hv
              have hck := hc5 m _ (strs_get ls m hmt)
              have hle := line_le2 ls m hmt
              have hsz := HIN.out.size
              have hm0 : (0 : Int) ≤ (m : Int) := by omega
              have hm1 : (m : Int) < (ls.length : Int) := by omega
              have hs1 : t2.size + ls[m].size ≤ 9223372036854775807 := by omega
              have hs2 : (t2 ++ ls[m]).size + (⟨#[10]⟩ : ByteArray).size ≤ 9223372036854775807 := by
                have : (⟨#[10]⟩ : ByteArray).size = 1 := rfl
                rw [ByteArray.size_append, this]; omega
              have HIN2 := Lib.hid (HIN.out.next hmt)
              clear hc5 hle hsz
              go_wp2
              go_round
              case rel => exact ⟨m + 1, _, by omega, rfl, by go_num, HIN2⟩
              case measure => simp [intOf]; omega
            · have hme : m = ls.length := by omega
              subst hme
              have hin : QP.bytes t2 = QP.bytes ti ++ lineBytes (takesOf xs[k].o) := by
                have := HIN.out
                unfold InAt at this
                rw [List.take_length, HLS.out] at this
                exact this
              have HIY := Lib.hid (HI.out.yes HA.out hend.out HOK.out hin)
              obtain ⟨f1, f2, f3⟩ := yes_facts HA.out hend.out
              have hlen := HIY.out.len
              have hsz := HIY.out.big (by omega)
              obtain ⟨to2, hto2⟩ : ∃ to2, to ++ t = to2 := ⟨_, rfl⟩
              rw [hto2] at HIY hlen ⊢
              obtain ⟨kd, hkd⟩ : ∃ kd, xs[k].o.kind = kd := ⟨_, rfl⟩
              rw [hkd] at f1 f2 f3 s0
              have hsub : ((s'.fl.length : Int) != (t2.size : Int) - (to2.size : Int)) = false := by
                simp only [bne_eq_false_iff_eq]; omega
              have hle2 : to2.size ≤ t2.size := by omega
              have hfl := HIY.out.inv.fits.len
              clear hlen hl1 hl2 ht1 hsum hin hto2 hkd hlb hcl0
              cases hcl : s.closed with
              | true =>
                rw [hcl] at f1 f3
                have f1' := f1 rfl
                have hk3 : kd ≠ 3 := by omega
                have hcl2 := f3 hk3
                by_cases hk0 : 0 ≤ kd
                · have q1 : decide (kd ≥ 0) = true := by simpa using hk0
                  have q2 : decide (kd ≤ 3) = false := by simp; omega
                  clear f1 f2 f3 f1' hk3 hk0
                  go_wp2_with fail
                  refine (size_c b g' s' _ HO3.out.q).mono ?_
                  rintro e w4 ⟨rfl, rfl⟩
                  go_wp2_with fail
                  refine (closed_c b g' s' _ HO3.out.q).mono ?_
                  rintro e w4 ⟨rfl, rfl⟩
                  rw [hcl2]
                  go_wp2
                  go_roundw
                  case rel => exact ⟨k + 1, s', _, _, _, by omega, rfl, rfl, by rw [hcl2], by go_num, HO3, HIY⟩
                  case measure => simp [intOf]; omega
                · have q1 : decide (kd ≥ 0) = false := by simpa using hk0
                  clear f1 f2 f3 f1' hk3 hk0
                  go_wp2_with fail
                  refine (size_c b g' s' _ HO3.out.q).mono ?_
                  rintro e w4 ⟨rfl, rfl⟩
                  go_wp2_with fail
                  refine (closed_c b g' s' _ HO3.out.q).mono ?_
                  rintro e w4 ⟨rfl, rfl⟩
                  rw [hcl2]
                  go_wp2
                  go_roundw
                  case rel => exact ⟨k + 1, s', _, _, _, by omega, rfl, rfl, by rw [hcl2], by go_num, HO3, HIY⟩
                  case measure => simp [intOf]; omega
              | false =>
                rw [hcl] at f3
                by_cases hk3 : kd = 3
                · have hcl2 := f2 hk3
                  have q1 : (kd == 3) = true := by rw [hk3]; rfl
                  clear f1 f2 f3 hk3
                  go_wp2_with fail
                  refine (size_c b g' s' _ HO3.out.q).mono ?_
                  rintro e w4 ⟨rfl, rfl⟩
                  go_wp2_with fail
                  refine (closed_c b g' s' _ HO3.out.q).mono ?_
                  rintro e w4 ⟨rfl, rfl⟩
                  rw [hcl2]
                  go_wp2
                  go_roundw
                  case rel => exact ⟨k + 1, s', _, _, _, by omega, rfl, rfl, by rw [hcl2], by go_num, HO3, HIY⟩
                  case measure => simp [intOf]; omega
                · have hcl2 := f3 hk3
                  have q1 : (kd == 3) = false := by simpa using hk3
                  clear f1 f2 f3 hk3
                  go_wp2_with fail
                  refine (size_c b g' s' _ HO3.out.q).mono ?_
                  rintro e w4 ⟨rfl, rfl⟩
                  go_wp2_with fail
                  refine (closed_c b g' s' _ HO3.out.q).mono ?_
                  rintro e w4 ⟨rfl, rfl⟩
                  rw [hcl2]
                  go_wp2
                  go_roundw
                  case rel => exact ⟨k + 1, s', _, _, _, by omega, rfl, rfl, by rw [hcl2], by go_num, HO3, HIY⟩
                  case measure => simp [intOf]; omega
        · have hcn : (c != 0) = true := by simpa using hc
          have HI2 := Lib.hid (HI.out.no HA.out hc)
          have hst := ((op_law s xs[k].o).no (by rw [← HA.out.code]; exact hc)).1
          have hss : s' = s := HA.out.st.trans hst
          clear hc hst
          subst hss
          go_wp2
          go_roundw
          case rel => exact ⟨k + 1, _, _, _, _, by omega, rfl, rfl, rfl, by go_num, HO3, HI2⟩
          case measure => simp [intOf]; omega
      · have hke : k = xs.length := by omega
        have hl1 := HI.out.len
        have hl2 := HI.out.big (by omega)
        have hl3 := HI.out.inv.fits.len
        go_wp2_with fail
        refine (drain_c b g s 1073741824 _ HO.out.q (by omega) (by omega) (by omega)).mono ?_
        rintro e w2 ⟨td, rfl, ht, q1, m1⟩
        have HO2 := Lib.hid (HO.out.next q1 (.inl rfl) m1)
        have htd : QP.bytes td = lett s.fl := by
          rw [ht]
          unfold drained
          rw [List.take_of_length_le (by omega)]
        have hts : td.size = s.fl.length := by
          have := congrArg List.length htd
          rw [lett_length, bytes_length] at this
          exact this
        have hsum : to.size + td.size ≤ 9223372036854775807 := by omega
        have heq : to ++ td = ti := by
          refine ByteArray.ext (Array.toList_inj.1 ?_)
          have := HI.out.eq
          rw [← htd, ← bytes_append] at this
          exact this.symm
        have heqb : ((to ++ td).toList == ti.toList) = true := by rw [heq]; exact beq_self_eq_true _
        clear ht q1 m1 htd hts heq
        go_wp2
        go_ret
        exact ⟨rfl, HO2.out.bel⟩
end Go.Proofs.Ytbfmfliknhcoeaa
