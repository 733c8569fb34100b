/- QueueBounds, walked. -/
import Derived.Test.YtbfmfliknhcoeaaZ9
namespace Go.Proofs.Ytbfmfliknhcoeaa
open Go.RowKit QP

/-- what the loop holds: the size is within the limit, Spare and the last line -/
structure LInv (limit : Int) (s : St) (last : Int) : Prop where
  inv : SInv s
  lim : s.limit = limit
  last0 : 0 ≤ last
  last1 : last ≤ 4000000
  len : (s.fl.length : Int) ≤ limit + 32768 + last
theorem LInv.new {limit : Int} (h0 : 0 ≤ limit) (h1 : limit ≤ 65536) : LInv limit ⟨limit, [], false⟩ 0 := ⟨SInv.new h0 h1, rfl, by omega, by omega, by simp; omega⟩

theorem op_len_le (s : St) (o : Opn) (h : opCode s o = 0) : (nextSt s o).fl.length ≤ s.fl.length + (lineBytes (takesOf o)).length := by
  have h1 := congrArg List.length ((op_law s o).yes h)
  rw [List.length_append, List.length_append, lett_length, lett_length] at h1
  omega

/-- the last line's length behind a call -/
def lastOf (c : Int) (o : Opn) (last : Int) : Int := if c = 0 ∧ o.kind = 3 then (lineBytes (takesOf o)).length else last

theorem LInv.next {limit last c : Int} {s s' : St} {o : Opn} {t : ByteArray} (h : LInv limit s last) (ha : OpAft s o c t s') (ho : OkOp o) : LInv limit s' (lastOf c o last) := by
  have hs := ha.st
  subst hs
  have hl := (op_law s o).lim
  have hi := h.inv.next o
  unfold lastOf
  by_cases hc : c = 0 ∧ o.kind = 3
  · rw [if_pos hc]
    have hc0 : opCode s o = 0 := by rw [← ha.code]; exact hc.1
    have := takes_bulk ho
    have h3 := (op_law s o).end3 hc0 hc.2
    have h4 := op_len_le s o hc0
    have h5 := h.inv.len
    rw [h3.1, h.lim] at h5
    simp at h5
    exact ⟨hi, hl.trans h.lim, by omega, by omega, by omega⟩
  · rw [if_neg hc]
    refine ⟨hi, hl.trans h.lim, h.last0, h.last1, ?_⟩
    by_cases h3 : o.kind = 3
    · have hc0 : opCode s o ≠ 0 := by rw [← ha.code]; exact fun e => hc ⟨e, h3⟩
      rw [((op_law s o).no hc0).1]
      exact h.len
    · have h1 := (op_law s o).end_ h3
      have h2 := hi.len
      rw [hl, h1, h.lim] at h2
      by_cases hcl : s.closed = true
      · have : (nextSt s o).fl.length ≤ s.fl.length := by
          by_cases hc0 : opCode s o = 0
          · have h4 := (op_law s o).shut hc0 hcl
            have h5 : takesOf o = [] := by
              unfold takesOf
              rw [if_neg (by omega), if_neg (by omega)]
            have h6 := op_len_le s o hc0
            rw [h5, lineBytes_nil] at h6
            simpa using h6
          · rw [((op_law s o).no hc0).1]
            exact Nat.le_refl _
        have := h.len
        omega
      · rw [if_neg hcl] at h2
        have := h.last0
        omega

theorem bound_out {limit last c : Int} {s s' : St} {o : Opn} {t : ByteArray} (h : LInv limit s last) (ha : OpAft s o c t s') (hc : c = 0) (h2 : o.kind = 2) (hn : 0 < (lineBytes (takesOf o)).length) : (s'.fl.length : Int) ≤ limit := by
  have hs := ha.st
  subst hs
  have := (op_law s o).out2 (by rw [← ha.code]; exact hc) h2 hn
  rw [h.lim] at this
  exact this
theorem bound_full {limit last c : Int} {s s' : St} {o : Opn} {t : ByteArray} (h : LInv limit s last) (ha : OpAft s o c t s') (hc : c = 3) : (s.fl.length : Int) + (lineBytes (takesOf o)).length > limit := by
  have := (op_law s o).full (by rw [← ha.code]; exact hc)
  rw [h.lim] at this
  exact this
theorem bound_spare {limit last c : Int} {s s' : St} {o : Opn} {t : ByteArray} (h : LInv limit s last) (ha : OpAft s o c t s') (hc : c = 140) : (s.fl.length : Int) + (lineBytes (takesOf o)).length > limit + 32768 := by
  have := (op_law s o).spare (by rw [← ha.code]; exact hc)
  rw [h.lim] at this
  exact this
theorem bound_no {c : Int} {s s' : St} {o : Opn} {t : ByteArray} (ha : OpAft s o c t s') (hc : c ≠ 0) : s' = s :=
  ha.st.trans ((op_law s o).no (by rw [← ha.code]; exact hc)).1
set_option maxHeartbeats 2000000 in
set_option maxRecDepth 100000 in
theorem bounds_c (limit : Int) (so : Option Addr) (scap : Nat) (xs : List OpAt) (w : World) (hs : Script w so scap xs) :
    Calls Try.prog 4 #[.int .i64 limit, .slice so xs.length scap] w fun e w' => e = .returned (.bool true) ∧ Below w.heap.size w w' := by
  have HS := Lib.hid hs
  clear hs
  by_cases hl : limit < 0 ∨ 65536 < limit
  · go_enter Try.func4, Try.ntmps4
    go_wp2_with fail
    refine (made_no limit w hl).mono ?_
    rintro e w1 ⟨rfl, hb⟩
    have HB := Lib.hid hb
    clear hb hl
    go_wp2
    go_ret
    exact ⟨rfl, HB.out.alloc HB.out.size _⟩
  · have hlm0 : 0 ≤ limit := by omega
    have hlm1 : limit ≤ 65536 := by omega
    clear hl
    go_enter Try.func4, Try.ntmps4
    go_wp2_with fail
    refine (made_c limit w hlm0 hlm1).mono ?_
    rintro e w1 ⟨b, v, rfl, hb⟩
    obtain ⟨sv, ps, hv, hR, -⟩ := id hb.rr
    obtain ⟨bo, bcap, hsv⟩ := hR.shape
    subst hsv
    subst hv
    have HO := Lib.hid (hb.own.alloc (.cells #[.int .i64 limit, .slice bo ps.length bcap, .bool false] 29))
    have HI := Lib.hid (LInv.new hlm0 hlm1)
    clear hb hR
    go_wp2
    go_loopw [8, 9] (fun lv i wr => ∃ (k : Nat) (s : St) (g : Option Nat) (last : Int), k ≤ xs.length ∧ lv = .int .i64 last ∧ i = .int .i64 k ∧
      Hid (Own w wr b g s) ∧ Hid (LInv limit s last)) (fun _ i _ => xs.length - (intOf i).toNat)
    case atStart => exact ⟨0, ⟨limit, [], false⟩, _, _, Nat.zero_le _, rfl, rfl, HO, HI⟩
    case round =>
      clear HO HI
      obtain ⟨k, s, g, last, hk, rfl, rfl, HO, HI⟩ := hrel
      have hxl := HS.out.len
      by_cases hlt : k < xs.length
      · obtain ⟨gg, off, hso, hnc, hsix⟩ := HS.out.at_ k hlt
        subst hso
        have H6 := Lib.hid hsix
        have HOK := Lib.hid (HS.out.ok xs[k] (List.getElem_mem hlt))
        have HAR := Lib.hid (HS.out.arg xs[k] (List.getElem_mem hlt))
        have hk0 : (0 : Int) ≤ (k : Int) := by omega
        have hk1 : (k : Int) < (xs.length : Int) := by omega
        clear hsix
        obtain ⟨s0, s1, s2, s3, s4, s5, -⟩ := six_keep H6 (Lib.hid HO.out.bel)
        go_wp2_with fail
        refine (size_c b g s _ HO.out.q).mono ?_
        rintro e w2 ⟨rfl, rfl⟩
        go_wp2_with fail
        refine (called_k HO HI.out.inv HOK HAR).mono ?_
        rintro e w2 ⟨c, t, g', s', rfl, HA, HO2⟩
        clear s0 s1 s2 s3 s4 s5
        obtain ⟨s0, s1, s2, s3, s4, s5, -⟩ := six_keep H6 (Lib.hid HO2.out.bel)
        go_wp2_with fail
        refine (takes_k HO2 HAR).mono ?_
        rintro e w3 ⟨lo, lc, ls, rfl, HL, HO3, HLS⟩
        clear s0 s1 s2 s3 s4 s5
        obtain ⟨s0, s1, s2, s3, s4, s5, -⟩ := six_keep H6 (Lib.hid HO3.out.bel)
        have hlb := takes_bulk HOK.out
        rw [← HLS.out] at hlb
        have hcl0 := Nat.le_trans (count_le ls) hlb
        go_wp2
        go_loop [14, 15] (fun n j => ∃ (m : Nat), m ≤ ls.length ∧ n = .int .i64 (lineBytes (ls.take m)).length ∧ j = .int .i64 m) (fun _ j => ls.length - (intOf j).toNat)
        case atStart => exact ⟨0, Nat.zero_le _, by simp [lineBytes_nil], rfl⟩
        case round =>
          obtain ⟨m, hm, rfl, rfl⟩ := hrel
          by_cases hmt : m < ls.length
          · obtain ⟨g5, off5, cap5, hv, hnc5, hc5⟩ := HL.out.at_ (by omega)
            cases hv
            have hck := hc5 m _ (strs_get ls m hmt)
            have hle := line_le2 ls m hmt
            have hls : (lineBytes (ls.take (m + 1))).length = (lineBytes (ls.take m)).length + ls[m].size + 1 := by
              rw [lineBytes_take_succ ls m hmt, List.length_append, List.length_append, bytes_length]; rfl
            have hm0 : (0 : Int) ≤ (m : Int) := by omega
            have hm1 : (m : Int) < (ls.length : Int) := by omega
            clear hc5
            generalize hq : (lineBytes (ls.take m)).length = q at *
            have HLS2 := Lib.hid hls
            clear hls hq
            go_wp2
            go_round
            case rel => exact ⟨m + 1, by omega, by rw [HLS2.out]; go_num, by go_num⟩
            case measure => simp [intOf]; omega
          · have hme : m = ls.length := by omega
            subst hme
            rw [List.take_length]
            have HI2 := Lib.hid (HI.out.next HA.out HOK.out)
            have hlast0 := HI.out.last0
            have hlast1 := HI.out.last1
            have hs0 := HI.out.inv.fits.len
            have hs1 := HI2.out.inv.fits.len
            have hlen2 := HI2.out.len
            have HLS3 := Lib.hid HLS.out.symm
            have hN0 : (lineBytes (takesOf xs[k].o)).length = (lineBytes ls).length := by rw [HLS.out]
            obtain ⟨N, hN⟩ : ∃ N, (lineBytes ls).length = N := ⟨_, rfl⟩
            rw [hN] at hlb hN0 ⊢
            obtain ⟨kd, hkd⟩ : ∃ kd, xs[k].o.kind = kd := ⟨_, rfl⟩
            rw [hkd] at s0
            by_cases hc : c = 0
            · have p0 : (c == 0) = true := by rw [hc]; rfl
              have p3 : (c == 3) = false := by rw [hc]; rfl
              have p140 : (c == 140) = false := by rw [hc]; rfl
              have pn : (c != 0) = false := by rw [hc]; rfl
              by_cases hk3 : kd = 3
              · have q3 : (kd == 3) = true := by rw [hk3]; rfl
                have q2 : (kd == 2) = false := by rw [hk3]; rfl
                have hlo : lastOf c xs[k].o last = (N : Int) := by unfold lastOf; rw [if_pos ⟨hc, hkd.trans hk3⟩, hN0]
                rw [hlo] at HI2 hlen2
                have t1 : decide ((s'.fl.length : Int) > limit + 32768 + (N : Int)) = false := by simp only [decide_eq_false_iff_not]; omega
                clear hc hk3 hlo hN hkd hN0 hcl0
                go_wp2_with fail
                refine (size_c b g' s' _ HO3.out.q).mono ?_
                rintro e w4 ⟨rfl, rfl⟩
                go_wp2
                go_roundw
                case rel => exact ⟨k + 1, s', _, _, by omega, rfl, by go_num, HO3, HI2⟩
                case measure => simp [intOf]; omega
              · have q3 : (kd == 3) = false := by simpa using hk3
                have hlo : lastOf c xs[k].o last = last := by unfold lastOf; rw [if_neg (fun h => hk3 (hkd.symm.trans h.2))]
                rw [hlo] at HI2 hlen2
                have t1 : decide ((s'.fl.length : Int) > limit + 32768 + last) = false := by simp only [decide_eq_false_iff_not]; omega
                by_cases hk2 : kd = 2
                · have q2 : (kd == 2) = true := by rw [hk2]; rfl
                  by_cases hNp : 0 < N
                  · have t2 : decide ((N : Int) > 0) = true := by simp; omega
                    have t2' : decide (0 < N) = true := by simp; omega
                    have hbo := bound_out HI.out HA.out hc (hkd.trans hk2) (by omega)
                    have t3 : decide ((s'.fl.length : Int) > limit) = false := by simp only [decide_eq_false_iff_not]; omega
                    clear hc hk3 hk2 hlo hN hkd hN0 hcl0 hNp hbo
                    go_wp2_with fail
                    refine (size_c b g' s' _ HO3.out.q).mono ?_
                    rintro e w4 ⟨rfl, rfl⟩
                    go_wp2_with fail
                    refine (size_c b g' s' _ HO3.out.q).mono ?_
                    rintro e w4 ⟨rfl, rfl⟩
                    go_wp2
                    go_roundw
                    case rel => exact ⟨k + 1, s', _, _, by omega, rfl, by go_num, HO3, HI2⟩
                    case measure => simp [intOf]; omega
                  · have t2 : decide ((N : Int) > 0) = false := by simp; omega
                    have t2' : decide (0 < N) = false := by simp; omega
                    clear hc hk3 hk2 hlo hN hkd hN0 hcl0 hNp
                    go_wp2_with fail
                    refine (size_c b g' s' _ HO3.out.q).mono ?_
                    rintro e w4 ⟨rfl, rfl⟩
                    go_wp2
                    go_roundw
                    case rel => exact ⟨k + 1, s', _, _, by omega, rfl, by go_num, HO3, HI2⟩
                    case measure => simp [intOf]; omega
                · have q2 : (kd == 2) = false := by simpa using hk2
                  clear hc hk3 hk2 hlo hN hkd hN0 hcl0
                  go_wp2_with fail
                  refine (size_c b g' s' _ HO3.out.q).mono ?_
                  rintro e w4 ⟨rfl, rfl⟩
                  go_wp2
                  go_roundw
                  case rel => exact ⟨k + 1, s', _, _, by omega, rfl, by go_num, HO3, HI2⟩
                  case measure => simp [intOf]; omega
            · have p0 : (c == 0) = false := by simpa using hc
              have pn : (c != 0) = true := by simpa using hc
              have hss := bound_no HA.out hc
              have hlo : lastOf c xs[k].o last = last := by unfold lastOf; rw [if_neg (fun h => hc h.1)]
              rw [hlo] at HI2 hlen2
              have t1 : decide ((s'.fl.length : Int) > limit + 32768 + last) = false := by simp only [decide_eq_false_iff_not]; omega
              have t4 : ((s'.fl.length : Int) != (s.fl.length : Int)) = false := by rw [hss]; simp
              by_cases hc3 : c = 3
              · have p3 : (c == 3) = true := by rw [hc3]; rfl
                have p140 : (c == 140) = false := by rw [hc3]; rfl
                have hbf := bound_full HI.out HA.out hc3
                rw [hN0] at hbf
                have t5 : decide ((s.fl.length : Int) + (N : Int) ≤ limit) = false := by simp only [decide_eq_false_iff_not]; omega
                clear hc hc3 hlo hN hkd hN0 hcl0 hbf hss
                go_wp2_with fail
                refine (size_c b g' s' _ HO3.out.q).mono ?_
                rintro e w4 ⟨rfl, rfl⟩
                go_wp2_with fail
                refine (size_c b g' s' _ HO3.out.q).mono ?_
                rintro e w4 ⟨rfl, rfl⟩
                go_wp2
                go_roundw
                case rel => exact ⟨k + 1, s', _, _, by omega, rfl, by go_num, HO3, HI2⟩
                case measure => simp [intOf]; omega
              · have p3 : (c == 3) = false := by simpa using hc3
                by_cases hc4 : c = 140
                · have p140 : (c == 140) = true := by rw [hc4]; rfl
                  have hbf := bound_spare HI.out HA.out hc4
                  rw [hN0] at hbf
                  have t5 : decide ((s.fl.length : Int) + (N : Int) ≤ limit + 32768) = false := by simp only [decide_eq_false_iff_not]; omega
                  clear hc hc3 hc4 hlo hN hkd hN0 hcl0 hbf hss
                  go_wp2_with fail
                  refine (size_c b g' s' _ HO3.out.q).mono ?_
                  rintro e w4 ⟨rfl, rfl⟩
                  go_wp2_with fail
                  refine (size_c b g' s' _ HO3.out.q).mono ?_
                  rintro e w4 ⟨rfl, rfl⟩
                  go_wp2
                  go_roundw
                  case rel => exact ⟨k + 1, s', _, _, by omega, rfl, by go_num, HO3, HI2⟩
                  case measure => simp [intOf]; omega
                · have p140 : (c == 140) = false := by simpa using hc4
                  clear hc hc3 hc4 hlo hN hkd hN0 hcl0 hss
                  go_wp2_with fail
                  refine (size_c b g' s' _ HO3.out.q).mono ?_
                  rintro e w4 ⟨rfl, rfl⟩
                  go_wp2_with fail
                  refine (size_c b g' s' _ HO3.out.q).mono ?_
                  rintro e w4 ⟨rfl, rfl⟩
                  go_wp2
                  go_roundw
                  case rel => exact ⟨k + 1, s', _, _, by omega, rfl, by go_num, HO3, HI2⟩
                  case measure => simp [intOf]; omega
      · go_wp2
        go_ret
        exact ⟨rfl, HO.out.bel⟩
end Go.Proofs.Ytbfmfliknhcoeaa
