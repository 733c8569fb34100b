/- OptionsKinds, walked: it answers true: at most 600 steps. -/
import Derived.Test.YtlmnhdpahmaccaaDoorLK0
import Derived.Test.YtlmnhdpahmaccaaDoorSB
import Derived.Test.YtlmnhdpahmaccaaDoorRB
import Derived.Deep.RegionHeld3
namespace Go.Proofs.YtlmnhdpahmaccaaDoor
open Go.RowKit QP

set_option maxHeartbeats 16000000 in
set_option maxRecDepth 100000 in
theorem optionsKinds_short (so : Option Addr) (cap : Nat) (ops : List KOp) (last : KOp) (W : World) (hops : ∀ o ∈ ops, OkOp o) (hlast : OkOp last) (hlen : ops.length ≤ 600)
    (hrd : Rd W 7 (.slice so ops.length cap) ops.length (opsCells ops)) (hV : VarsAt W) :
    Calls Tryd.prog 4 #[.slice so ops.length cap, .agg #[.int .i64 last.kind, .int .i64 last.sc, .int .i64 last.a, .int .i64 last.b, .int .i64 last.c, .string last.name, .string last.value]] W fun e w' => e = .returned (.bool true) ∧ Hid (Below W.heap.size W w') := by
  have HV := Lib.hid hV
  have HR := Lib.hid hrd
  have HO := Lib.hid hops
  have HL := Lib.hid hlast
  clear hV hrd hops hlast
  go_enter Tryd.func4, Tryd.ntmps4
  go_wp2_with fail
  refine (new_c _).mono ?_
  rintro e w1 ⟨k, b, rfl, ho1, hk0, hb0, hkb, hb1⟩
  have HK : Hid (KindAt W w1 k b W.heap.size [] last) := Lib.hid (kinds_new ho1 hkb hb0 hb1)
  clear ho1 hk0 hb0 hkb hb1
  go_wp2
  go_loopw [6] (fun i wr => ∃ (j : Nat) (E : List (PK × ByteArray)), j ≤ ops.length ∧ i = .int .i64 j ∧ Hid (KindAt W wr k b W.heap.size E last)) (fun i _ => ops.length - (intOf i).toNat)
  case atStart => exact ⟨0, [], Nat.zero_le _, rfl, HK⟩
  case round =>
    clear HK
    obtain ⟨j, E, hj, rfl, HK⟩ := hrel
    by_cases hlt : j < ops.length
    · have hl1 : j < ops.length := by omega
      have hl2 : j < 600 := by omega
      obtain ⟨g, off, hso, hnc, c0, c1, c2, c3, c4, c5, c6⟩ := ops_at HR.out HK.out.bel j hl1
      have hok := HO.out _ (List.getElem_mem hl1)
      obtain ⟨q, hq⟩ : ∃ q, ops[j] = q := ⟨_, rfl⟩
      rw [hq] at c0 c1 c2 c3 c4 c5 c6 hok
      have HQ := Lib.hid hok
      have z0 : (0 : Int) ≤ (j : Int) := by omega
      have z1 : (j : Int) < (ops.length : Int) := by omega
      have z2 : (j : Int) < 600 := by omega
      have HKA := Lib.hid (HK.out.alloc (.cells #[.int .i64 q.kind, .int .i64 q.sc, .int .i64 q.a, .int .i64 q.b, .int .i64 q.c, .string q.name, .string q.value] 41))
      subst hso
      clear hq hok HK
      by_cases t1 : q.kind = 1
      · have p1 : (q.kind == 1) = true := by simpa using t1
        clear t1
        obtain ⟨cd, hcd⟩ : ∃ cd, setCode E q.sc q.a q.name q.value (tkOf q.name q.value) = cd := ⟨_, rfl⟩
        have hset := HKA.out.set_c HV.out q.sc q.a q.name q.value HQ.out.sc HQ.out.a HQ.out.name HQ.out.value
        rw [hcd] at hset
        clear hcd
        go_wp2_with fail
        refine hset.mono ?_
        rintro e w2 ⟨rfl, HK2⟩
        go_wp2
        go_roundw
        case rel => exact ⟨j + 1, _, by omega, by go_num, HK2⟩
        case measure => simp [intOf]; omega
      have p1 : (q.kind == 1) = false := by simpa using t1
      clear t1
      by_cases t2 : q.kind = 2
      · have p2 : (q.kind == 2) = true := by simpa using t2
        clear t2
        go_wp2_with fail
        refine (HKA.out.add_c HV.out q.sc q.a q.name q.value HQ.out.sc HQ.out.a HQ.out.name HQ.out.value).mono ?_
        rintro e w2 ⟨⟨cc, rfl⟩, E', HK2⟩
        go_wp2
        go_roundw
        case rel => exact ⟨j + 1, _, by omega, by go_num, HK2⟩
        case measure => simp [intOf]; omega
      have p2 : (q.kind == 2) = false := by simpa using t2
      clear t2
      by_cases t3 : q.kind = 3
      · have p3 : (q.kind == 3) = true := by simpa using t3
        clear t3
        go_wp2_with fail
        refine (HKA.out.turn_c HV.out q.sc q.a q.name HQ.out.sc HQ.out.a HQ.out.name).mono ?_
        rintro e w2 ⟨⟨cc, rfl⟩, E', HK2⟩
        go_wp2
        go_roundw
        case rel => exact ⟨j + 1, _, by omega, by go_num, HK2⟩
        case measure => simp [intOf]; omega
      have p3 : (q.kind == 3) = false := by simpa using t3
      clear t3
      by_cases t4 : q.kind = 4
      · have p4 : (q.kind == 4) = true := by simpa using t4
        clear t4
        go_wp2_with fail
        refine (HKA.out.unset_c q.sc q.a q.name HQ.out.sc HQ.out.a HQ.out.name).mono ?_
        rintro e w2 ⟨⟨cc, rfl⟩, E', HK2⟩
        go_wp2
        go_roundw
        case rel => exact ⟨j + 1, _, by omega, by go_num, HK2⟩
        case measure => simp [intOf]; omega
      have p4 : (q.kind == 4) = false := by simpa using t4
      clear t4
      by_cases t7 : q.kind = 7
      · have p7 : (q.kind == 7) = true := by simpa using t7
        clear t7
        go_wp2_with fail
        refine (HKA.out.drop_c q.sc q.a).mono ?_
        rintro e w2 ⟨rfl, HK2⟩
        go_wp2
        go_roundw
        case rel => exact ⟨j + 1, _, by omega, by go_num, HK2⟩
        case measure => simp [intOf]; omega
      have p7 : (q.kind == 7) = false := by simpa using t7
      clear t7
      go_wp2
      go_roundw
      case rel => exact ⟨j + 1, _, by omega, by go_num, HKA⟩
      case measure => simp [intOf]; omega
    · have HK0 := HK
      have z1 : ¬ ((j : Int) < (ops.length : Int)) := by omega
      clear HK hlt
      go_wp2_with fail
      refine (rrows_c _).mono ?_
      rintro e w2 ⟨g, rfl, hr, hw, hb⟩
      have HK := Lib.hid (HK0.out.below hb)
      have HT : Hid (KR W w2 k b W.heap.size E last g wr.heap.size) := Lib.hid ⟨HK.out, hr, hw⟩
      clear hr hw hb HK0 HK
      obtain ⟨bb, hbb⟩ : ∃ bb, wr.heap.size = bb := ⟨_, rfl⟩
      rw [hbb] at HT
      clear hbb
      go_wp2
      go_loopw [9] (fun i wr => ∃ (i' : Nat), i' ≤ 22 ∧ i = .int .i64 i' ∧ Hid (KR W wr k b W.heap.size E last g bb)) (fun i _ => 22 - (intOf i).toNat)
      case atStart => exact ⟨0, Nat.zero_le _, rfl, HT⟩
      case round =>
        clear HT
        obtain ⟨i, hi, rfl, HT⟩ := hrel
        by_cases hi22 : i < 22
        · have hik : i < table.length := hi22
          have hrm := List.getElem_mem hik
          have hgood := HT.out.k.good.get i hi22 last.a last.b last.c
          have hdrew : Hid (KR W wr.drew k b W.heap.size E last g bb) := Lib.hid (HT.out.below (Below.refl _ _).drew)
          have hget := hdrew.out.get_c i hi22 last.a last.b last.c HL.out.a HL.out.b HL.out.c (name_size i hi22)
          obtain ⟨r, hre⟩ : ∃ r, table[i]'hi22 = r := ⟨_, rfl⟩
          have hrm' : r ∈ table := by rw [← hre]; exact hrm
          have HRM := Lib.hid hrm'
          have HRE := Lib.hid hre
          rw [hre] at hgood hget
          obtain ⟨gv, hgv⟩ : ∃ gv, (getVal (look E) r.name last.a last.b last.c).1 = gv := ⟨_, rfl⟩
          rw [hgv] at hgood hget
          have HG := Lib.hid hgood
          have z0 : (0 : Int) ≤ (i : Int) := by omega
          have z1' : (i : Int) < 22 := by omega
          have hkp := keeps_of hdrew hi22 HRE
          clear hik hrm hgood hre hrm' hgv
          go_wp2_with fail
          first | (go_region_held3 (fun w' => w'.cell? ⟨g, i * 7, none⟩ = some (.string r.name) ∧ w'.cell? ⟨W.heap.size, 2, none⟩ = some (.int .i64 last.a) ∧ w'.cell? ⟨W.heap.size, 3, none⟩ = some (.int .i64 last.b) ∧ w'.cell? ⟨W.heap.size, 4, none⟩ = some (.int .i64 last.c) ∧ Hid (KR W w' k b W.heap.size E last g bb)) (first | exact keeps_of hdrew hi22 HRE | exact keeps_of HT3 hi22 HRE) (first | (go_at_call 9; with_reducible refine hget.mono ?_; rintro e w3 ⟨rfl, HT3⟩))) | fail
          rename_i hh
          obtain ⟨-, -, -, -, HT3⟩ := hh
          clear hkp hget hdrew HT
          obtain ⟨r0, r1, r2, r3, r4, r5, r6⟩ := rrow_at HT3.out.r.tab (i := i) hi22
          have hval := rvalue_c r HRM.out gv (by have := HG.out.2.2; omega) bb _ HT3.out.r.wds
          rw [HRE.out] at r0 r1 r2 r3 r4 r5 r6
          rw [HG.out.2.1] at hval
          obtain ⟨wa, hwa⟩ : ∃ wa, waOf bb r.words = wa := ⟨_, rfl⟩
          obtain ⟨wn, hwn⟩ : ∃ wn, wnOf r.words = wn := ⟨_, rfl⟩
          obtain ⟨kc, hkc⟩ : ∃ kc, rkind r.kind = kc := ⟨_, rfl⟩
          rw [hwa, hwn] at r5
          rw [hkc] at r2
          rw [hwa, hwn, hkc] at hval
          clear hwa hwn hkc
          go_wp2_with (first | (go_at_call 21; refine hval.mono ?_; rintro e w4 ⟨rfl, HB4⟩) | go_in)
          have HT4 := Lib.hid (HT3.out.below HB4.out)
          go_roundw
          case rel => exact ⟨i + 1, by omega, by go_num, HT4⟩
          case measure => simp [intOf]; omega
        · have hie : i = 22 := by omega
          have HK := Lib.hid HT.out.k
          subst hie
          clear HT
          obtain ⟨cd, hcd⟩ : ∃ cd, setCode E last.sc last.a last.name last.value (tkOf last.name last.value) = cd := ⟨_, rfl⟩
          obtain ⟨E1, hE1⟩ : ∃ E1, setE E last.sc last.a last.name last.value (tkOf last.name last.value) = E1 := ⟨_, rfl⟩
          have hset := HK.out.set_c HV.out last.sc last.a last.name last.value HL.out.sc HL.out.a HL.out.name HL.out.value
          rw [hcd, hE1] at hset
          have HCD := Lib.hid hcd
          have HE1 := Lib.hid hE1
          clear hcd hE1
          obtain ⟨c0, c1, c2, c3, c4, c5, c6⟩ := seven_cells HK.out.box
          by_cases h0 : cd = 0
          · subst h0
            have hok := set_ok HCD.out
            have HM := Lib.hid hok.1
            have hep : E1 = put E (last.sc, last.a, last.name) last.value := by rw [← HE1.out]; unfold setE; rw [if_pos HCD.out]
            have HEP := Lib.hid hep
            clear hok hep HCD HE1
            by_cases s2 : last.sc = 2
            · have p2 : (last.sc == 2) = true := by simpa using s2
              have h1 : lastE E1 last.sc = E1 := by unfold lastE; rw [if_neg (by omega)]
              have h2 : sesOf last.sc last.a = last.a := by unfold sesOf; rw [if_pos s2]
              have h3 : winOf last.sc last.a = 0 := by unfold winOf; rw [if_neg (by omega)]
              have h4 : panOf last.sc last.a = 0 := by unfold panOf; rw [if_neg (by omega), if_neg (by omega)]
              have HLG : Hid (∀ hn : last.a ≠ 0 ∨ (ofRow last.name).scope = last.sc, (getVal (look E1) last.name last.a 0 0).1 = last.value) := Lib.hid (fun hn => by
                have := last_get (E := E) (v := last.value) HM.out hn
                rw [← HEP.out, h1, h2, h3, h4] at this
                exact this)
              have hcode := last_code (E := E1) HM.out last.a 0 0
              obtain ⟨gv, hgv⟩ : ∃ gv, (getVal (look E1) last.name last.a 0 0).1 = gv := ⟨_, rfl⟩
              have HGV := Lib.hid hgv
              have HCO := Lib.hid hcode
              clear h1 h2 h3 h4 hgv hcode
              have hsame : (ofRow last.name).scope = last.sc := (may_same HM.out (by omega))
              by_cases ha : last.a = 0
              · have qa : (last.a != 0) = false := by simpa using ha
                have qa2 : (last.a == 0) = true := by simpa using ha
                obtain ⟨scp, hscp⟩ : ∃ scp, (ofRow last.name).scope = scp := ⟨_, rfl⟩
                have hsc : scp = last.sc := hscp.symm.trans hsame
                have qs : (scp == last.sc) = true := by simpa using hsc
                have hv : gv = last.value := by rw [← HGV.out]; exact HLG.out (.inr hsame)
                have hvv : (gv.toList == last.value.toList) = true := by rw [hv]; exact beq_self_eq_true _
                clear hv hsc ha HLG hsame s2
                go_wp2_with (first | (go_at_call 15; refine hset.mono ?_; rintro e w5 ⟨rfl, HK5⟩; obtain ⟨c0, c1, c2, c3, c4, c5, c6⟩ := seven_cells HK5.out.box) | (go_at_call 9; refine (HK5.out.get_c last.name last.a 0 0 HL.out.a i64_0 i64_0 HL.out.name).mono ?_; rw [HGV.out, HCO.out]; rintro e w7 ⟨rfl, HK7⟩) | go_in)
                have HKD := Lib.hid (HK7.out.below (Below.refl _ _).drew)
                have hkp := keeps2_of HKD
                have hscope := scope_at HKD scp hscp
                first | (go_region_held3 (fun w' => w'.cell? ⟨W.heap.size, 1, none⟩ = some (.int .i64 last.sc) ∧ w'.cell? ⟨W.heap.size, 2, none⟩ = some (.int .i64 last.a) ∧ w'.cell? ⟨W.heap.size, 5, none⟩ = some (.string last.name) ∧ Hid (KindAt W w' k b W.heap.size E1 last)) (first | exact keeps2_of HKD | exact keeps2_of HK8) (first | (go_at_call 12; with_reducible refine hscope.mono ?_; rintro e w8 ⟨rfl, HK8⟩))) | fail
                rename_i hh
                obtain ⟨-, -, -, HK8⟩ := hh
                clear hkp HKD HK7
                obtain ⟨c0, c1, c2, c3, c4, c5, c6⟩ := seven_cells HK8.out.box
                go_wp2_with (first | (go_at_call 14; refine (sure_c _ (HV.out.below HK8.out.bel).sh).mono ?_; rintro e w9 ⟨rfl, HB9⟩) | go_in)
                go_ret
                exact ⟨rfl, Lib.hid (below_of HK8.out.bel HB9.out)⟩
              · have qa : (last.a != 0) = true := by simpa using ha
                have hv : gv = last.value := by rw [← HGV.out]; exact HLG.out (.inl ha)
                have hvv : (gv.toList == last.value.toList) = true := by rw [hv]; exact beq_self_eq_true _
                clear hv ha HLG hsame s2
                go_wp2_with (first | (go_at_call 15; refine hset.mono ?_; rintro e w5 ⟨rfl, HK5⟩; obtain ⟨c0, c1, c2, c3, c4, c5, c6⟩ := seven_cells HK5.out.box) | (go_at_call 9; refine (HK5.out.get_c last.name last.a 0 0 HL.out.a i64_0 i64_0 HL.out.name).mono ?_; rw [HGV.out, HCO.out]; rintro e w7 ⟨rfl, HK7⟩) | go_in)
                have HKD := Lib.hid (HK7.out.below (Below.refl _ _).drew)
                have hkp := keeps2_of HKD
                obtain ⟨c0, c1, c2, c3, c4, c5, c6⟩ := seven_cells HKD.out.box
                go_region
                all_goals
                  go_wp2_with (first | (go_at_call 14; refine (sure_c _ (HV.out.below HKD.out.bel).sh).mono ?_; rintro e w9 ⟨rfl, HB9⟩) | go_in)
                  go_ret
                  exact ⟨rfl, Lib.hid (below_of HKD.out.bel HB9.out)⟩
            have p2 : (last.sc == 2) = false := by simpa using s2
            by_cases s3 : last.sc = 3
            · have p3 : (last.sc == 3) = true := by simpa using s3
              have h1 : lastE E1 last.sc = (dropE E1 4 1099511627776) := by unfold lastE; rw [if_pos s3]
              have h2 : sesOf last.sc last.a = 0 := by unfold sesOf; rw [if_neg (by omega)]
              have h3 : winOf last.sc last.a = last.a := by unfold winOf; rw [if_pos s3]
              have h4 : panOf last.sc last.a = 1099511627776 := by unfold panOf; rw [if_pos s3]
              have HLG : Hid (∀ hn : last.a ≠ 0 ∨ (ofRow last.name).scope = last.sc, (getVal (look (dropE E1 4 1099511627776)) last.name 0 last.a 1099511627776).1 = last.value) := Lib.hid (fun hn => by
                have := last_get (E := E) (v := last.value) HM.out hn
                rw [← HEP.out, h1, h2, h3, h4] at this
                exact this)
              have hcode := last_code (E := (dropE E1 4 1099511627776)) HM.out 0 last.a 1099511627776
              obtain ⟨gv, hgv⟩ : ∃ gv, (getVal (look (dropE E1 4 1099511627776)) last.name 0 last.a 1099511627776).1 = gv := ⟨_, rfl⟩
              have HGV := Lib.hid hgv
              have HCO := Lib.hid hcode
              clear h1 h2 h3 h4 hgv hcode
              by_cases ha : last.a = 0
              · have qa : (last.a != 0) = false := by simpa using ha
                have qa2 : (last.a == 0) = true := by simpa using ha
                obtain ⟨scp, hscp⟩ : ∃ scp, (ofRow last.name).scope = scp := ⟨_, rfl⟩
                by_cases hsc : scp = last.sc
                · have qs : (scp == last.sc) = true := by simpa using hsc
                  have hv : gv = last.value := by rw [← HGV.out]; exact HLG.out (.inr (hscp.trans hsc))
                  have hvv : (gv.toList == last.value.toList) = true := by rw [hv]; exact beq_self_eq_true _
                  clear hv hsc ha HLG s2 s3
                  go_wp2_with (first | (go_at_call 15; refine hset.mono ?_; rintro e w5 ⟨rfl, HK5⟩; obtain ⟨c0, c1, c2, c3, c4, c5, c6⟩ := seven_cells HK5.out.box) | (go_at_call 19; refine (HK5.out.drop_c 4 1099511627776).mono ?_; rintro e w6 ⟨rfl, HK6⟩; obtain ⟨c0, c1, c2, c3, c4, c5, c6⟩ := seven_cells HK6.out.box) | (go_at_call 9; refine (HK6.out.get_c last.name 0 last.a 1099511627776 i64_0 HL.out.a i64_pane HL.out.name).mono ?_; rw [HGV.out, HCO.out]; rintro e w7 ⟨rfl, HK7⟩) | go_in)
                  have HKD := Lib.hid (HK7.out.below (Below.refl _ _).drew)
                  have hkp := keeps2_of HKD
                  have hscope := scope_at HKD scp hscp
                  first | (go_region_held3 (fun w' => w'.cell? ⟨W.heap.size, 1, none⟩ = some (.int .i64 last.sc) ∧ w'.cell? ⟨W.heap.size, 2, none⟩ = some (.int .i64 last.a) ∧ w'.cell? ⟨W.heap.size, 5, none⟩ = some (.string last.name) ∧ Hid (KindAt W w' k b W.heap.size (dropE E1 4 1099511627776) last)) (first | exact keeps2_of HKD | exact keeps2_of HK8) (first | (go_at_call 12; with_reducible refine hscope.mono ?_; rintro e w8 ⟨rfl, HK8⟩))) | fail
                  rename_i hh
                  obtain ⟨-, -, -, HK8⟩ := hh
                  clear hkp HKD HK7
                  obtain ⟨c0, c1, c2, c3, c4, c5, c6⟩ := seven_cells HK8.out.box
                  go_wp2_with (first | (go_at_call 14; refine (sure_c _ (HV.out.below HK8.out.bel).sh).mono ?_; rintro e w9 ⟨rfl, HB9⟩) | go_in)
                  go_ret
                  exact ⟨rfl, Lib.hid (below_of HK8.out.bel HB9.out)⟩
                · have qs : (scp == last.sc) = false := by simpa using hsc
                  clear hsc ha HLG s2 s3
                  go_wp2_with (first | (go_at_call 15; refine hset.mono ?_; rintro e w5 ⟨rfl, HK5⟩; obtain ⟨c0, c1, c2, c3, c4, c5, c6⟩ := seven_cells HK5.out.box) | (go_at_call 19; refine (HK5.out.drop_c 4 1099511627776).mono ?_; rintro e w6 ⟨rfl, HK6⟩; obtain ⟨c0, c1, c2, c3, c4, c5, c6⟩ := seven_cells HK6.out.box) | (go_at_call 9; refine (HK6.out.get_c last.name 0 last.a 1099511627776 i64_0 HL.out.a i64_pane HL.out.name).mono ?_; rw [HGV.out, HCO.out]; rintro e w7 ⟨rfl, HK7⟩) | go_in)
                  have HKD := Lib.hid (HK7.out.below (Below.refl _ _).drew)
                  have hkp := keeps2_of HKD
                  have hscope := scope_at HKD scp hscp
                  first | (go_region_held3 (fun w' => w'.cell? ⟨W.heap.size, 1, none⟩ = some (.int .i64 last.sc) ∧ w'.cell? ⟨W.heap.size, 2, none⟩ = some (.int .i64 last.a) ∧ w'.cell? ⟨W.heap.size, 5, none⟩ = some (.string last.name) ∧ Hid (KindAt W w' k b W.heap.size (dropE E1 4 1099511627776) last)) (first | exact keeps2_of HKD | exact keeps2_of HK8) (first | (go_at_call 12; with_reducible refine hscope.mono ?_; rintro e w8 ⟨rfl, HK8⟩))) | fail
                  rename_i hh
                  obtain ⟨-, -, -, HK8⟩ := hh
                  clear hkp HKD HK7
                  obtain ⟨c0, c1, c2, c3, c4, c5, c6⟩ := seven_cells HK8.out.box
                  go_wp2_with (first | (go_at_call 14; refine (sure_c _ (HV.out.below HK8.out.bel).sh).mono ?_; rintro e w9 ⟨rfl, HB9⟩) | go_in)
                  go_ret
                  exact ⟨rfl, Lib.hid (below_of HK8.out.bel HB9.out)⟩
              · have qa : (last.a != 0) = true := by simpa using ha
                have hv : gv = last.value := by rw [← HGV.out]; exact HLG.out (.inl ha)
                have hvv : (gv.toList == last.value.toList) = true := by rw [hv]; exact beq_self_eq_true _
                clear hv ha HLG s2 s3
                go_wp2_with (first | (go_at_call 15; refine hset.mono ?_; rintro e w5 ⟨rfl, HK5⟩; obtain ⟨c0, c1, c2, c3, c4, c5, c6⟩ := seven_cells HK5.out.box) | (go_at_call 19; refine (HK5.out.drop_c 4 1099511627776).mono ?_; rintro e w6 ⟨rfl, HK6⟩; obtain ⟨c0, c1, c2, c3, c4, c5, c6⟩ := seven_cells HK6.out.box) | (go_at_call 9; refine (HK6.out.get_c last.name 0 last.a 1099511627776 i64_0 HL.out.a i64_pane HL.out.name).mono ?_; rw [HGV.out, HCO.out]; rintro e w7 ⟨rfl, HK7⟩) | go_in)
                have HKD := Lib.hid (HK7.out.below (Below.refl _ _).drew)
                have hkp := keeps2_of HKD
                obtain ⟨c0, c1, c2, c3, c4, c5, c6⟩ := seven_cells HKD.out.box
                go_region
                all_goals
                  go_wp2_with (first | (go_at_call 14; refine (sure_c _ (HV.out.below HKD.out.bel).sh).mono ?_; rintro e w9 ⟨rfl, HB9⟩) | go_in)
                  go_ret
                  exact ⟨rfl, Lib.hid (below_of HKD.out.bel HB9.out)⟩
            have p3 : (last.sc == 3) = false := by simpa using s3
            by_cases s4 : last.sc = 4
            · have p4 : (last.sc == 4) = true := by simpa using s4
              have h1 : lastE E1 last.sc = E1 := by unfold lastE; rw [if_neg (by omega)]
              have h2 : sesOf last.sc last.a = 0 := by unfold sesOf; rw [if_neg (by omega)]
              have h3 : winOf last.sc last.a = 0 := by unfold winOf; rw [if_neg (by omega)]
              have h4 : panOf last.sc last.a = last.a := by unfold panOf; rw [if_neg (by omega), if_pos s4]
              have HLG : Hid (∀ hn : last.a ≠ 0 ∨ (ofRow last.name).scope = last.sc, (getVal (look E1) last.name 0 0 last.a).1 = last.value) := Lib.hid (fun hn => by
                have := last_get (E := E) (v := last.value) HM.out hn
                rw [← HEP.out, h1, h2, h3, h4] at this
                exact this)
              have hcode := last_code (E := E1) HM.out 0 0 last.a
              obtain ⟨gv, hgv⟩ : ∃ gv, (getVal (look E1) last.name 0 0 last.a).1 = gv := ⟨_, rfl⟩
              have HGV := Lib.hid hgv
              have HCO := Lib.hid hcode
              clear h1 h2 h3 h4 hgv hcode
              have hsame : (ofRow last.name).scope = last.sc := (may_same HM.out (by omega))
              by_cases ha : last.a = 0
              · have qa : (last.a != 0) = false := by simpa using ha
                have qa2 : (last.a == 0) = true := by simpa using ha
                obtain ⟨scp, hscp⟩ : ∃ scp, (ofRow last.name).scope = scp := ⟨_, rfl⟩
                have hsc : scp = last.sc := hscp.symm.trans hsame
                have qs : (scp == last.sc) = true := by simpa using hsc
                have hv : gv = last.value := by rw [← HGV.out]; exact HLG.out (.inr hsame)
                have hvv : (gv.toList == last.value.toList) = true := by rw [hv]; exact beq_self_eq_true _
                clear hv hsc ha HLG hsame s2 s3 s4
                go_wp2_with (first | (go_at_call 15; refine hset.mono ?_; rintro e w5 ⟨rfl, HK5⟩; obtain ⟨c0, c1, c2, c3, c4, c5, c6⟩ := seven_cells HK5.out.box) | (go_at_call 9; refine (HK5.out.get_c last.name 0 0 last.a i64_0 i64_0 HL.out.a HL.out.name).mono ?_; rw [HGV.out, HCO.out]; rintro e w7 ⟨rfl, HK7⟩) | go_in)
                have HKD := Lib.hid (HK7.out.below (Below.refl _ _).drew)
                have hkp := keeps2_of HKD
                have hscope := scope_at HKD scp hscp
                first | (go_region_held3 (fun w' => w'.cell? ⟨W.heap.size, 1, none⟩ = some (.int .i64 last.sc) ∧ w'.cell? ⟨W.heap.size, 2, none⟩ = some (.int .i64 last.a) ∧ w'.cell? ⟨W.heap.size, 5, none⟩ = some (.string last.name) ∧ Hid (KindAt W w' k b W.heap.size E1 last)) (first | exact keeps2_of HKD | exact keeps2_of HK8) (first | (go_at_call 12; with_reducible refine hscope.mono ?_; rintro e w8 ⟨rfl, HK8⟩))) | fail
                rename_i hh
                obtain ⟨-, -, -, HK8⟩ := hh
                clear hkp HKD HK7
                obtain ⟨c0, c1, c2, c3, c4, c5, c6⟩ := seven_cells HK8.out.box
                go_wp2_with (first | (go_at_call 14; refine (sure_c _ (HV.out.below HK8.out.bel).sh).mono ?_; rintro e w9 ⟨rfl, HB9⟩) | go_in)
                go_ret
                exact ⟨rfl, Lib.hid (below_of HK8.out.bel HB9.out)⟩
              · have qa : (last.a != 0) = true := by simpa using ha
                have hv : gv = last.value := by rw [← HGV.out]; exact HLG.out (.inl ha)
                have hvv : (gv.toList == last.value.toList) = true := by rw [hv]; exact beq_self_eq_true _
                clear hv ha HLG hsame s2 s3 s4
                go_wp2_with (first | (go_at_call 15; refine hset.mono ?_; rintro e w5 ⟨rfl, HK5⟩; obtain ⟨c0, c1, c2, c3, c4, c5, c6⟩ := seven_cells HK5.out.box) | (go_at_call 9; refine (HK5.out.get_c last.name 0 0 last.a i64_0 i64_0 HL.out.a HL.out.name).mono ?_; rw [HGV.out, HCO.out]; rintro e w7 ⟨rfl, HK7⟩) | go_in)
                have HKD := Lib.hid (HK7.out.below (Below.refl _ _).drew)
                have hkp := keeps2_of HKD
                obtain ⟨c0, c1, c2, c3, c4, c5, c6⟩ := seven_cells HKD.out.box
                go_region
                all_goals
                  go_wp2_with (first | (go_at_call 14; refine (sure_c _ (HV.out.below HKD.out.bel).sh).mono ?_; rintro e w9 ⟨rfl, HB9⟩) | go_in)
                  go_ret
                  exact ⟨rfl, Lib.hid (below_of HKD.out.bel HB9.out)⟩
            have p4 : (last.sc == 4) = false := by simpa using s4
            have h1 : lastE E1 last.sc = E1 := by unfold lastE; rw [if_neg (by omega)]
            have h2 : sesOf last.sc last.a = 0 := by unfold sesOf; rw [if_neg (by omega)]
            have h3 : winOf last.sc last.a = 0 := by unfold winOf; rw [if_neg (by omega)]
            have h4 : panOf last.sc last.a = 0 := by unfold panOf; rw [if_neg (by omega), if_neg (by omega)]
            have HLG : Hid (∀ hn : last.a ≠ 0 ∨ (ofRow last.name).scope = last.sc, (getVal (look E1) last.name 0 0 0).1 = last.value) := Lib.hid (fun hn => by
              have := last_get (E := E) (v := last.value) HM.out hn
              rw [← HEP.out, h1, h2, h3, h4] at this
              exact this)
            have hcode := last_code (E := E1) HM.out 0 0 0
            obtain ⟨gv, hgv⟩ : ∃ gv, (getVal (look E1) last.name 0 0 0).1 = gv := ⟨_, rfl⟩
            have HGV := Lib.hid hgv
            have HCO := Lib.hid hcode
            clear h1 h2 h3 h4 hgv hcode
            have hsame : (ofRow last.name).scope = last.sc := (may_same HM.out (by omega))
            have ha : last.a = 0 := may_zero HM.out (by omega)
            have qa : (last.a != 0) = false := by simpa using ha
            have qa2 : (last.a == 0) = true := by simpa using ha
            obtain ⟨scp, hscp⟩ : ∃ scp, (ofRow last.name).scope = scp := ⟨_, rfl⟩
            have hsc : scp = last.sc := hscp.symm.trans hsame
            have qs : (scp == last.sc) = true := by simpa using hsc
            have hv : gv = last.value := by rw [← HGV.out]; exact HLG.out (.inr hsame)
            have hvv : (gv.toList == last.value.toList) = true := by rw [hv]; exact beq_self_eq_true _
            clear hv hsc ha HLG hsame s2 s3 s4
            go_wp2_with (first | (go_at_call 15; refine hset.mono ?_; rintro e w5 ⟨rfl, HK5⟩; obtain ⟨c0, c1, c2, c3, c4, c5, c6⟩ := seven_cells HK5.out.box) | (go_at_call 9; refine (HK5.out.get_c last.name 0 0 0 i64_0 i64_0 i64_0 HL.out.name).mono ?_; rw [HGV.out, HCO.out]; rintro e w7 ⟨rfl, HK7⟩) | go_in)
            have HKD := Lib.hid (HK7.out.below (Below.refl _ _).drew)
            have hkp := keeps2_of HKD
            have hscope := scope_at HKD scp hscp
            first | (go_region_held3 (fun w' => w'.cell? ⟨W.heap.size, 1, none⟩ = some (.int .i64 last.sc) ∧ w'.cell? ⟨W.heap.size, 2, none⟩ = some (.int .i64 last.a) ∧ w'.cell? ⟨W.heap.size, 5, none⟩ = some (.string last.name) ∧ Hid (KindAt W w' k b W.heap.size E1 last)) (first | exact keeps2_of HKD | exact keeps2_of HK8) (first | (go_at_call 12; with_reducible refine hscope.mono ?_; rintro e w8 ⟨rfl, HK8⟩))) | fail
            rename_i hh
            obtain ⟨-, -, -, HK8⟩ := hh
            clear hkp HKD HK7
            obtain ⟨c0, c1, c2, c3, c4, c5, c6⟩ := seven_cells HK8.out.box
            go_wp2_with (first | (go_at_call 14; refine (sure_c _ (HV.out.below HK8.out.bel).sh).mono ?_; rintro e w9 ⟨rfl, HB9⟩) | go_in)
            go_ret
            exact ⟨rfl, Lib.hid (below_of HK8.out.bel HB9.out)⟩
          · have q : (cd != 0) = true := by simpa using h0
            clear h0 HCD HE1
            go_wp2_with (first | (go_at_call 15; refine hset.mono ?_; rintro e w5 ⟨rfl, HK5⟩) | (go_at_call 14; refine (sure_c _ (HV.out.below HK5.out.bel).sh).mono ?_; rintro e w6 ⟨rfl, HB6⟩) | go_in)
            go_ret
            exact ⟨rfl, Lib.hid (below_of HK5.out.bel HB6.out)⟩

end Go.Proofs.YtlmnhdpahmaccaaDoor
