/- The document's queue: PutAll, Out. -/
import Derived.Test.YtbfmfliknhcoeaaK
namespace Go.Proofs.Ytbfmfliknhcoeaa
open Go.RowKit QP

section
variable (s : St) (pane tick : Int) (ls : List ByteArray)
theorem put_bad (hg : ls.all goodLine = false) : putCode s ls = 1 ∧ putSt s ls = s := by simp [putCode, layCode, putSt, laySt, hg]
theorem put_closed (hg : ls.all goodLine = true) (hc : s.closed = true) : putCode s ls = 141 ∧ putSt s ls = s := by simp only [putCode, layCode, putSt, laySt, hg, hc]; simp
theorem put_big (hg : ls.all goodLine = true) (hc : s.closed = false) (hne : ls ≠ []) (hb : s.limit + 32768 < (s.fl.length : Int) + ((lineBytes ls).length : Int)) : putCode s ls = 140 ∧ putSt s ls = s := by simp only [putCode, layCode, putSt, laySt, hg, hc]; simp [hne, hb]
theorem put_ok (hg : ls.all goodLine = true) (hc : s.closed = false) (h : ls = [] ∨ ¬ s.limit + 32768 < (s.fl.length : Int) + ((lineBytes ls).length : Int)) : putCode s ls = 0 ∧ putSt s ls = { s with fl := s.fl ++ tag 0 0 (lineBytes ls) } := by
  by_cases hne : ls = []
  · subst hne; obtain ⟨l, f, c⟩ := s; simp only at hc h; subst hc; simp [putCode, layCode, putSt, laySt, lineBytes_nil, tag]
  · obtain ⟨l, f, c⟩ := s; simp only at hc h; subst hc; simp [putCode, layCode, putSt, laySt, hg, hne, h.resolve_left hne]
theorem out_no (h : pane < 1 ∨ pane > 4611686018427387904 ∨ tick < 0) : outCode s pane tick ls = 1 ∧ outSt s pane tick ls = s := by rw [outCode, outSt, if_pos h, if_pos h]; exact ⟨rfl, rfl⟩
theorem out_bad (hg : ls.all goodLine = false) : outCode s pane tick ls = 1 ∧ outSt s pane tick ls = s := by simp [outCode, layCode, outSt, laySt, hg]
theorem out_closed (hno : ¬ (pane < 1 ∨ pane > 4611686018427387904 ∨ tick < 0)) (hg : ls.all goodLine = true) (hc : s.closed = true) : outCode s pane tick ls = 141 ∧ outSt s pane tick ls = s := by rw [outCode, outSt, if_neg hno, if_neg hno]; simp only [layCode, laySt, hg, hc]; simp
theorem out_big (hno : ¬ (pane < 1 ∨ pane > 4611686018427387904 ∨ tick < 0)) (hg : ls.all goodLine = true) (hc : s.closed = false) (hne : ls ≠ []) (hb : s.limit < (s.fl.length : Int) + ((lineBytes ls).length : Int)) : outCode s pane tick ls = 3 ∧ outSt s pane tick ls = s := by
  rw [outCode, outSt, if_neg hno, if_neg hno]; simp only [layCode, laySt, hg, hc]; simp [hne, hb]
theorem out_ok (hno : ¬ (pane < 1 ∨ pane > 4611686018427387904 ∨ tick < 0)) (hg : ls.all goodLine = true) (hc : s.closed = false) (h : ls = [] ∨ ¬ s.limit < (s.fl.length : Int) + ((lineBytes ls).length : Int)) : outCode s pane tick ls = 0 ∧ outSt s pane tick ls = { s with fl := s.fl ++ tag pane tick (lineBytes ls) } := by
  rw [outCode, outSt, if_neg hno, if_neg hno]
  by_cases hne : ls = []
  · subst hne; obtain ⟨l, f, c⟩ := s; simp only at hc h; subst hc; simp [layCode, laySt, lineBytes_nil, tag]
  · obtain ⟨l, f, c⟩ := s; simp only at hc h; subst hc; simp [layCode, laySt, hg, hne, h.resolve_left hne]
end

set_option maxHeartbeats 4000000 in
set_option maxRecDepth 100000 in
theorem rputAll_c (r : Option Nat) (v : Value) (s : St) (ls : List ByteArray) (ao : Option Addr) (cap : Nat) (w : World) (h : RSt w r v s) (hs : Fits s) (hr : Rd w 1 (.slice ao ls.length cap) ls.length (strs ls))
    (hn : ls.length ≤ 4000000) (hb : (lineBytes ls).length ≤ 4000000) :
    Calls Try.prog 29 #[v, .slice ao ls.length cap] w fun e w' =>
      ∃ v' r', e = .returned (.tuple #[v', .int .i64 (putCode s ls)]) ∧ RSt w' r' v' (putSt s ls) ∧ NewR w r r' ∧ Below w.heap.size w w' := by
  obtain ⟨sv, ps, hv, hR, -⟩ := id h
  obtain ⟨bo, bcap, hsv⟩ := hR.shape
  subst hsv
  subst hv
  have HQ := Lib.hid h
  have HL := Lib.hid hr
  clear h hr hR
  obtain ⟨b1, b2⟩ := two_boxes w (.int .i64 s.limit) (.slice bo ps.length bcap) (.bool s.closed) (.int .i64 0) (.slice none 0 0) (.bool false)
  have d0 := b1.cell 0
  have d1 := b1.cell 1
  have d2 := b1.cell 2
  simp only [List.getElem?_toArray, List.getElem?_cons_succ, List.getElem?_cons_zero] at d0 d1 d2
  clear b1 b2
  cases hg : ls.all goodLine with
  | false =>
    obtain ⟨h1, h2⟩ := put_bad s ls hg
    rw [h1, h2]
    go_enter Try.func29, Try.ntmps29
    go_wp2_with (go_at_call 46; refine (lines_c ls ao cap _ ((HL.out.alloc _).alloc _) hn hb).mono ?_; rintro e w' ⟨rfl, rfl⟩; rw [hg])
    refine bodyPost_ret (v := .tuple #[.agg #[.int .i64 s.limit, .slice bo ps.length bcap, .bool s.closed], .int .i64 1]) (by simp [results, Try.results29, go_sem]) rfl ?_
    exact rsame 1 HQ.out (below_two w _ _)
  | true =>
    cases hc : s.closed with
    | true =>
      obtain ⟨h1, h2⟩ := put_closed s ls hg hc
      rw [h1, h2]
      rw [hc] at d2 HQ
      go_enter Try.func29, Try.ntmps29
      go_wp2_with (go_at_call 46; refine (lines_c ls ao cap _ ((HL.out.alloc _).alloc _) hn hb).mono ?_; rintro e w' ⟨rfl, rfl⟩; rw [hg])
      refine bodyPost_ret (v := .tuple #[.agg #[.int .i64 s.limit, .slice bo ps.length bcap, .bool true], .int .i64 141]) (by simp [results, Try.results29, go_sem]) rfl ?_
      exact rsame 141 HQ.out (below_two w _ _)
    | false =>
      have HT := Lib.hid (Two.start w s.limit s.closed (.slice bo ps.length bcap))
      have l0 := hs.lim0
      have l1 := hs.lim1
      have l2 := hs.len
      rw [hc] at d2 HQ HT
      by_cases hne : ls = []
      · obtain ⟨h1, h2⟩ := put_ok s ls hg hc (.inl hne)
        have hl0 : ((lineBytes ls).length : Int) = 0 := by rw [hne]; rfl
        have H1 := Lib.hid h1
        have H2 := Lib.hid h2
        clear h1 h2 hc hne
        go_enter Try.func29, Try.ntmps29
        go_wp2_with (go_at_call 46; refine (lines_c ls ao cap _ ((HL.out.alloc _).alloc _) hn hb).mono ?_; rintro e w' ⟨rfl, rfl⟩; rw [hg, hl0])
        go_quiet (fail)
        go_wp2_with fail
        refine (laid_c r _ s 0 0 ls ao cap _ (HQ.out.below (HT.out.drewN _).bel) (HL.out.kept (by decide) (HT.out.drewN _).bel) (fun _ => rfl) (by omega) (by omega) hn hb).mono ?_
        rintro e w1 ⟨v', r', rfl, q1, q2, q3⟩
        obtain ⟨sv1, ps1, hv1, hR1, -⟩ := id q1
        obtain ⟨bo1, bcap1, hsv1⟩ := hR1.shape
        subst hsv1
        subst hv1
        obtain ⟨e0, e1, e2, f0, f1, f2⟩ := ((HT.out.drewN _).below q3).res
        have Q1 := Lib.hid q1
        have Q2 := Lib.hid q2
        have Q3 := Lib.hid q3
        clear q1 q2 q3 hR1
        go_wp2
        refine bodyPost_ret (v := .tuple #[.agg #[.int .i64 s.limit, .slice bo1 ps1.length bcap1, .bool s.closed], .int .i64 0]) (by simp [results, Try.results29, go_sem, e0, e1, e2]) rfl ?_
        rw [H1.out, H2.out]
        exact ⟨_, _, rfl, put_fin _ _ _ (HT.out.drewN _) Q3.out Q1.out Q2.out⟩
      · have hn0 := lineBytes_pos hne
        have hd : decide (0 < ((lineBytes ls).length : Int)) = true := by simp; omega
        have hw1 : IntKind.i64.wrap (s.limit + 32768) = s.limit + 32768 := IntWalk.i64_in _ (by omega)
        have hw2 : IntKind.i64.wrap ((s.fl.length : Int) + ((lineBytes ls).length : Int)) = (s.fl.length : Int) + ((lineBytes ls).length : Int) := IntWalk.i64_in _ (by omega)
        go_enter Try.func29, Try.ntmps29
        go_wp2_with (go_at_call 46; refine (lines_c ls ao cap _ ((HL.out.alloc _).alloc _) hn hb).mono ?_; rintro e w' ⟨rfl, rfl⟩; rw [hg])
        go_region_held3 (fun w' => w'.cell? ⟨w.heap.size, 0, none⟩ = some (.int .i64 s.limit) ∧ w'.cell? ⟨w.heap.size, 1, none⟩ = some (.slice bo ps.length bcap) ∧ w'.cell? ⟨w.heap.size, 2, none⟩ = some (.bool false) ∧ Hid (Two w s.limit false (.slice bo ps.length bcap) w'))
          (first | exact (HT.out.drew).cells | (go_split_ands; exact two_keep (by assumption) (by assumption))) (first | (go_at_call 39; go_split_ands; refine (rsize_two (by assumption) HQ (by omega)).mono ?_; rintro e w' ⟨rfl, HB⟩))
        rename_i hh
        obtain ⟨k0, k1, k2, KT⟩ := hh
        obtain ⟨e0, e1, e2, f0, f1, f2⟩ := KT.out.res
        by_cases hbig : s.limit + 32768 < (s.fl.length : Int) + ((lineBytes ls).length : Int)
        · obtain ⟨h1, h2⟩ := put_big s ls hg hc hne hbig
          rw [decide_eq_true hbig]
          have H1 := Lib.hid h1
          have H2 := Lib.hid h2
          clear hbig hd hg hc hw1 hw2 hne h1 h2
          go_wp2
          refine bodyPost_ret (v := .tuple #[.agg #[.int .i64 s.limit, .slice bo ps.length bcap, .bool false], .int .i64 140]) (by simp [results, Try.results29, go_sem, e0, e1, e2]) rfl ?_
          rw [H1.out, H2.out]
          exact rsame 140 HQ.out (sets3 (KT.out.bel) (by omega) _ _ _)
        · obtain ⟨h1, h2⟩ := put_ok s ls hg hc (.inr hbig)
          rw [decide_eq_false hbig]
          have H1 := Lib.hid h1
          have H2 := Lib.hid h2
          clear hbig hd hg hc hw1 hw2 hne h1 h2 e0 e1 e2 f0 f1 f2
          go_wp2_with fail
          refine (laid_c r _ s 0 0 ls ao cap _ (HQ.out.below KT.out.bel) (HL.out.kept (by decide) KT.out.bel) (fun _ => rfl) (by omega) (by omega) hn hb).mono ?_
          rintro e w1 ⟨v', r', rfl, q1, q2, q3⟩
          obtain ⟨sv1, ps1, hv1, hR1, -⟩ := id q1
          obtain ⟨bo1, bcap1, hsv1⟩ := hR1.shape
          subst hsv1
          subst hv1
          obtain ⟨e0, e1, e2, f0, f1, f2⟩ := (KT.out.below q3).res
          have Q1 := Lib.hid q1
          have Q2 := Lib.hid q2
          have Q3 := Lib.hid q3
          clear q1 q2 q3 hR1
          go_wp2
          refine bodyPost_ret (v := .tuple #[.agg #[.int .i64 s.limit, .slice bo1 ps1.length bcap1, .bool s.closed], .int .i64 0]) (by simp [results, Try.results29, go_sem, e0, e1, e2]) rfl ?_
          rw [H1.out, H2.out]
          exact ⟨_, _, rfl, put_fin _ _ _ KT.out Q3.out Q1.out Q2.out⟩

set_option maxHeartbeats 4000000 in
set_option maxRecDepth 100000 in
theorem rout_c (r : Option Nat) (v : Value) (s : St) (pane tick : Int) (ls : List ByteArray) (ao : Option Addr) (cap : Nat) (w : World) (h : RSt w r v s) (hs : Fits s) (hr : Rd w 1 (.slice ao ls.length cap) ls.length (strs ls))
    (hn : ls.length ≤ 4000000) (hb : (lineBytes ls).length ≤ 4000000) :
    Calls Try.prog 31 #[v, .int .i64 pane, .int .i64 tick, .slice ao ls.length cap] w fun e w' =>
      ∃ v' r', e = .returned (.tuple #[v', .int .i64 (outCode s pane tick ls)]) ∧ RSt w' r' v' (outSt s pane tick ls) ∧ NewR w r r' ∧ Below w.heap.size w w' := by
  obtain ⟨sv, ps, hv, hR, -⟩ := id h
  obtain ⟨bo, bcap, hsv⟩ := hR.shape
  subst hsv
  subst hv
  have HQ := Lib.hid h
  have HL := Lib.hid hr
  clear h hr hR
  obtain ⟨b1, b2⟩ := two_boxes w (.int .i64 s.limit) (.slice bo ps.length bcap) (.bool s.closed) (.int .i64 0) (.slice none 0 0) (.bool false)
  have d0 := b1.cell 0
  have d1 := b1.cell 1
  have d2 := b1.cell 2
  simp only [List.getElem?_toArray, List.getElem?_cons_succ, List.getElem?_cons_zero] at d0 d1 d2
  clear b1 b2
  cases hg : ls.all goodLine with
  | false =>
    obtain ⟨h1, h2⟩ := out_bad s pane tick ls hg
    rw [h1, h2]
    go_enter Try.func31, Try.ntmps31
    go_wp2_with (go_at_call 46; refine (lines_c ls ao cap _ ((HL.out.alloc _).alloc _) hn hb).mono ?_; rintro e w' ⟨rfl, rfl⟩; rw [hg])
    refine bodyPost_ret (v := .tuple #[.agg #[.int .i64 s.limit, .slice bo ps.length bcap, .bool s.closed], .int .i64 1]) (by simp [results, Try.results31, go_sem]) rfl ?_
    exact rsame 1 HQ.out (below_two w _ _)
  | true =>
    by_cases hp1 : pane < 1
    · have hd1 : decide (pane < 1) = true := by simpa using hp1
      obtain ⟨h1, h2⟩ := out_no s pane tick ls (.inl hp1)
      rw [h1, h2]
      go_enter Try.func31, Try.ntmps31
      go_wp2_with (go_at_call 46; refine (lines_c ls ao cap _ ((HL.out.alloc _).alloc _) hn hb).mono ?_; rintro e w' ⟨rfl, rfl⟩; rw [hg])
      refine bodyPost_ret (v := .tuple #[.agg #[.int .i64 s.limit, .slice bo ps.length bcap, .bool s.closed], .int .i64 1]) (by simp [results, Try.results31, go_sem]) rfl ?_
      exact rsame 1 HQ.out (below_two w _ _)
    · have hd1 : decide (pane < 1) = false := by simpa using hp1
      by_cases hp2 : 4611686018427387904 < pane
      · have hd2 : decide (4611686018427387904 < pane) = true := by simpa using hp2
        obtain ⟨h1, h2⟩ := out_no s pane tick ls (.inr (.inl hp2))
        rw [h1, h2]
        go_enter Try.func31, Try.ntmps31
        go_wp2_with (go_at_call 46; refine (lines_c ls ao cap _ ((HL.out.alloc _).alloc _) hn hb).mono ?_; rintro e w' ⟨rfl, rfl⟩; rw [hg])
        refine bodyPost_ret (v := .tuple #[.agg #[.int .i64 s.limit, .slice bo ps.length bcap, .bool s.closed], .int .i64 1]) (by simp [results, Try.results31, go_sem]) rfl ?_
        exact rsame 1 HQ.out (below_two w _ _)
      · have hd2 : decide (4611686018427387904 < pane) = false := by simpa using hp2
        by_cases hp3 : tick < 0
        · have hd3 : decide (tick < 0) = true := by simpa using hp3
          obtain ⟨h1, h2⟩ := out_no s pane tick ls (.inr (.inr hp3))
          rw [h1, h2]
          go_enter Try.func31, Try.ntmps31
          go_wp2_with (go_at_call 46; refine (lines_c ls ao cap _ ((HL.out.alloc _).alloc _) hn hb).mono ?_; rintro e w' ⟨rfl, rfl⟩; rw [hg])
          refine bodyPost_ret (v := .tuple #[.agg #[.int .i64 s.limit, .slice bo ps.length bcap, .bool s.closed], .int .i64 1]) (by simp [results, Try.results31, go_sem]) rfl ?_
          exact rsame 1 HQ.out (below_two w _ _)
        · have hd3 : decide (tick < 0) = false := by simpa using hp3
          have hno : ¬ (pane < 1 ∨ pane > 4611686018427387904 ∨ tick < 0) := by omega
          cases hc : s.closed with
          | true =>
            obtain ⟨h1, h2⟩ := out_closed s pane tick ls hno hg hc
            rw [h1, h2]
            rw [hc] at d2 HQ
            go_enter Try.func31, Try.ntmps31
            go_wp2_with (go_at_call 46; refine (lines_c ls ao cap _ ((HL.out.alloc _).alloc _) hn hb).mono ?_; rintro e w' ⟨rfl, rfl⟩; rw [hg])
            refine bodyPost_ret (v := .tuple #[.agg #[.int .i64 s.limit, .slice bo ps.length bcap, .bool true], .int .i64 141]) (by simp [results, Try.results31, go_sem]) rfl ?_
            exact rsame 141 HQ.out (below_two w _ _)
          | false =>
            have HT := Lib.hid (Two.start w s.limit s.closed (.slice bo ps.length bcap))
            have l0 := hs.lim0
            have l1 := hs.lim1
            have l2 := hs.len
            rw [hc] at d2 HQ HT
            by_cases hne : ls = []
            · obtain ⟨h1, h2⟩ := out_ok s pane tick ls hno hg hc (.inl hne)
              have hl0 : ((lineBytes ls).length : Int) = 0 := by rw [hne]; rfl
              have H1 := Lib.hid h1
              have H2 := Lib.hid h2
              clear h1 h2 hc hne
              go_enter Try.func31, Try.ntmps31
              go_wp2_with (go_at_call 46; refine (lines_c ls ao cap _ ((HL.out.alloc _).alloc _) hn hb).mono ?_; rintro e w' ⟨rfl, rfl⟩; rw [hg, hl0])
              go_quiet (fail)
              go_wp2_with fail
              refine (laid_c r _ s pane tick ls ao cap _ (HQ.out.below (HT.out.drewN _).bel) (HL.out.kept (by decide) (HT.out.drewN _).bel) (fun e => by omega) (by omega) (by omega) hn hb).mono ?_
              rintro e w1 ⟨v', r', rfl, q1, q2, q3⟩
              obtain ⟨sv1, ps1, hv1, hR1, -⟩ := id q1
              obtain ⟨bo1, bcap1, hsv1⟩ := hR1.shape
              subst hsv1
              subst hv1
              obtain ⟨e0, e1, e2, f0, f1, f2⟩ := ((HT.out.drewN _).below q3).res
              have Q1 := Lib.hid q1
              have Q2 := Lib.hid q2
              have Q3 := Lib.hid q3
              clear q1 q2 q3 hR1
              go_wp2
              refine bodyPost_ret (v := .tuple #[.agg #[.int .i64 s.limit, .slice bo1 ps1.length bcap1, .bool s.closed], .int .i64 0]) (by simp [results, Try.results31, go_sem, e0, e1, e2]) rfl ?_
              rw [H1.out, H2.out]
              exact ⟨_, _, rfl, put_fin _ _ _ (HT.out.drewN _) Q3.out Q1.out Q2.out⟩
            · have hn0 := lineBytes_pos hne
              have hd : decide (0 < ((lineBytes ls).length : Int)) = true := by simp; omega
              have hw2 : IntKind.i64.wrap ((s.fl.length : Int) + ((lineBytes ls).length : Int)) = (s.fl.length : Int) + ((lineBytes ls).length : Int) := IntWalk.i64_in _ (by omega)
              go_enter Try.func31, Try.ntmps31
              go_wp2_with (go_at_call 46; refine (lines_c ls ao cap _ ((HL.out.alloc _).alloc _) hn hb).mono ?_; rintro e w' ⟨rfl, rfl⟩; rw [hg])
              go_region_held3 (fun w' => w'.cell? ⟨w.heap.size, 0, none⟩ = some (.int .i64 s.limit) ∧ w'.cell? ⟨w.heap.size, 1, none⟩ = some (.slice bo ps.length bcap) ∧ w'.cell? ⟨w.heap.size, 2, none⟩ = some (.bool false) ∧ Hid (Two w s.limit false (.slice bo ps.length bcap) w'))
                (first | exact (HT.out.drew).cells | (go_split_ands; exact two_keep (by assumption) (by assumption))) (first | (go_at_call 39; go_split_ands; refine (rsize_two (by assumption) HQ (by omega)).mono ?_; rintro e w' ⟨rfl, HB⟩))
              rename_i hh
              obtain ⟨k0, k1, k2, KT⟩ := hh
              obtain ⟨e0, e1, e2, f0, f1, f2⟩ := KT.out.res
              by_cases hbig : s.limit < (s.fl.length : Int) + ((lineBytes ls).length : Int)
              · obtain ⟨h1, h2⟩ := out_big s pane tick ls hno hg hc hne hbig
                rw [decide_eq_true hbig]
                have H1 := Lib.hid h1
                have H2 := Lib.hid h2
                clear hbig hd hg hc hw2 hne h1 h2
                go_wp2
                refine bodyPost_ret (v := .tuple #[.agg #[.int .i64 s.limit, .slice bo ps.length bcap, .bool false], .int .i64 3]) (by simp [results, Try.results31, go_sem, e0, e1, e2]) rfl ?_
                rw [H1.out, H2.out]
                exact rsame 3 HQ.out (sets3 (KT.out.bel) (by omega) _ _ _)
              · obtain ⟨h1, h2⟩ := out_ok s pane tick ls hno hg hc (.inr hbig)
                rw [decide_eq_false hbig]
                have H1 := Lib.hid h1
                have H2 := Lib.hid h2
                clear hbig hd hg hc hw2 hne h1 h2 e0 e1 e2 f0 f1 f2
                go_wp2_with fail
                refine (laid_c r _ s pane tick ls ao cap _ (HQ.out.below KT.out.bel) (HL.out.kept (by decide) KT.out.bel) (fun e => by omega) (by omega) (by omega) hn hb).mono ?_
                rintro e w1 ⟨v', r', rfl, q1, q2, q3⟩
                obtain ⟨sv1, ps1, hv1, hR1, -⟩ := id q1
                obtain ⟨bo1, bcap1, hsv1⟩ := hR1.shape
                subst hsv1
                subst hv1
                obtain ⟨e0, e1, e2, f0, f1, f2⟩ := (KT.out.below q3).res
                have Q1 := Lib.hid q1
                have Q2 := Lib.hid q2
                have Q3 := Lib.hid q3
                clear q1 q2 q3 hR1
                go_wp2
                refine bodyPost_ret (v := .tuple #[.agg #[.int .i64 s.limit, .slice bo1 ps1.length bcap1, .bool s.closed], .int .i64 0]) (by simp [results, Try.results31, go_sem, e0, e1, e2]) rfl ?_
                rw [H1.out, H2.out]
                exact ⟨_, _, rfl, put_fin _ _ _ KT.out Q3.out Q1.out Q2.out⟩
end Go.Proofs.Ytbfmfliknhcoeaa
