/- The document's queue: New, Put, End, Oldest. -/
import Derived.Test.YtbfmfliknhcoeaaL
namespace Go.Proofs.Ytbfmfliknhcoeaa
open Go.RowKit QP

theorem rnew_no (limit : Int) (w : World) (h : limit < 0 ∨ 65536 < limit) : Calls Try.prog 37 #[.int .i64 limit] w fun e w' => e = .returned (.tuple #[.agg #[.int .i64 0, .slice none 0 0, .bool false], .int .i64 1]) ∧ Below w.heap.size w w' := by
  have hb := (Below.refl w.heap.size w).alloc (Nat.le_refl _) (.cells #[.int .i64 0, .slice none 0 0, .bool false] 29)
  by_cases h1 : limit < 0
  · have hd : decide (limit < 0) = true := by simpa using h1
    go_enter Try.func37, Try.ntmps37
    go_wp2
    refine bodyPost_ret (v := .tuple #[.agg #[.int .i64 0, .slice none 0 0, .bool false], .int .i64 1]) (by simp [results, Try.results37, go_sem]) rfl ?_
    exact ⟨rfl, hb⟩
  · have hd : decide (limit < 0) = false := by simpa using h1
    have hd2 : decide (65536 < limit) = true := by simp; omega
    go_enter Try.func37, Try.ntmps37
    go_wp2
    refine bodyPost_ret (v := .tuple #[.agg #[.int .i64 0, .slice none 0 0, .bool false], .int .i64 1]) (by simp [results, Try.results37, go_sem]) rfl ?_
    exact ⟨rfl, hb⟩
theorem rnew_c (limit : Int) (w : World) (h0 : 0 ≤ limit) (h1 : limit ≤ 65536) : Calls Try.prog 37 #[.int .i64 limit] w fun e w' =>
    ∃ v, e = .returned (.tuple #[v, .int .i64 0]) ∧ RSt w' none v ⟨limit, [], false⟩ ∧ Below w.heap.size w w' := by
  have hd : decide (limit < 0) = false := by simp; omega
  have hd2 : decide (65536 < limit) = false := by simp; omega
  go_enter Try.func37, Try.ntmps37
  go_wp2
  refine bodyPost_ret (v := .tuple #[.agg #[.int .i64 limit, .slice none 0 0, .bool false], .int .i64 0]) (by simp [results, Try.results37, go_sem]) rfl ?_
  exact ⟨_, rfl, ⟨_, [], rfl, Rd.nil _ _, rfl, by simp, rfl, by simp [okParts]⟩, (Below.refl _ _).alloc (Nat.le_refl _) _⟩

theorem put_fin2 {w wc w2 : World} {limit : Int} {closed : Bool} {sv v v' : Value} {r r' : Option Nat} {s s' : St} (u0 u1 u2 : Value) (h : Two w limit closed sv w2) (h0 : RSt w r v s) (hq : RSt w2 r' v' s') (hn : NewR wc r r') (hs : w.heap.size + 2 ≤ wc.heap.size) :
    RSt (((w2.setCell ⟨w.heap.size + 1, 0, none⟩ u0).setCell ⟨w.heap.size + 1, 1, none⟩ u1).setCell ⟨w.heap.size + 1, 2, none⟩ u2) r' v' s' ∧ NewR w r r' ∧ Below w.heap.size w (((w2.setCell ⟨w.heap.size + 1, 0, none⟩ u0).setCell ⟨w.heap.size + 1, 1, none⟩ u1).setCell ⟨w.heap.size + 1, 2, none⟩ u2) := by
  have hm := (((Mod.refl (fun k => k = w.heap.size + 1) w2).setCell (a := ⟨w.heap.size + 1, 0, none⟩) (.inl rfl) u0).setCell (a := ⟨w.heap.size + 1, 1, none⟩) (.inl rfl) u1).setCell (a := ⟨w.heap.size + 1, 2, none⟩) (.inl rfl) u2
  obtain ⟨_, _, _, _, _, hlt, _⟩ := h0
  refine ⟨hq.mod hm fun k hk e => ?_, ?_, sets3 h.bel (by omega) _ _ _⟩
  · rcases hn with e' | e'
    · have := hlt k (e'.symm.trans hk); omega
    · have := e' k hk; omega
  · rcases hn with e' | e'
    · exact .inl e'
    · exact .inr fun k hk => by have := e' k hk; omega

set_option maxHeartbeats 1000000 in
set_option maxRecDepth 100000 in
theorem rput_c (r : Option Nat) (v : Value) (s : St) (line : ByteArray) (w : World) (h : RSt w r v s) (hs : Fits s) (hb : line.size ≤ 3000000) :
    Calls Try.prog 27 #[v, .string line] w fun e w' =>
      ∃ v' r', e = .returned (.tuple #[v', .int .i64 (putCode s [line])]) ∧ RSt w' r' v' (putSt s [line]) ∧ NewR w r r' ∧ Below w.heap.size w w' := by
  obtain ⟨sv, ps, hv, hR, -⟩ := id h
  obtain ⟨bo, bcap, hsv⟩ := hR.shape
  subst hsv
  subst hv
  have HQ := Lib.hid h
  clear h hR
  have HT := Lib.hid (Two.start w s.limit s.closed (.slice bo ps.length bcap))
  obtain ⟨d0, d1, d2, -⟩ := HT.out.cells
  have hls : (lineBytes [line]).length ≤ 4000000 := by simp [lineBytes, bytes_length]; omega
  go_enter Try.func27, Try.ntmps27
  go_wp2_with fail
  have hall := rputAll_c r _ s [line] (some ⟨w.heap.size + 2, 0, none⟩) 1 _ (HQ.out.below (HT.out.bel.alloc HT.out.bel.size (.cells #[.string line] 9))) hs (Rd.box #[.string line] 9 1 1 (w.heap.size + 2) (by simp) rfl) (by simp) hls
  refine hall.mono ?_
  clear hall
  rintro e w1 ⟨v', r', rfl, q1, q2, q3⟩
  obtain ⟨sv1, ps1, hv1, hR1, -⟩ := id q1
  obtain ⟨bo1, bcap1, hsv1⟩ := hR1.shape
  subst hsv1
  subst hv1
  have HT2 : Two w s.limit s.closed (.slice bo ps.length bcap) w1 := (HT.out.below ((Below.refl _ _).alloc (Nat.le_refl _) _)).below q3
  obtain ⟨e0, e1, e2, f0, f1, f2⟩ := HT2.res
  have H2 := Lib.hid HT2
  have Q1 := Lib.hid q1
  have Q2 := Lib.hid q2
  clear q1 q2 q3 hR1 HT2
  go_wp2
  refine bodyPost_ret (v := .tuple #[.agg #[.int .i64 (putSt s [line]).limit, .slice bo1 ps1.length bcap1, .bool (putSt s [line]).closed], .int .i64 (putCode s [line])]) (by simp [results, Try.results27, go_sem, e0, e1, e2]) rfl ?_
  exact ⟨_, _, rfl, put_fin2 _ _ _ H2.out HQ.out Q1.out Q2.out (by simp)⟩

theorem RSt.close {w : World} {r : Option Nat} {l : Int} {sv : Value} {c : Bool} {s : St} (h : RSt w r (.agg #[.int .i64 l, sv, .bool c]) s) : RSt w r (.agg #[.int .i64 l, sv, .bool true]) { s with closed := true } := by
  obtain ⟨sv', ps, hv, h1, h2, h3, h4, h5⟩ := h
  simp only [Value.agg.injEq, Array.mk.injEq, List.cons.injEq, Value.int.injEq, true_and, and_true] at hv
  obtain ⟨rfl, rfl, -⟩ := hv
  exact ⟨_, ps, rfl, h1, h2, h3, h4, h5⟩

set_option maxHeartbeats 1000000 in
set_option maxRecDepth 100000 in
theorem rend_c (r : Option Nat) (v : Value) (s : St) (line : ByteArray) (w : World) (h : RSt w r v s) (hs : Fits s) (hb : line.size ≤ 3000000) :
    Calls Try.prog 33 #[v, .string line] w fun e w' =>
      ∃ v' r', e = .returned (.tuple #[v', .int .i64 (endCode s line)]) ∧ RSt w' r' v' (endSt s line) ∧ NewR w r r' ∧ Below w.heap.size w w' := by
  obtain ⟨sv, ps, hv, hR, -⟩ := id h
  obtain ⟨bo, bcap, hsv⟩ := hR.shape
  subst hsv
  subst hv
  have HQ := Lib.hid h
  clear h hR
  have HT := Lib.hid (Two.start w s.limit s.closed (.slice bo ps.length bcap))
  obtain ⟨d0, d1, d2, -⟩ := HT.out.cells
  cases hg : goodLine line with
  | false =>
    have h1 : endCode s line = 1 := by simp [endCode, hg]
    have h2 : endSt s line = s := by simp [endSt, hg]
    rw [h1, h2]
    clear h1 h2
    go_enter Try.func33, Try.ntmps33
    go_wp2_with (go_at_call 50; refine (isLine_c _ _ (by omega)).mono ?_; rintro e w' ⟨rfl, rfl⟩; rw [hg])
    refine bodyPost_ret (v := .tuple #[.agg #[.int .i64 s.limit, .slice bo ps.length bcap, .bool s.closed], .int .i64 1]) (by simp [results, Try.results33, go_sem]) rfl ?_
    exact rsame 1 HQ.out (below_two w _ _)
  | true =>
    cases hc : s.closed with
    | true =>
      have h1 : endCode s line = 141 := by simp [endCode, hg, hc]
      have h2 : endSt s line = s := by simp [endSt, hg, hc]
      rw [h1, h2]
      rw [hc] at d2 HQ HT
      clear h1 h2
      go_enter Try.func33, Try.ntmps33
      go_wp2_with (go_at_call 50; refine (isLine_c _ _ (by omega)).mono ?_; rintro e w' ⟨rfl, rfl⟩; rw [hg])
      refine bodyPost_ret (v := .tuple #[.agg #[.int .i64 s.limit, .slice bo ps.length bcap, .bool true], .int .i64 141]) (by simp [results, Try.results33, go_sem]) rfl ?_
      exact rsame 141 HQ.out (below_two w _ _)
    | false =>
      have h1 : endCode s line = 0 := by simp [endCode, hg, hc]
      have h2 : endSt s line = { s with fl := s.fl ++ tag 0 0 (lineBytes [line]), closed := true } := by simp [endSt, hg, hc, lineBytes]
      rw [h1, h2]
      rw [hc] at d2 HQ HT
      have hls : (lineBytes [line]).length ≤ 4000000 := by simp [lineBytes, bytes_length]; omega
      have hl2 := hs.len
      clear h1 h2
      go_enter Try.func33, Try.ntmps33
      go_wp2_with (go_at_call 50; refine (isLine_c _ _ (by omega)).mono ?_; rintro e w' ⟨rfl, rfl⟩; rw [hg])
      have hall := laid_c r _ s 0 0 [line] (some ⟨w.heap.size + 2, 0, none⟩) 1 _ (HQ.out.below (HT.out.bel.alloc HT.out.bel.size (.cells #[.string line] 9))) (Rd.box #[.string line] 9 1 1 (w.heap.size + 2) (by simp) rfl) (fun _ => rfl) (by omega) (by omega) (by simp) hls
      refine hall.mono ?_
      clear hall
      rintro e w1 ⟨v', r', rfl, q1, q2, q3⟩
      obtain ⟨sv1, ps1, hv1, hR1, -⟩ := id q1
      obtain ⟨bo1, bcap1, hsv1⟩ := hR1.shape
      subst hsv1
      subst hv1
      have HT2 := (HT.out.below ((Below.refl _ _).alloc (Nat.le_refl _) _)).below q3
      obtain ⟨e0, e1, e2, f0, f1, f2⟩ := HT2.res
      have hlt1 := HT2.b2.lt
      have H2 := Lib.hid HT2
      have Q1 := Lib.hid q1
      have Q2 := Lib.hid q2
      clear q1 q2 q3 hR1 HT2
      go_wp2
      have hB := (((H2.out.b2.set_ 0 (.int .i64 s.limit)).set_ 1 (.slice bo1 ps1.length bcap1)).set_ 2 (.bool true)).alloc (.cells #[.int .i64 s.limit, .slice bo1 ps1.length bcap1, .bool true] 29)
      have c0 := hB.cell 0
      have c1 := hB.cell 1
      have c2 := hB.cell 2
      simp at c0 c1 c2
      refine bodyPost_ret (v := .tuple #[.agg #[.int .i64 s.limit, .slice bo1 ps1.length bcap1, .bool true], .int .i64 0]) (by simp [results, Try.results33, go_sem, c0, c1, c2]) rfl ?_
      obtain ⟨z1, z2, z3⟩ := put_fin2 (.int .i64 s.limit) (.slice bo1 ps1.length bcap1) (.bool true) H2.out HQ.out Q1.out.close (.inr Q2.out) (by simp)
      exact ⟨_, _, rfl, z1.alloc _, z2, z3.alloc z3.size _⟩

set_option maxHeartbeats 1000000 in
set_option maxRecDepth 100000 in
theorem roldest_c (r : Option Nat) (v : Value) (s : St) (pane : Int) (w : World) (h : RSt w r v s) (hs : s.fl.length ≤ 1000000) :
    Calls Try.prog 42 #[v, .int .i64 pane] w fun e w' =>
      e = .returned (.tuple #[.int .i64 ((aOldest s.fl pane).getD 0), .bool (aOldest s.fl pane).isSome]) ∧ Below w.heap.size w w' := by
  obtain ⟨sv, ps, rfl, hR, -, hrl, hfl, hok⟩ := h
  obtain ⟨ao, cap, rfl⟩ := hR.shape
  have hpl := parts_le hok
  rw [hfl] at hpl
  have hbel : Below w.heap.size w (w.alloc (.cells #[.int .i64 s.limit, .slice ao ps.length cap, .bool s.closed] 29)) := (Below.refl _ _).alloc (Nat.le_refl _) _
  have HBE := Lib.hid hbel
  have hR1 : Rd (w.alloc (.cells #[.int .i64 s.limit, .slice ao ps.length cap, .bool s.closed] 29)) 3 (.slice ao ps.length cap) ps.length (itemsOf ps) := hR.alloc _
  have HR := Lib.hid hR1
  have HF := Lib.hid hfl
  have HO := Lib.hid hok
  have c1 := (Blk.new w 29 #[.int .i64 s.limit, .slice ao ps.length cap, .bool s.closed]).cell 1
  simp only [List.getElem?_toArray, List.getElem?_cons_succ, List.getElem?_cons_zero] at c1
  clear hR hR1 hfl hok hbel
  go_enter Try.func42, Try.ntmps42
  go_wp2
  go_loop [6] (fun i => ∃ k : Nat, k ≤ ps.length ∧ i = .int .i64 k ∧ Hid ((flat (ps.take k)).find? (fun t => t.1 == pane) = none ∨ pane ≤ 0)) (fun i => ps.length - (intOf i).toNat)
  case atStart => exact ⟨0, Nat.zero_le _, rfl, Lib.hid (.inl (by simp [flat]))⟩
  case round =>
    obtain ⟨k, hk, rfl, HN⟩ := hrel
    by_cases hlt : k < ps.length
    · obtain ⟨gg, off, cap', hv, hnc, hc⟩ := HR.out.at_ (by omega)
      cases hv
      have d1 := hc (k * 3 + 1) _ ((itemsOf_get ps k hlt 1 (by decide)).trans rfl)
      have d2 := hc (k * 3 + 2) _ ((itemsOf_get ps k hlt 2 (by decide)).trans rfl)
      have hokk := HO.out ps[k] (List.getElem_mem hlt)
      have HK := Lib.hid hokk
      simp only [← Nat.add_assoc] at d1 d2
      clear hc hokk
      by_cases hp : ps[k].pane = pane
      · have q1 : (ps[k].pane == pane) = true := by simpa using hp
        by_cases hz : 0 < pane
        · have q2 : decide (0 < pane) = true := by simpa using hz
          have hfo : aOldest s.fl pane = some ps[k].tick := by
            rw [← HF.out]
            exact found_at ps k pane hlt HK.out.1 hz (HN.out.resolve_right (by omega)) hp
          have HFO := Lib.hid hfo
          clear hp hz hfo
          go_wp2
          go_ret2
          rw [HFO.out]
          exact ⟨rfl, HBE.out⟩
        · have q2 : decide (0 < pane) = false := by simpa using hz
          have hz' : pane ≤ 0 := by omega
          clear hp hz
          go_wp2
          go_round
          case rel => exact ⟨k + 1, by omega, by go_num, Lib.hid (.inr hz')⟩
          case measure => simp [intOf]; omega
      · have q1 : (ps[k].pane == pane) = false := by simpa using hp
        have hns : (flat (ps.take (k + 1))).find? (fun t => t.1 == pane) = none ∨ pane ≤ 0 := by
          rcases HN.out with hn | hn
          · exact .inl (none_succ ps k pane hlt hn hp)
          · exact .inr hn
        have HNS := Lib.hid hns
        clear hp hns
        go_wp2
        go_round
        case rel => exact ⟨k + 1, by omega, by go_num, HNS⟩
        case measure => simp [intOf]; omega
    · have hke : k = ps.length := by omega
      have hno : aOldest s.fl pane = none := by
        rcases HN.out with hn | hn
        · rw [hke, List.take_length] at hn
          rw [← HF.out]
          exact found_none ps pane hn
        · exact found_low _ _ hn
      have HNO := Lib.hid hno
      clear hno hke
      go_wp2
      go_ret2
      rw [HNO.out]
      exact ⟨rfl, HBE.out⟩
end Go.Proofs.Ytbfmfliknhcoeaa
