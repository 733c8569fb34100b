/- (*Queue).Oldest, Panes, Size, Limit, Closed; New. -/
import Derived.Test.YtbfmfliknhcoeaaF
import Derived.Test.YtbfmfliknhcoeaaG
namespace Go.Proofs.Ytbfmfliknhcoeaa
open Go.RowKit QP

theorem info3 : (Try.prog.info? 3).map (fun i => (i.zero, i.size, i.bytes)) = some (some (.int .i64 0), 1, 8) := by kernel_rfl

theorem size_c (b : Nat) (g : Option Nat) (s : St) (w : World) (h : QSt w b g s) : Calls Try.prog 17 #[.pointer (some ⟨b, 0, none⟩)] w fun e w' => e = .returned (.int .i64 s.fl.length) ∧ w = w' := by
  obtain ⟨sv, ps, hB, _⟩ := h
  have c1 := hB.cell 1
  simp only [List.getElem?_toArray, List.getElem?_cons_succ, List.getElem?_cons_zero] at c1
  clear hB
  go_enter Try.func17, Try.ntmps17
  go_wp2
  go_ret
  exact ⟨rfl, rfl⟩
theorem limit_c (b : Nat) (g : Option Nat) (s : St) (w : World) (h : QSt w b g s) : Calls Try.prog 40 #[.pointer (some ⟨b, 0, none⟩)] w fun e w' => e = .returned (.int .i64 s.limit) ∧ w = w' := by
  obtain ⟨sv, ps, hB, _⟩ := h
  have c1 := hB.cell 0
  simp only [List.getElem?_toArray, List.getElem?_cons_zero] at c1
  clear hB
  go_enter Try.func40, Try.ntmps40
  go_wp2
  go_ret
  exact ⟨rfl, rfl⟩
theorem closed_c (b : Nat) (g : Option Nat) (s : St) (w : World) (h : QSt w b g s) : Calls Try.prog 20 #[.pointer (some ⟨b, 0, none⟩)] w fun e w' => e = .returned (.bool s.closed) ∧ w = w' := by
  obtain ⟨sv, ps, hB, _⟩ := h
  have c1 := hB.cell 3
  simp only [List.getElem?_toArray, List.getElem?_cons_succ, List.getElem?_cons_zero] at c1
  clear hB
  go_enter Try.func20, Try.ntmps20
  go_wp2
  go_ret
  exact ⟨rfl, rfl⟩

/-- New: which limits may be, and what a queue is at first -/
theorem new_no (limit : Int) (w : World) (h : limit < 0 ∨ 65536 < limit) : Calls Try.prog 36 #[.int .i64 limit] w fun e w' => e = .returned (.tuple #[.pointer none, .int .i64 1]) ∧ w = w' := by
  by_cases h1 : limit < 0
  · have hd : decide (limit < 0) = true := by simpa using h1
    go_enter Try.func36, Try.ntmps36
    go_wp2
    go_ret2
    exact ⟨rfl, rfl⟩
  · have hd : decide (limit < 0) = false := by simpa using h1
    have hd2 : decide (65536 < limit) = true := by simp; omega
    go_enter Try.func36, Try.ntmps36
    go_wp2
    go_ret2
    exact ⟨rfl, rfl⟩
theorem new_c (limit : Int) (w : World) (h0 : 0 ≤ limit) (h1 : limit ≤ 65536) : Calls Try.prog 36 #[.int .i64 limit] w fun e w' =>
    e = .returned (.tuple #[.pointer (some ⟨w.heap.size, 0, none⟩), .int .i64 0]) ∧ QSt w' w.heap.size none ⟨limit, [], false⟩ ∧ Below w.heap.size w w' := by
  have hd : decide (limit < 0) = false := by simp; omega
  have hd2 : decide (65536 < limit) = false := by simp; omega
  go_enter Try.func36, Try.ntmps36
  go_wp2
  go_ret2
  refine ⟨rfl, ⟨.slice none 0 0, [], Blk.new w 71 _, Row.nil _ _ _, rfl, by simp, rfl, by simp [okParts]⟩, (Below.refl _ _).alloc (Nat.le_refl _) _⟩

set_option maxHeartbeats 1000000 in
set_option maxRecDepth 100000 in
theorem oldest_c (b : Nat) (g : Option Nat) (s : St) (pane : Int) (w : World) (h : QSt w b g s) (hs : s.fl.length ≤ 1000000) :
    Calls Try.prog 41 #[.pointer (some ⟨b, 0, none⟩), .int .i64 pane] w fun e w' =>
      e = .returned (.tuple #[.int .i64 ((aOldest s.fl pane).getD 0), .bool (aOldest s.fl pane).isSome]) ∧ Below w.heap.size w w' := by
  obtain ⟨sv, ps, hB, hR, hg, hgb, hfl, hok⟩ := h
  have c2 := hB.cell 2
  simp only [List.getElem?_toArray, List.getElem?_cons_succ, List.getElem?_cons_zero] at c2
  have hblt := hB.lt
  have hpl := parts_le hok
  rw [hfl] at hpl
  obtain ⟨ao, cap, rfl, _⟩ := id hR
  have HR := Lib.hid hR
  have HF := Lib.hid hfl
  have HO := Lib.hid hok
  clear hB hR hg hfl hok
  go_enter Try.func41, Try.ntmps41
  go_wp2
  go_loopw [13] (fun i wr => ∃ k : Nat, k ≤ ps.length ∧ i = .int .i64 k ∧ Hid ((flat (ps.take k)).find? (fun t => t.1 == pane) = none ∨ pane ≤ 0) ∧ Hid (Below w.heap.size w wr)) (fun i _ => ps.length - (intOf i).toNat)
  case atStart => exact ⟨0, Nat.zero_le _, rfl, Lib.hid (.inl (by simp [flat])), Lib.hid (Below.refl _ _)⟩
  case round =>
    obtain ⟨k, hk, rfl, HN, HW⟩ := hrel
    by_cases hlt : k < ps.length
    · have hrow := HR.out.below HW.out HR.out.lt
      obtain ⟨gg, off, cap', cur, hv, hnc, hcur, hfit, hcell, hfz⟩ := hrow.at_ (by omega)
      cases hv
      have hx : ∀ j, j < 3 → (cellsOf ps)[k * 3 + j]? = (partCells ps[k])[j]? := cellsOf_get ps k hlt
      have d0 : wr.cell? ⟨gg, off + k * 3, none⟩ = some (.int .i64 ps[k].pane) := hcell (k * 3) _ (hx 0 (by decide))
      have d1 : wr.cell? ⟨gg, off + k * 3 + 1, none⟩ = some (.int .i64 ps[k].tick) := hcell (k * 3 + 1) _ (hx 1 (by decide))
      have d2 : wr.cell? ⟨gg, off + k * 3 + 2, none⟩ = some (.string ps[k].text) := hcell (k * 3 + 2) _ (hx 2 (by decide))
      have hsz := HW.out.size
      have hokk := HO.out ps[k] (List.getElem_mem hlt)
      have HK := Lib.hid hokk
      clear hcell hfz hx hrow hcur hokk
      have hbel : Below w.heap.size w (wr.alloc (.cells #[.int .i64 ps[k].pane, .int .i64 ps[k].tick, .string ps[k].text] 76)) := HW.out.alloc HW.out.size _
      have HBE := Lib.hid hbel
      clear hbel
      by_cases hp : ps[k].pane = pane
      · by_cases hz : pane = 0
        · subst hz
          have ht := HK.out.2.1 hp
          rw [hp] at d0
          rw [ht] at d1
          rw [hp, ht] at HBE
          clear hp ht HK
          go_wp2
          go_round
          case rel => exact ⟨k + 1, by omega, by go_num, Lib.hid (.inr (Int.le_refl _)), HBE⟩
          case measure => simp [intOf]; omega
        · have q1 : (ps[k].pane == pane) = true := by simpa using hp
          have q2 : (ps[k].pane == 0) = false := by rw [hp]; simpa using hz
          have hfo : aOldest s.fl pane = some ps[k].tick := by
            rw [← HF.out]
            have hpp : 0 < pane := by have := HK.out.2.2; omega
            exact found_at ps k pane hlt HK.out.1 hpp (HN.out.resolve_right (by omega)) hp
          have HFO := Lib.hid hfo
          clear hp hz hfo
          go_wp2
          go_ret2
          rw [HFO.out]
          exact ⟨rfl, HBE.out⟩
      · have q1 : (ps[k].pane == pane) = false := by simpa using hp
        have hns : (flat (ps.take (k + 1))).find? (fun t => t.1 == pane) = none ∨ pane ≤ 0 := by
          rcases HN.out with hn | hn
          · exact .inl (none_succ ps k pane hlt hn hp)
          · exact .inr hn
        have HNS := Lib.hid hns
        clear hp hns
        go_wp2
        go_round
        case rel => exact ⟨k + 1, by omega, by go_num, HNS, HBE⟩
        case measure => simp [intOf]; omega
    · have hke : k = ps.length := by omega
      have hno : aOldest s.fl pane = none := by
        rcases HN.out with hn | hn
        · rw [hke, List.take_length] at hn
          rw [← HF.out]
          exact found_none ps pane hn
        · exact found_low _ _ hn
      have HNO := Lib.hid hno
      clear hno hke
      go_wp2
      go_ret2
      rw [HNO.out]
      exact ⟨rfl, HW.out⟩
end Go.Proofs.Ytbfmfliknhcoeaa
