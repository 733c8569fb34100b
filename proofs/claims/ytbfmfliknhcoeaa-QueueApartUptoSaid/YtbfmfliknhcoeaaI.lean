/- (*Queue).Panes. -/
import Derived.Test.YtbfmfliknhcoeaaH
namespace Go.Proofs.Ytbfmfliknhcoeaa
open Go.RowKit QP

/-! ### sorted, then compacted -/
theorem getElem!_mem {xs : List Int} {j : Nat} (h : j < xs.length) : xs.toArray[j]! ∈ xs := by
  rw [getElem!_pos xs.toArray j (by simpa using h)]
  simp
theorem mem_compact {xs : List Int} (x : Int) : x ∈ Lib.compact xs ↔ x ∈ xs := by
  unfold Lib.compact Lib.compactUpTo
  simp only [List.mem_map, List.mem_filter, List.mem_range, Lib.keeps, decide_eq_true_eq]
  constructor
  · rintro ⟨j, ⟨hj, _⟩, rfl⟩
    exact getElem!_mem hj
  · intro hx
    obtain ⟨j, hj, rfl⟩ := List.getElem_of_mem hx
    have key : ∀ j (hj : j < xs.length), ∃ i, (i < xs.length ∧ (i = 0 ∨ xs.toArray[i]! ≠ xs.toArray[i - 1]!)) ∧ xs.toArray[i]! = xs[j] := by
      intro j
      induction j with
      | zero => intro hj; exact ⟨0, ⟨hj, .inl rfl⟩, by rw [getElem!_pos xs.toArray 0 (by simpa using hj)]; simp⟩
      | succ j ih =>
        intro hj
        have e1 : xs.toArray[j + 1]! = xs[j + 1] := by rw [getElem!_pos xs.toArray (j + 1) (by simpa using hj)]; simp
        have e2 : xs.toArray[j]! = xs[j] := by rw [getElem!_pos xs.toArray j (by simp; omega)]; simp
        by_cases h : xs.toArray[j + 1]! = xs.toArray[j]!
        · obtain ⟨i, hi, he⟩ := ih (by omega)
          exact ⟨i, hi, by rw [he, ← e1, h, e2]⟩
        · exact ⟨j + 1, ⟨hj, .inr (by simpa using h)⟩, e1⟩
    exact key j hj
theorem compact_rising {xs : List Int} (h : xs.Pairwise (· ≤ ·)) : (Lib.compact xs).Pairwise (· < ·) := by
  unfold Lib.compact Lib.compactUpTo
  rw [List.pairwise_map]
  have hr : ((List.range xs.length).filter (Lib.keeps xs.toArray)).Pairwise (· < ·) := List.Pairwise.filter _ List.pairwise_lt_range
  refine List.Pairwise.imp_of_mem ?_ hr
  intro i j hi hj hij
  simp only [List.mem_filter, List.mem_range, Lib.keeps, decide_eq_true_eq] at hi hj
  have e : ∀ k, k < xs.length → xs.toArray[k]! = xs.getD k 0 := fun k hk => by rw [getElem!_pos xs.toArray k (by simpa using hk)]; simp [hk]
  have hle : ∀ a b, a ≤ b → b < xs.length → xs.getD a 0 ≤ xs.getD b 0 := by
    intro a b hab hb
    rcases Nat.lt_or_ge a b with h1 | h1
    · have := List.pairwise_iff_getElem.1 h a b (by omega) hb h1
      simpa [hb, show a < xs.length by omega] using this
    · have : a = b := by omega
      subst this
      exact Int.le_refl _
  rcases hj.2 with h0 | h0
  · omega
  · rw [e j hj.1, e (j - 1) (by omega)] at h0
    rw [e i hi.1, e j hj.1]
    have h1 := hle i (j - 1) (by omega) (by omega)
    have h2 := hle (j - 1) j (by omega) hj.1
    omega

/-- the panes of the parts that are output -/
def paneList (ps : List Part) : List Int := (ps.filter fun p => decide (p.pane ≠ 0)).map Part.pane
theorem paneList_length (ps : List Part) : (paneList ps).length ≤ ps.length := by rw [paneList, List.length_map]; exact List.length_filter_le _ _
theorem paneList_take (ps : List Part) (k : Nat) (h : k < ps.length) : paneList (ps.take (k + 1)) = paneList (ps.take k) ++ if ps[k].pane = 0 then [] else [ps[k].pane] := by
  rw [List.take_succ_eq_append_getElem h, paneList, List.filter_append, List.map_append]
  congr 1
  split <;> simp_all
theorem isPanes_of {ps : List Part} (h : okParts ps) : IsPanes (flat ps) (Lib.compact ((paneList ps).mergeSort fun x y => decide (x ≤ y))) := by
  refine ⟨compact_rising ?_, fun x => ?_⟩
  · have := List.pairwise_mergeSort (le := fun (x y : Int) => decide (x ≤ y)) (fun a b c => by simp; omega) (fun a b => by simp; omega) (paneList ps)
    simpa using this
  · rw [mem_compact, List.mem_mergeSort, paneIn_flat h]
    simp only [paneList, List.mem_map, List.mem_filter, decide_eq_true_eq]
    constructor
    · rintro ⟨p, ⟨hp, hne⟩, rfl⟩
      have := (h p hp).2.2
      exact ⟨by omega, p, hp, rfl⟩
    · rintro ⟨h0, p, hp, rfl⟩
      exact ⟨p, ⟨hp, by omega⟩, rfl⟩

set_option maxHeartbeats 1000000 in
set_option maxRecDepth 100000 in
theorem panes_c (b : Nat) (g : Option Nat) (s : St) (w : World) (h : QSt w b g s) (hs : s.fl.length ≤ 1000000) :
    Calls Try.prog 22 #[.pointer (some ⟨b, 0, none⟩)] w fun e w' =>
      ∃ v xs, e = .returned v ∧ IsPanes s.fl xs ∧ Row w' 3 1 v xs.length (ints xs) ∧ (∀ k, v.ownBlock = some k → w.heap.size ≤ k) ∧ xs.length ≤ 1000000 ∧ Below w.heap.size w w' := by
  obtain ⟨i0, hi, hz0, hz1, hz2⟩ := info_parts info3
  obtain ⟨sv, ps, hB, hR, hg, hgb, hfl, hok⟩ := h
  have c2 := hB.cell 2
  simp only [List.getElem?_toArray, List.getElem?_cons_succ, List.getElem?_cons_zero] at c2
  have hblt := hB.lt
  have hpl := parts_le hok
  rw [hfl] at hpl
  have hpan := isPanes_of hok
  rw [hfl] at hpan
  have HP := Lib.hid hpan
  obtain ⟨ao, cap, rfl, _⟩ := id hR
  have HR := Lib.hid hR
  have HO := Lib.hid hok
  clear hB hR hg hfl hok hpan
  go_enter Try.func22, Try.ntmps22
  go_wp2
  go_loopw [3, 11] (fun v i wr => ∃ (k : Nat) (ov : Value), k ≤ ps.length ∧ v = ov ∧ i = .int .i64 k ∧ Hid (Row wr 3 1 ov (paneList (ps.take k)).length (ints (paneList (ps.take k)))) ∧ Hid (∀ j, ov.ownBlock = some j → w.heap.size ≤ j) ∧ Hid (Below w.heap.size w wr)) (fun _ i _ => ps.length - (intOf i).toNat)
  case atStart => exact ⟨0, .slice none 0 0, Nat.zero_le _, rfl, rfl, Lib.hid (Row.nil _ _ _), Lib.hid (by simp [Value.ownBlock]), Lib.hid (Below.refl _ _)⟩
  case round =>
    obtain ⟨k, ov, hk, rfl, rfl, HV, HN, HW⟩ := hrel
    by_cases hlt : k < ps.length
    · have hrow := HR.out.below HW.out HR.out.lt
      obtain ⟨gg, off, cap', cur, hv, hnc, hcur, hfit, hcell, hfz⟩ := hrow.at_ (by omega)
      cases hv
      have hx : ∀ j, j < 3 → (cellsOf ps)[k * 3 + j]? = (partCells ps[k])[j]? := cellsOf_get ps k hlt
      have d0 : wr.cell? ⟨gg, off + k * 3, none⟩ = some (.int .i64 ps[k].pane) := hcell (k * 3) _ (hx 0 (by decide))
      have d1 : wr.cell? ⟨gg, off + k * 3 + 1, none⟩ = some (.int .i64 ps[k].tick) := hcell (k * 3 + 1) _ (hx 1 (by decide))
      have d2 : wr.cell? ⟨gg, off + k * 3 + 2, none⟩ = some (.string ps[k].text) := hcell (k * 3 + 2) _ (hx 2 (by decide))
      have hsz := HW.out.size
      have hokk := HO.out ps[k] (List.getElem_mem hlt)
      have HK := Lib.hid hokk
      have hpt := paneList_take ps k hlt
      have HPT := Lib.hid hpt
      have hbel : Below w.heap.size w (wr.alloc (.cells #[.int .i64 ps[k].pane, .int .i64 ps[k].tick, .string ps[k].text] 76)) := HW.out.alloc HW.out.size _
      have HBE := Lib.hid hbel
      clear hcell hfz hx hrow hcur hokk hpt hbel
      by_cases hp : ps[k].pane = 0
      · have ht := HK.out.2.1 hp
        have hpt2 := HPT.out
        rw [if_pos hp, List.append_nil] at hpt2
        have HPT2 := Lib.hid hpt2
        rw [hp] at d0
        rw [ht] at d1
        rw [hp, ht] at HBE
        clear hp ht HK hpt2
        go_wp2
        go_roundw
        case rel => exact ⟨k + 1, _, by omega, rfl, by go_num, Lib.hid (by rw [HPT2.out]; exact HV.out.alloc _), HN, HBE⟩
        case measure => simp [intOf]; omega
      · have q2 : (ps[k].pane == 0) = false := by simpa using hp
        have hpt2 := HPT.out
        rw [if_neg hp] at hpt2
        have HPT2 := Lib.hid hpt2
        have hpk := paneList_length (ps.take k)
        rw [List.length_take] at hpk
        clear hp hpt2
        go_wp2_with (at_builtin; refine wpList_append_row (v := u3) rfl (.tmp 19) (.tmp 23) 48 rfl 3 i0 (.int .i64 0) 1 8 Try.underlying48 hi hz0 hz1 hz2 rfl (by decide) rfl ((HV.out.alloc _).alloc _) rfl (Rd.box _ _ 1 1 _ (by simp) rfl) (by simp [Value.oneCell']) (by simp [maxLen]; omega) (by omega) ?_; intro v' w1 hrow hmod hown; obtain ⟨ao1, cap1, rfl, _⟩ := id hrow; have HR1 := Lib.hid hrow; have HM1 := Lib.hid hmod; have HO1 := Lib.hid hown; clear hrow hmod hown)
        go_roundw
        case rel =>
          refine ⟨k + 1, _, by omega, rfl, by go_num, Lib.hid ?_, Lib.hid fun j hj => ?_, Lib.hid (below_mod (HBE.out.alloc ?_ _) HM1.out ?_ fun i hi hf => ?_)⟩
          · rw [HPT2.out]
            have := HR1.out
            simpa [ints] using this
          · rcases HO1.out with h | h
            · exact HN.out j (h.symm.trans hj)
            · rw [h] at hj; injection hj with hj; simp at hj; omega
          · simp; omega
          · simp; omega
          · have := HN.out i hf; omega
        case measure => simp [intOf]; omega
    · have hke : k = ps.length := by omega
      have hv := HV.out
      rw [hke, List.take_length] at hv
      have hpl2 := paneList_length ps
      have HV2 := Lib.hid hv
      clear hv hke
      go_wp2_with fail
      refine (sort_row u3 (paneList ps) wr HV2.out (by omega)).mono ?_
      rintro e w1 ⟨rfl, hr1, hm1⟩
      have HR1 := Lib.hid hr1
      have HM1 := Lib.hid hm1
      clear hr1 hm1
      have hlm : ((paneList ps).mergeSort fun x y => decide (x ≤ y)).length = (paneList ps).length := List.length_mergeSort _
      have hr2 := HR1.out
      rw [← hlm] at hr2
      have hcl := Lib.compact_length_le ((paneList ps).mergeSort fun x y => decide (x ≤ y))
      rw [hlm] at hcl
      have hcr := compact_row u3 _ w1 hr2 (by omega)
      have HC := Lib.hid hcr
      clear hlm hr2 hcr
      go_wp2_with fail
      with_reducible refine HC.out.mono ?_
      rintro e w2 ⟨v2, rfl, hr2, ho2, hm2⟩
      have HR2 := Lib.hid hr2
      have HO2 := Lib.hid ho2
      have HM2 := Lib.hid hm2
      clear hr2 hm2 ho2
      go_wp2
      go_ret
      have hs1 := HW.out.size
      refine ⟨v2, _, rfl, HP.out, HR2.out, fun j hj => HN.out j (HO2.out.symm.trans hj), by omega, ?_⟩
      have hb1 : Below w.heap.size w w1 := below_mod HW.out HM1.out hs1 fun i hi hf => by have := HN.out i hf; omega
      exact below_mod hb1 HM2.out hb1.size fun i hi hf => by have := HN.out i hf; omega
end Go.Proofs.Ytbfmfliknhcoeaa
