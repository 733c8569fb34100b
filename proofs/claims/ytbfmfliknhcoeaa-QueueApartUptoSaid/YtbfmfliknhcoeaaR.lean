/- The document's queue: Panes. -/
import Derived.Test.YtbfmfliknhcoeaaN
namespace Go.Proofs.Ytbfmfliknhcoeaa
open Go.RowKit QP

/-- the least pane above the last one, of those looked at; 0: none yet -/
def leastOf (last : Int) (l : List Int) : Int := l.foldl (fun b p => if last < p ∧ (b = 0 ∨ p < b) then p else b) 0

theorem leastOf_snoc (last : Int) (l : List Int) (p : Int) : leastOf last (l ++ [p]) = if last < p ∧ (leastOf last l = 0 ∨ p < leastOf last l) then p else leastOf last l := by
  unfold leastOf
  rw [List.foldl_append]
  rfl

theorem leastOf_spec (last : Int) (h0 : 0 ≤ last) (l : List Int) : (leastOf last l = 0 ∧ ∀ p ∈ l, p ≤ last) ∨ (leastOf last l ∈ l ∧ last < leastOf last l ∧ ∀ p ∈ l, last < p → leastOf last l ≤ p) := by
  rcases nil_or_snoc l with rfl | ⟨l', p, rfl⟩
  · left; simp [leastOf]
  · have ih := leastOf_spec last h0 l'
    rw [leastOf_snoc]
    split
    · rename_i h
      right
      refine ⟨by simp, h.1, fun q hq hlq => ?_⟩
      rcases List.mem_append.1 hq with hq | hq
      · rcases ih with ⟨i1, i2⟩ | ⟨i1, i2, i3⟩
        · have := i2 q hq; omega
        · have := i3 q hq hlq
          rcases h.2 with h2 | h2 <;> omega
      · simp at hq; omega
    · rename_i h
      rcases ih with ⟨i1, i2⟩ | ⟨i1, i2, i3⟩
      · left
        refine ⟨i1, fun q hq => ?_⟩
        rcases List.mem_append.1 hq with hq | hq
        · exact i2 q hq
        · simp at hq; subst hq
          by_cases hl : last < q
          · exact absurd ⟨hl, .inl i1⟩ h
          · omega
      · right
        refine ⟨List.mem_append_left _ i1, i2, fun q hq hlq => ?_⟩
        rcases List.mem_append.1 hq with hq | hq
        · exact i3 q hq hlq
        · simp at hq; subst hq
          have : ¬ (leastOf last l' = 0 ∨ q < leastOf last l') := fun h' => h ⟨hlq, h'⟩
          omega
termination_by l.length

/-- the panes found so far: rising, and no pane up to the last one is missed -/
structure PanesInv (pl : List Int) (xs : List Int) (last : Int) : Prop where
  rise : xs.Pairwise (· < ·)
  mem : ∀ x, x ∈ xs ↔ 0 < x ∧ x ≤ last ∧ x ∈ pl
  low : 0 ≤ last

theorem PanesInv.next {pl xs : List Int} {last : Int} (h : PanesInv pl xs last) (hne : leastOf last pl ≠ 0) : PanesInv pl (xs ++ [leastOf last pl]) (leastOf last pl) ∧ last < leastOf last pl ∧ leastOf last pl ∈ pl := by
  rcases leastOf_spec last h.low pl with ⟨h1, -⟩ | ⟨h1, h2, h3⟩
  · exact absurd h1 hne
  · refine ⟨⟨?_, ?_, by have := h.low; omega⟩, h2, h1⟩
    · rw [List.pairwise_append]
      refine ⟨h.rise, by simp, fun a ha b hb => ?_⟩
      simp at hb
      have := ((h.mem a).1 ha).2.1
      omega
    · intro x
      rw [List.mem_append, h.mem x]
      simp only [List.mem_singleton]
      constructor
      · rintro (⟨a, b, c⟩ | rfl)
        · exact ⟨a, by omega, c⟩
        · exact ⟨by have := h.low; omega, Int.le_refl _, h1⟩
      · rintro ⟨a, b, c⟩
        by_cases hl : x ≤ last
        · exact .inl ⟨a, hl, c⟩
        · have := h3 x c (by omega)
          exact .inr (by omega)

theorem PanesInv.last {pl xs : List Int} {last : Int} (h : PanesInv pl xs last) (he : leastOf last pl = 0) : ∀ x, x ∈ xs ↔ 0 < x ∧ x ∈ pl := by
  rcases leastOf_spec last h.low pl with ⟨-, h2⟩ | ⟨h1, h2, -⟩
  · intro x
    rw [h.mem x]
    exact ⟨fun ⟨a, _, c⟩ => ⟨a, c⟩, fun ⟨a, c⟩ => ⟨a, h2 x c, c⟩⟩
  · have := h.low; omega

theorem isPanes_of_inv {ps : List Part} {xs : List Int} {last : Int} (hok : okParts ps) (h : PanesInv (ps.map (·.pane)) xs last) (he : leastOf last (ps.map (·.pane)) = 0) : IsPanes (flat ps) xs := by
  refine ⟨h.rise, fun x => ?_⟩
  rw [h.last he x, paneIn_flat hok x, List.mem_map]

theorem nodup_len : ∀ {xs pl : List Int}, xs.Pairwise (· < ·) → (∀ x ∈ xs, x ∈ pl) → xs.length ≤ pl.length
  | [], _, _, _ => by simp
  | x :: xs, pl, hp, hm => by
    rw [List.pairwise_cons] at hp
    have h1 : x ∈ pl := hm x (by simp)
    have := nodup_len (pl := pl.erase x) hp.2 fun y hy => by
      have := hp.1 y hy
      rw [List.mem_erase_of_ne (by omega)]
      exact hm y (by simp [hy])
    rw [List.length_erase_of_mem h1] at this
    have := List.length_pos_of_mem h1
    simp only [List.length_cons]
    omega
theorem PanesInv.len {pl xs : List Int} {last : Int} (h : PanesInv pl xs last) : xs.length ≤ pl.length := nodup_len h.rise fun x hx => ((h.mem x).1 hx).2.2

/-- how many panes lie above the last one -/
def above (pl : List Int) (last : Int) : Nat := pl.countP fun p => decide (last < p)
theorem above_less {pl : List Int} {last x : Int} (h : last < x) (hx : x ∈ pl) : above pl x < above pl last := by
  unfold above
  induction pl with
  | nil => simp at hx
  | cons p pl ih =>
    have hmono : (pl.countP fun p => decide (x < p)) ≤ pl.countP fun p => decide (last < p) := List.countP_mono_left fun a _ ha => by simp at ha ⊢; omega
    rw [List.countP_cons, List.countP_cons]
    rcases List.mem_cons.1 hx with rfl | hx
    · rw [if_neg (by simp), if_pos (by simpa using h)]; omega
    · have := ih hx
      by_cases hp : x < p
      · rw [if_pos (by simpa using hp), if_pos (by simp; omega)]; omega
      · rw [if_neg (by simpa using hp)]
        split <;> omega

set_option maxHeartbeats 4000000 in
set_option maxRecDepth 100000 in
theorem rpanes_c (r : Option Nat) (v : Value) (s : St) (w : World) (h : RSt w r v s) (hs : s.fl.length ≤ 1000000) :
    Calls Try.prog 23 #[v] w fun e w' => ∃ v' xs, e = .returned v' ∧ IsPanes s.fl xs ∧ Row w' 3 1 v' xs.length (ints xs) ∧ (∀ k, v'.ownBlock = some k → w.heap.size ≤ k) ∧ Below w.heap.size w w' := by
  obtain ⟨sv, ps, rfl, hR, -, hrl, hfl, hok⟩ := h
  obtain ⟨ao, cap, rfl⟩ := hR.shape
  obtain ⟨i0, hi, hz0, hz1, hz2⟩ := info_parts info3
  have hpl := parts_le hok
  rw [hfl] at hpl
  have hbel : Below w.heap.size w (w.alloc (.cells #[.int .i64 s.limit, .slice ao ps.length cap, .bool s.closed] 29)) := (Below.refl _ _).alloc (Nat.le_refl _) _
  have HR := Lib.hid hR
  have HF := Lib.hid hfl
  have HO := Lib.hid hok
  have hB := Blk.new w 29 #[.int .i64 s.limit, .slice ao ps.length cap, .bool s.closed]
  have HB := Lib.hid hB
  clear hR hfl hok hbel hB
  go_enter Try.func23, Try.ntmps23
  go_wp2
  go_loopw [3, 4] (fun v l wr => ∃ (last : Int) (xs : List Int), l = .int .i64 last ∧ Hid (PanesInv (ps.map (·.pane)) xs last) ∧ Hid (Row wr 3 1 v xs.length (ints xs)) ∧ Hid (∀ k, v.ownBlock = some k → w.heap.size + 1 ≤ k) ∧ Hid (Below w.heap.size w wr) ∧ Hid (Blk wr w.heap.size 29 #[.int .i64 s.limit, .slice ao ps.length cap, .bool s.closed]))
    (fun _ l _ => above (ps.map (·.pane)) (intOf l))
  case atStart => exact ⟨0, [], rfl, Lib.hid ⟨by simp, by simp; omega, by omega⟩, Lib.hid (Row.nil _ _ _), Lib.hid (by simp [Value.ownBlock]), Lib.hid ((Below.refl _ _).alloc (Nat.le_refl _) _), HB⟩
  case round =>
    obtain ⟨last, xs, rfl, HV, HW, HN, HL, HK⟩ := hrel
    have c1 := HK.out.cell 1
    simp only [List.getElem?_toArray, List.getElem?_cons_succ, List.getElem?_cons_zero] at c1
    have hr1 := HR.out.kept (by decide) HL.out
    have HR1 := Lib.hid hr1
    clear hr1 HB
    go_wp2
    go_loop [5, 6] (fun b i => ∃ k : Nat, k ≤ ps.length ∧ i = .int .i64 k ∧ b = .int .i64 (leastOf last ((ps.take k).map (·.pane)))) (fun b i => ps.length - (intOf i).toNat)
    case atStart => exact ⟨0, Nat.zero_le _, rfl, by simp [leastOf]⟩
    case round =>
      obtain ⟨k, hk, rfl, rfl⟩ := hrel
      by_cases hlt : k < ps.length
      · obtain ⟨gg, off, cap', hv, hnc, hc⟩ := HR1.out.at_ (by omega)
        cases hv
        have d1 := hc (k * 3 + 1) _ ((itemsOf_get ps k hlt 1 (by decide)).trans rfl)
        simp only [← Nat.add_assoc] at d1
        clear hc
        have hls : leastOf last ((ps.take (k + 1)).map (·.pane)) = if last < ps[k].pane ∧ (leastOf last ((ps.take k).map (·.pane)) = 0 ∨ ps[k].pane < leastOf last ((ps.take k).map (·.pane))) then ps[k].pane else leastOf last ((ps.take k).map (·.pane)) := by
          rw [List.take_succ_eq_append_getElem hlt, List.map_append, List.map_cons, List.map_nil, leastOf_snoc]
        obtain ⟨b, hb⟩ : ∃ b, leastOf last ((ps.take k).map (·.pane)) = b := ⟨_, rfl⟩
        rw [hb] at hls ⊢
        have HLS := Lib.hid hls
        clear hls hb
        by_cases q1 : last < ps[k].pane
        · have e1 : decide (last < ps[k].pane) = true := by simpa using q1
          by_cases q2 : b = 0
          · subst q2
            go_wp2
            go_round
            case rel => exact ⟨k + 1, by omega, by go_num, by rw [HLS.out, if_pos ⟨q1, .inl rfl⟩]⟩
            case measure => simp [intOf]; omega
          · have e2 : (b == 0) = false := by simpa using q2
            by_cases q3 : ps[k].pane < b
            · have e3 : decide (ps[k].pane < b) = true := by simpa using q3
              go_wp2
              go_round
              case rel => exact ⟨k + 1, by omega, by go_num, by rw [HLS.out, if_pos ⟨q1, .inr q3⟩]⟩
              case measure => simp [intOf]; omega
            · have e3 : decide (ps[k].pane < b) = false := by simpa using q3
              go_wp2
              go_round
              case rel => exact ⟨k + 1, by omega, by go_num, by rw [HLS.out, if_neg (fun h => h.2.elim q2 q3)]⟩
              case measure => simp [intOf]; omega
        · have e1 : decide (last < ps[k].pane) = false := by simpa using q1
          go_wp2
          go_round
          case rel => exact ⟨k + 1, by omega, by go_num, by rw [HLS.out, if_neg (fun h => q1 h.1)]⟩
          case measure => simp [intOf]; omega
      · have hke : k = ps.length := by omega
        subst hke
        rw [List.take_length]
        by_cases q : leastOf last (ps.map (·.pane)) = 0
        · have e1 : (leastOf last (ps.map (·.pane)) == 0) = true := by simpa using q
          have HQ := Lib.hid q
          clear q
          go_wp2
          go_ret

          refine ⟨_, rfl, xs, ?_, HW.out, fun k hk => by have := HN.out k hk; omega, HL.out⟩
          rw [← HF.out]
          exact isPanes_of_inv HO.out HV.out HQ.out
        · have e1 : (leastOf last (ps.map (·.pane)) == 0) = false := by simpa using q
          obtain ⟨z1, z2, z3⟩ := HV.out.next q
          have hxl := HV.out.len
          rw [List.length_map] at hxl
          have hab := above_less z2 z3
          obtain ⟨b, hb⟩ : ∃ b, leastOf last (ps.map (·.pane)) = b := ⟨_, rfl⟩
          rw [hb] at z1 e1 hab ⊢
          have HZ := Lib.hid z1
          have HA := Lib.hid hab
          clear q z1 z2 z3 hab hb
          go_wp2_with (at_builtin; refine wpList_append_row (v := u3) rfl (.tmp 37) (.tmp 39) 48 rfl 3 i0 (.int .i64 0) 1 8 Try.underlying48 hi hz0 hz1 hz2 rfl (by decide) rfl (HW.out.alloc _) rfl (Rd.box _ _ 1 1 _ (by simp) rfl) (by simp [Value.oneCell']) (by simp [maxLen]; omega) (by omega) ?_; intro v' w1 hrow hmod hown; have HR1 := Lib.hid hrow; have HM1 := Lib.hid hmod; have HO1 := Lib.hid hown; clear hrow hmod hown)
          refine ⟨⟨b, xs ++ [b], rfl, HZ, Lib.hid ?_, Lib.hid fun j hj => ?_, Lib.hid (below_mod (HL.out.alloc HL.out.size _) HM1.out ?_ fun i hi hf => ?_), Lib.hid ((HK.out.alloc _).keep HM1.out fun e => ?_)⟩, HA.out⟩
          · have := HR1.out
            simpa [ints] using this
          · have hsz := HL.out.size
            have hlt := HK.out.lt
            rcases HO1.out with h | h
            · exact HN.out j (h.symm.trans hj)
            · rw [h] at hj; injection hj with hj; simp at hj; omega
          · have := HL.out.size; simp; omega
          · have := HN.out i hf; omega
          · have := HN.out _ e; omega
end Go.Proofs.Ytbfmfliknhcoeaa
