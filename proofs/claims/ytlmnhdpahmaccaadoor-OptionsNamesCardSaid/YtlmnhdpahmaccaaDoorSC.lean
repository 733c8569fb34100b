/- OptionsNames, walked. -/
import Derived.Test.YtlmnhdpahmaccaaDoorSB
import Derived.Test.YtlmnhdpahmaccaaDoorRD
import Derived.Test.YtlmnhdpahmaccaaDoorTE
namespace Go.Proofs.YtlmnhdpahmaccaaDoor
open Go.RowKit QP

theorem num_c (c : Int) (w : World) : Calls Tryd.prog 11 #[.int .i64 c] w fun e w' => e = .returned (.int .i64 c) ∧ Hid (Below w.heap.size w w') := by
  go_enter Tryd.func11, Tryd.ntmps11
  go_wp2
  go_ret
  exact ⟨rfl, Lib.hid (Below.refl _ _)⟩

theorem look_nil (p : PK) : look ([] : List (PK × ByteArray)) p = none := rfl
theorem get_same (x : ByteArray) : getVal (look ([] : List (PK × ByteArray))) x 0 0 0 = rgetVal (look ([] : List (PK × ByteArray))) x 0 0 0 := by
  unfold getVal rgetVal
  cases rowOf x with
  | none => rfl
  | some r =>
    have h : ∀ l : List PK, l.findSome? (look ([] : List (PK × ByteArray))) = none := fun l => List.findSome?_eq_none_iff.2 fun p _ => look_nil p
    simp only [h]

/-- in the law's loop -/
structure NAt (W w : World) (k b : Nat) (v : Value) (L : List ByteArray) : Prop where
  bel : Below W.heap.size W w
  o : OptIs w k b []
  rd : Rd w 1 v L.length (strs L)
  sh : ShapesAt w
theorem NAt.below {W w w1 : World} {k b : Nat} {v : Value} {L : List ByteArray} (h : NAt W w k b v L) (hb : Below w.heap.size w w1) : NAt W w1 k b v L := ⟨below_of h.bel hb, h.o.below hb, h.rd.kept (by decide) hb, h.sh.below hb (Nat.le_refl _)⟩
theorem NAt.cell {W w : World} {k b g off n cap : Nat} {L : List ByteArray} (h : NAt W w k b (.slice (some ⟨g, off, none⟩) n cap) L) {j : Nat} {x : ByteArray} (hx : L[j]? = some x) : w.cell? ⟨g, off + j, none⟩ = some (.string x) := by
  have hl : j < L.length := (List.getElem?_eq_some_iff.1 hx).1
  obtain ⟨g', off', cap', hv, -, hc⟩ := h.rd.at_ (by omega)
  injection hv with hv1 hv2 hv3
  injection hv1 with hv1
  injection hv1 with e1 e2 e3
  subst e1 e2
  refine hc j _ ?_
  rw [strs_get L j hl, (List.getElem?_eq_some_iff.1 hx).2]
theorem nat_keep {W w1 w2 : World} {k b g off n cap : Nat} {L : List ByteArray} {j : Nat} {x : ByteArray} (h : Hid (NAt W w1 k b (.slice (some ⟨g, off, none⟩) n cap) L)) (hx : Hid (L[j]? = some x)) (hb : Hid (Below w1.heap.size w1 w2)) :
    w2.cell? ⟨g, off + j, none⟩ = some (.string x) ∧ Hid (NAt W w2 k b (.slice (some ⟨g, off, none⟩) n cap) L) := ⟨(h.out.below hb.out).cell hx.out, Lib.hid (h.out.below hb.out)⟩

theorem names_small : ∀ x ∈ names, x.size ≤ 100 := by decide +kernel

set_option maxHeartbeats 8000000 in
set_option maxRecDepth 100000 in
theorem optionsNames_c (name : ByteArray) (hn : name.size ≤ maxLen) (w : World) (h : ShapesAt w) : Calls Tryd.prog 3 #[.string name] w fun e w' => e = .returned (.bool true) ∧ Below w.heap.size w w' := by
  obtain ⟨i0, hi, hz0, hz1, hz2⟩ := info_parts info9
  have HS := Lib.hid h
  have HN := Lib.hid hn
  clear h hn
  go_enter Tryd.func3, Tryd.ntmps3
  go_wp2_with fail
  refine (names_c _).mono ?_
  rintro e w1 ⟨ao, cap, rfl, hrow1, hown1, hb1⟩
  have HR1 := Lib.hid hrow1
  have HO1 := Lib.hid hown1
  have HB1 := Lib.hid hb1
  clear hrow1 hown1 hb1
  go_wp2_with fail
  refine (rnames_c _).mono ?_
  rintro e w2 ⟨ro, rcap, rfl, hrow2, -, hb2⟩
  have HB12 := Lib.hid (below_of HB1.out hb2)
  have HRL := Lib.hid (HR1.out.below hb2 HR1.out.lt)
  have HRR := Lib.hid hrow2.rd
  clear hrow2 hb2
  go_wp2_with fail
  refine (sameTexts_c names ao ro cap rcap _ HRL.out.rd HRR.out (by decide)).mono ?_
  rintro e w3 ⟨rfl, HB3⟩
  have HB13 := Lib.hid (below_of HB12.out HB3.out)
  have HRL3 := Lib.hid (HRL.out.below HB3.out HRL.out.lt)
  obtain ⟨g, off, cap', cur, hv, hnc, hheap, hcur, hcell, hfz⟩ := HRL3.out.at_ (by decide)
  cases hv
  have c0 := hcell 0 _ (strs_get names 0 (by decide))
  have f0 := hfz off
  rw [Nat.add_zero] at c0
  have hg0 := HO1.out g rfl
  clear hheap hcur hcell hfz HRL HRR HB12
  go_wp2_with fail
  have HB4 : Hid (Below w.heap.size w (w3.setCell ⟨g, off, none⟩ (.string ⟨#[115, 112, 111, 105, 108, 116]⟩))) := Lib.hid (below_mod HB13.out ((Mod.refl (fun j => j = g) w3).setCell (a := ⟨g, off, none⟩) (.inl rfl) _) HB13.out.size fun i hi e => by omega)
  refine (names_c _).mono ?_
  rintro e w5 ⟨ao2, cap2, rfl, hrow5, hown5, hb5⟩
  have HB5 := Lib.hid (below_of HB4.out hb5)
  have hR5 := Lib.hid hrow5
  have HO5 := Lib.hid hown5
  clear c0 f0 hrow5 hown5 hb5
  go_wp2_with fail
  refine (new_c _).mono ?_
  rintro e w6 ⟨k, b, rfl, ho6, hk6, hb6', hkb, hb6⟩
  have HB6 := Lib.hid (below_of HB5.out hb6)
  have HR6 := Lib.hid (hR5.out.below hb6 hR5.out.lt)
  have HOP6 := Lib.hid ho6
  have hlt5 := hR5.out.lt
  clear ho6 hb6
  go_wp2_with fail
  refine (rnames_c _).mono ?_
  rintro e w7 ⟨ro2, rcap2, rfl, hrow7, -, hb7⟩
  have HB7 := Lib.hid (below_of HB6.out hb7)
  have HR7 := Lib.hid (HR6.out.below hb7 HR6.out.lt)
  have HRR7 := Lib.hid hrow7.rd
  have HOP7 := Lib.hid (HOP6.out.below hb7)
  clear hrow7 hb7
  go_wp2_with fail
  refine (sameTexts_c names ao2 ro2 cap2 rcap2 _ HR7.out.rd HRR7.out (by decide)).mono ?_
  rintro e w8 ⟨rfl, HB78⟩
  have HB8 := Lib.hid (below_of HB7.out HB78.out)
  have HR8 := Lib.hid (HR7.out.below HB78.out HR7.out.lt)
  have HOP8 := Lib.hid (HOP7.out.below HB78.out)
  go_wp2_with (at_builtin; refine wpList_append_row (v := .slice ao2 22 cap2) rfl (.tmp 28) (.tmp 30) 22 rfl 9 i0 (.string ⟨#[]⟩) 1 16 Tryd.underlying22 hi hz0 hz1 hz2 rfl (by decide) rfl (HR8.out.alloc _) rfl (Rd.box _ _ 1 1 _ (by simp) rfl) (by simp [Value.oneCell']) (by decide) (by decide) ?_; intro v' w9 hrow hmod hown; have HR9 := Lib.hid hrow; have HM9 := Lib.hid hmod; clear hrow hmod hown; obtain ⟨ao9, cap9, hv9, -⟩ := id HR9.out; subst hv9)
  simp only [Nat.reduceAdd] at HR9 ⊢
  obtain ⟨L, hL⟩ : ∃ L, names ++ [name] = L := ⟨_, rfl⟩
  have hLl : L.length = 23 := by rw [← hL]; rfl
  have hLs : ∀ x ∈ L, x.size ≤ maxLen := by
    rw [← hL]
    intro x hx
    rcases List.mem_append.1 hx with hx | hx
    · have := names_small x hx
      simp only [maxLen]; omega
    · simp at hx; subst hx; exact HN.out
  have HLS := Lib.hid hLs
  have hw9 : Below w.heap.size w w9 := below_mod (below_box HB8.out _) HM9.out (by have := HB8.out.size; simp; omega) fun i hi hf => by have := HO5.out i hf; have := HB4.out.size; omega
  have hkn : ¬ (Value.slice ao2 22 cap2).ownBlock = some k := fun e => by have := hlt5 k e; omega
  have hbn : ¬ (Value.slice ao2 22 cap2).ownBlock = some b := fun e => by have := hlt5 b e; omega
  have hrd : Rd w9 1 (.slice ao9 23 cap9) L.length (strs L) := by
    have := HR9.out.rd
    rw [hLl, ← hL]
    simpa [strs] using this
  have hat : NAt w w9 k b (.slice ao9 23 cap9) L := ⟨hw9, (HOP8.out.below ((Below.refl _ _).alloc (Nat.le_refl _) _)).mod HM9.out hkn hbn, hrd, HS.out.below hw9 (Nat.le_refl _)⟩
  obtain ⟨g9, off9, cap9', hv9, hnc9, -⟩ := hrd.at_ (by omega)
  rw [hLl] at hv9
  cases hv9
  have HA := Lib.hid hat
  clear hat hrd hkn hbn hw9 hLs hL HR9 HM9 HOP8 HR8 HB78 HB8 HOP7 HRR7 HR7 HB7 hlt5 HOP6 HR6 HB6 hkb hb6' hk6 HO5 hR5 HB5 HB4 HRL3 HO1 HR1 HB13 HB3 HB1 HN
  go_loopw [6] (fun i wr => ∃ j : Nat, j ≤ 23 ∧ i = .int .i64 j ∧ Hid (NAt w wr k b (.slice (some ⟨g9, off9, none⟩) 23 cap9) L)) (fun i _ => 23 - (intOf i).toNat)
  case atStart => exact ⟨0, Nat.zero_le _, rfl, HA⟩
  case round =>
    clear HA
    obtain ⟨j, hj, rfl, HA⟩ := hrel
    by_cases hlt : j < 23
    · have hj0 : (0 : Int) ≤ (j : Int) := by omega
      have hj1 : (j : Int) < 23 := by omega
      have hx : L[j]? = some (L[j]'(by omega)) := List.getElem?_eq_getElem (by omega)
      have hxs := HLS.out (L[j]'(by omega)) (List.getElem_mem _)
      obtain ⟨x, hxe⟩ : ∃ x, L[j]'(by omega) = x := ⟨_, rfl⟩
      rw [hxe] at hx hxs
      have HX := Lib.hid hx
      have hpk : OkPk (1, 0, x) := okpk (by decide) (by decide) (by decide) hxs
      have c0 := HA.out.cell hx
      have hget := get_c k b [] x 0 0 0 wr HA.out.o hpk hpk hpk
      have hrg := rget_c [] none 0 x 0 0 0
      rw [get_same] at hget
      obtain ⟨a, ha⟩ : ∃ a, (rgetVal (look ([] : List (PK × ByteArray))) x 0 0 0).1 = a := ⟨_, rfl⟩
      obtain ⟨c, hc⟩ : ∃ c, (rgetVal (look ([] : List (PK × ByteArray))) x 0 0 0).2 = c := ⟨_, rfl⟩
      rw [ha, hc] at hget
      simp only [ha, hc] at hrg
      obtain ⟨sc, hsc⟩ : ∃ sc, (ofRow x).scope = sc := ⟨_, rfl⟩
      have hS1 := scope_c x
      have hS2 := rscope_c x
      rw [hsc] at hS1 hS2
      clear hx hxs hxe hpk ha hc hsc
      go_wp2_with fail
      refine hget.mono ?_
      rintro e w1 ⟨rfl, HB1⟩
      have HA1 := Lib.hid (HA.out.below HB1.out)
      have c1 := HA1.out.cell HX.out
      clear c0
      go_wp2_with fail
      refine (hrg _ (RSet.nil _)).mono ?_
      rintro e w2 ⟨rfl, HB2⟩
      have HA2 := Lib.hid (HA1.out.below HB2.out)
      have HA2D := Lib.hid (HA2.out.below (w1 := w2.drew) (below_drewN (Below.refl _ _) 1))
      have HRF := Lib.hid (Below.refl w2.drew.heap.size w2.drew)
      clear c1 hget hrg
      go_wp2_with fail
      go_region_held3 (fun w' => w'.cell? ⟨g9, off9 + j, none⟩ = some (.string x) ∧ Hid (NAt w w' k b (.slice (some ⟨g9, off9, none⟩) 23 cap9) L))
        (first | exact nat_keep HA2D HX HRF | (go_split_ands; exact nat_keep (by assumption) HX (by assumption)))
        (first
          | (go_at_call 11; refine (num_c _ _).mono ?_; rintro e w' ⟨rfl, HB⟩)
          | (go_at_call 12; refine (hS1 _).mono ?_; rintro e w' ⟨rfl, HB⟩)
          | (go_at_call 13; refine (hS2 _).mono ?_; rintro e w' ⟨rfl, HB⟩))
      all_goals
        rename_i hh
        obtain ⟨-, HH⟩ := hh
        go_wp2
        go_roundw
        case rel => exact ⟨j + 1, by omega, by go_num, HH⟩
        case measure => simp [intOf]; omega
    · have hje : j = 23 := by omega
      subst hje
      go_wp2_with fail
      refine (sure_c _ HA.out.sh).mono ?_
      rintro e w1 ⟨rfl, HB1⟩
      go_wp2
      go_ret
      exact ⟨rfl, below_of HA.out.bel HB1.out⟩
end Go.Proofs.YtlmnhdpahmaccaaDoor
