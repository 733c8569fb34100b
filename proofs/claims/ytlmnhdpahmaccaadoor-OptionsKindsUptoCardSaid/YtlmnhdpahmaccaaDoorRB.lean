/- the document's answer: Row1, Names, Scope, at. -/
import Derived.Test.YtlmnhdpahmaccaaDoorRA
import Derived.Test.YtlmnhdpahmaccaaDoorTC
namespace Go.Proofs.YtlmnhdpahmaccaaDoor
open Go.RowKit QP

theorem rrow_at {w : World} {g i b : Nat} (h : Rd w 7 (.slice (some ⟨g, 0, none⟩) 22 22) 22 (rrowsCells b table)) (hi : i < table.length) :
    w.cell? ⟨g, i * 7, none⟩ = some (.string table[i].name) ∧ w.cell? ⟨g, i * 7 + 1, none⟩ = some (.int .i64 table[i].scope) ∧ w.cell? ⟨g, i * 7 + 2, none⟩ = some (.int .u8 (rkind table[i].kind)) ∧ w.cell? ⟨g, i * 7 + 3, none⟩ = some (.int .i64 table[i].lo) ∧
      w.cell? ⟨g, i * 7 + 4, none⟩ = some (.int .i64 table[i].hi) ∧ w.cell? ⟨g, i * 7 + 5, none⟩ = some (.slice (waOf b table[i].words) (wnOf table[i].words) (wnOf table[i].words)) ∧ w.cell? ⟨g, i * 7 + 6, none⟩ = some (.string table[i].first) := by
  obtain ⟨g', off, cap, hv, -, hc⟩ := h.at_ (by decide)
  cases hv
  have key : ∀ j, j < 7 → ∀ u, (rrowCells b table[i])[j]? = some u → w.cell? ⟨g, i * 7 + j, none⟩ = some u := fun j hj u hu => by
    have := hc (i * 7 + j) u ((rrowsCells_get b table i hi j hj).trans hu)
    rwa [Nat.zero_add] at this
  exact ⟨key 0 (by decide) _ rfl, key 1 (by decide) _ rfl, key 2 (by decide) _ rfl, key 3 (by decide) _ rfl, key 4 (by decide) _ rfl, key 5 (by decide) _ rfl, key 6 (by decide) _ rfl⟩

structure RTabAt (w w1 : World) (g k b : Nat) : Prop where
  bel : Below w.heap.size w w1
  tab : Rd w1 7 (.slice (some ⟨g, 0, none⟩) 22 22) 22 (rrowsCells b table)
  box : Blk w1 k 48 #[.string ⟨#[]⟩, .int .i64 0, .int .u8 0, .int .i64 0, .int .i64 0, .slice none 0 0, .string ⟨#[]⟩]
  wds : WordsAt w1 b
theorem RTabAt.below {w w1 w2 : World} {g k b : Nat} (h : RTabAt w w1 g k b) (hb : Below w1.heap.size w1 w2) : RTabAt w w2 g k b :=
  ⟨below_of h.bel hb, h.tab.kept (by decide) hb, h.box.below_ hb, h.wds.below hb⟩

set_option maxHeartbeats 4000000 in
set_option maxRecDepth 100000 in
theorem rof_c (name : ByteArray) (w : World) : Calls Tryd.prog 24 #[.string name] w fun e w' => ∃ b wa wn, wa = waOf b (ofRow name).words ∧ wn = wnOf (ofRow name).words ∧ w.heap.size ≤ b ∧
    e = .returned (.tuple #[.agg #[.string (ofRow name).name, .int .i64 (ofRow name).scope, .int .u8 (rkind (ofRow name).kind), .int .i64 (ofRow name).lo, .int .i64 (ofRow name).hi, .slice wa wn wn, .string (ofRow name).first], .bool (rowOf name).isSome]) ∧ Hid (WordsAt w' b) ∧ Hid (Below w.heap.size w w') := by
  go_enter Tryd.func24, Tryd.ntmps24
  go_wp2_with fail
  refine (rrows_c _).mono ?_
  rintro e w1 ⟨g, rfl, hr, hw, hb⟩
  have hk := Blk.new w 48 #[.string ⟨#[]⟩, .int .i64 0, .int .u8 0, .int .i64 0, .int .i64 0, .slice none 0 0, .string ⟨#[]⟩]
  have e1 : (w.alloc (.cells #[.string ⟨#[]⟩, .int .i64 0, .int .u8 0, .int .i64 0, .int .i64 0, .slice none 0 0, .string ⟨#[]⟩] 48)).heap.size = w.heap.size + 1 := by simp
  rw [e1] at hr hw
  have HT : Hid (RTabAt w w1 g w.heap.size (w.heap.size + 1)) := Lib.hid ⟨((Below.refl _ _).alloc (Nat.le_refl _) _).trans (hb.mono (by simp)), hr, hk.below_ hb, hw⟩
  clear hr hb hk hw e1
  go_wp2
  go_loopw [5] (fun i wr => ∃ k : Nat, k ≤ 22 ∧ i = .int .i64 k ∧ Hid ((table.take k).find? (fun r => sameS r.name name) = none) ∧ Hid (RTabAt w wr g w.heap.size (w.heap.size + 1))) (fun i _ => 22 - (intOf i).toNat)
  case atStart => exact ⟨0, Nat.zero_le _, rfl, Lib.hid rfl, HT⟩
  case round =>
    clear HT
    obtain ⟨k, hk, rfl, HN, HT⟩ := hrel
    by_cases hlt : k < 22
    · have hlt' : k < table.length := hlt
      obtain ⟨r0, r1, r2, r3, r4, r5, r6⟩ := rrow_at HT.out.tab hlt'
      have hk0 : (0 : Int) ≤ (k : Int) := by omega
      have hk1 : (k : Int) < 22 := by omega
      obtain ⟨r, hrk⟩ : ∃ r, table[k] = r := ⟨_, rfl⟩
      rw [hrk] at r0 r1 r2 r3 r4 r5 r6
      have HRK := Lib.hid hrk
      clear hrk
      cases he : sameS r.name name with
      | true =>
        have hf : rowOf name = some r := by rw [← HRK.out]; exact find_at HN.out hlt' (by rw [HRK.out]; exact he)
        have hr : ofRow name = r := by unfold ofRow; rw [hf]; rfl
        have h2 : (r.name.toList == name.toList) = true := (sameS_beq _ _).trans he
        have HF := Lib.hid hf
        have HRR := Lib.hid hr
        obtain ⟨z0, z1, z2, z3, z4, z5, z6, f0, f1, f2, f3, f4, f5, f6⟩ := seven HT.out.box
        obtain ⟨wa, hwa⟩ : ∃ wa, waOf (w.heap.size + 1) r.words = wa := ⟨_, rfl⟩
        obtain ⟨wn, hwn⟩ : ∃ wn, wnOf r.words = wn := ⟨_, rfl⟩
        rw [hwa, hwn] at r5
        have HWA := Lib.hid hwa
        have HWN := Lib.hid hwn
        obtain ⟨kc, hkc⟩ : ∃ kc, rkind r.kind = kc := ⟨_, rfl⟩
        rw [hkc] at r2
        have HKC := Lib.hid hkc
        clear hf hr he hwa hwn hkc
        go_wp2
        refine bodyPost_ret (v := .tuple #[.agg #[.string r.name, .int .i64 r.scope, .int .u8 kc, .int .i64 r.lo, .int .i64 r.hi, .slice wa wn wn, .string r.first], .bool true]) (by simp [results, Tryd.results24, go_sem, z0, z1, z2, z3, z4, z5, z6]) rfl ?_
        have hm := mod7 wr w.heap.size (.string r.name) (.int .i64 r.scope) (.int .u8 kc) (.int .i64 r.lo) (.int .i64 r.hi) (.slice wa wn wn) (.string r.first)
        have hb := below_mod HT.out.bel hm HT.out.bel.size fun i hi e => by omega
        have hws : ∀ j, w.heap.size + 1 ≤ j → ¬ (j = w.heap.size) := fun j hj e => by omega
        exact ⟨w.heap.size + 1, wa, wn, by rw [HRR.out, HWA.out], by rw [HRR.out, HWN.out], by omega, by rw [HRR.out, HF.out, HKC.out]; rfl, Lib.hid ⟨HT.out.wds.w1.keep hm (hws _ (by omega)), HT.out.wds.w2.keep hm (hws _ (by omega)), HT.out.wds.w3.keep hm (hws _ (by omega))⟩, Lib.hid hb⟩
      | false =>
        have h2 : (r.name.toList == name.toList) = false := (sameS_beq _ _).trans he
        have HE := Lib.hid he
        clear he
        go_wp2
        go_roundw
        case rel => exact ⟨k + 1, by omega, by go_num, Lib.hid (find_next HN.out hlt' (by rw [HRK.out]; exact HE.out)), HT⟩
        case measure => simp [intOf]; omega
    · have hke : k = 22 := by omega
      subst hke
      have hf : rowOf name = none := HN.out
      have hr : ofRow name = zeroRow := by unfold ofRow; rw [hf]; rfl
      have HF := Lib.hid hf
      have HRR := Lib.hid hr
      obtain ⟨z0, z1, z2, z3, z4, z5, z6, f0, f1, f2, f3, f4, f5, f6⟩ := seven HT.out.box
      clear hf hr
      go_wp2
      refine bodyPost_ret (v := .tuple #[.agg #[.string ⟨#[]⟩, .int .i64 0, .int .u8 0, .int .i64 0, .int .i64 0, .slice none 0 0, .string ⟨#[]⟩], .bool false]) (by simp [results, Tryd.results24, go_sem, z0, z1, z2, z3, z4, z5, z6]) rfl ?_
      have hm := mod7 wr w.heap.size (.string ⟨#[]⟩) (.int .i64 0) (.int .u8 0) (.int .i64 0) (.int .i64 0) (.slice none 0 0) (.string ⟨#[]⟩)
      have hb := below_mod HT.out.bel hm HT.out.bel.size fun i hi e => by omega
      have hws : ∀ j, w.heap.size + 1 ≤ j → ¬ (j = w.heap.size) := fun j hj e => by omega
      exact ⟨w.heap.size + 1, none, 0, by rw [HRR.out]; rfl, by rw [HRR.out]; rfl, by omega, by rw [HRR.out, HF.out]; rfl, Lib.hid ⟨HT.out.wds.w1.keep hm (hws _ (by omega)), HT.out.wds.w2.keep hm (hws _ (by omega)), HT.out.wds.w3.keep hm (hws _ (by omega))⟩, Lib.hid hb⟩

end Go.Proofs.YtlmnhdpahmaccaaDoor
