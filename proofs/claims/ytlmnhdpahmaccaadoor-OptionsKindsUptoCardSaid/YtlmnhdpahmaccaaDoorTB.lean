/- options: of, Names, Scope, New. -/
import Derived.Test.YtlmnhdpahmaccaaDoorTA
namespace Go.Proofs.YtlmnhdpahmaccaaDoor
open Go.RowKit QP

theorem row_at {w : World} {g i : Nat} (h : Rd w 7 (.slice (some ⟨g, 0, none⟩) 22 22) 22 (rowsCells table)) (hi : i < table.length) :
    w.cell? ⟨g, i * 7, none⟩ = some (.string table[i].name) ∧ w.cell? ⟨g, i * 7 + 1, none⟩ = some (.int .i64 table[i].scope) ∧ w.cell? ⟨g, i * 7 + 2, none⟩ = some (.int .i64 table[i].kind) ∧ w.cell? ⟨g, i * 7 + 3, none⟩ = some (.int .i64 table[i].lo) ∧
      w.cell? ⟨g, i * 7 + 4, none⟩ = some (.int .i64 table[i].hi) ∧ w.cell? ⟨g, i * 7 + 5, none⟩ = some (.string table[i].words) ∧ w.cell? ⟨g, i * 7 + 6, none⟩ = some (.string table[i].first) := by
  obtain ⟨g', off, cap, hv, -, hc⟩ := h.at_ (by decide)
  cases hv
  have key : ∀ j, j < 7 → ∀ u, (rowCells table[i])[j]? = some u → w.cell? ⟨g, i * 7 + j, none⟩ = some u := fun j hj u hu => by
    have := hc (i * 7 + j) u ((rowsCells_get table i hi j hj).trans hu)
    rwa [Nat.zero_add] at this
  exact ⟨key 0 (by decide) _ rfl, key 1 (by decide) _ rfl, key 2 (by decide) _ rfl, key 3 (by decide) _ rfl, key 4 (by decide) _ rfl, key 5 (by decide) _ rfl, key 6 (by decide) _ rfl⟩

theorem find_at {α : Type} {p : α → Bool} {l : List α} {k : Nat} (h0 : (l.take k).find? p = none) (hk : k < l.length) (he : p l[k] = true) : l.find? p = some l[k] := by
  conv => lhs; rw [← List.take_append_drop k l]
  rw [List.find?_append, h0, List.drop_eq_getElem_cons hk, List.find?_cons, he]
  rfl
theorem find_next {α : Type} {p : α → Bool} {l : List α} {k : Nat} (h0 : (l.take k).find? p = none) (hk : k < l.length) (he : p l[k] = false) : (l.take (k + 1)).find? p = none := by
  rw [List.take_succ_eq_append_getElem hk, List.find?_append, h0, List.find?_cons, he]
  rfl

/-- the table stands in block g, the result's box in block k -/
structure TabAt (w w1 : World) (g k : Nat) (r : ORow) : Prop where
  bel : Below w.heap.size w w1
  tab : Rd w1 7 (.slice (some ⟨g, 0, none⟩) 22 22) 22 (rowsCells table)
  box : Blk w1 k 54 #[.string r.name, .int .i64 r.scope, .int .i64 r.kind, .int .i64 r.lo, .int .i64 r.hi, .string r.words, .string r.first]
theorem TabAt.below {w w1 w2 : World} {g k : Nat} {r : ORow} (h : TabAt w w1 g k r) (hb : Below w1.heap.size w1 w2) : TabAt w w2 g k r :=
  ⟨below_of h.bel hb, h.tab.kept (by decide) hb, h.box.below_ hb⟩
theorem seven {w : World} {k : Nat} {t : TypeId} {c0 c1 c2 c3 c4 c5 c6 : Value} (h : Blk w k t #[c0, c1, c2, c3, c4, c5, c6]) :
    w.cell? ⟨k, 0, none⟩ = some c0 ∧ w.cell? ⟨k, 1, none⟩ = some c1 ∧ w.cell? ⟨k, 2, none⟩ = some c2 ∧ w.cell? ⟨k, 3, none⟩ = some c3 ∧ w.cell? ⟨k, 4, none⟩ = some c4 ∧ w.cell? ⟨k, 5, none⟩ = some c5 ∧ w.cell? ⟨k, 6, none⟩ = some c6 ∧
      w.frozen? ⟨k, 0, none⟩ = false ∧ w.frozen? ⟨k, 1, none⟩ = false ∧ w.frozen? ⟨k, 2, none⟩ = false ∧ w.frozen? ⟨k, 3, none⟩ = false ∧ w.frozen? ⟨k, 4, none⟩ = false ∧ w.frozen? ⟨k, 5, none⟩ = false ∧ w.frozen? ⟨k, 6, none⟩ = false :=
  ⟨h.cell 0, h.cell 1, h.cell 2, h.cell 3, h.cell 4, h.cell 5, h.cell 6, h.frozen 0, h.frozen 1, h.frozen 2, h.frozen 3, h.frozen 4, h.frozen 5, h.frozen 6⟩
theorem mod7 (w : World) (k : Nat) (y0 y1 y2 y3 y4 y5 y6 : Value) :
    Mod (fun j => j = k) w (((((((w.setCell ⟨k, 0, none⟩ y0).setCell ⟨k, 1, none⟩ y1).setCell ⟨k, 2, none⟩ y2).setCell ⟨k, 3, none⟩ y3).setCell ⟨k, 4, none⟩ y4).setCell ⟨k, 5, none⟩ y5).setCell ⟨k, 6, none⟩ y6) :=
  ((((((((Mod.refl (fun j => j = k) w).setCell (a := ⟨k, 0, none⟩) (.inl rfl) _).setCell (a := ⟨k, 1, none⟩) (.inl rfl) _).setCell (a := ⟨k, 2, none⟩) (.inl rfl) _).setCell (a := ⟨k, 3, none⟩) (.inl rfl) _).setCell (a := ⟨k, 4, none⟩) (.inl rfl) _).setCell (a := ⟨k, 5, none⟩) (.inl rfl) _).setCell (a := ⟨k, 6, none⟩) (.inl rfl) _)

set_option maxHeartbeats 4000000 in
set_option maxRecDepth 100000 in
theorem of_c (name : ByteArray) (w : World) : Calls Tryd.prog 23 #[.string name] w fun e w' => e = .returned (.tuple #[.agg #[.string (ofRow name).name, .int .i64 (ofRow name).scope, .int .i64 (ofRow name).kind, .int .i64 (ofRow name).lo, .int .i64 (ofRow name).hi, .string (ofRow name).words, .string (ofRow name).first], .bool (rowOf name).isSome]) ∧ Hid (Below w.heap.size w w') := by
  go_enter Tryd.func23, Tryd.ntmps23
  go_wp2_with fail
  refine (table_c _).mono ?_
  rintro e w1 ⟨g, rfl, hg, hr, hb⟩
  have hk := Blk.new w 54 #[.string ⟨#[]⟩, .int .i64 0, .int .i64 0, .int .i64 0, .int .i64 0, .string ⟨#[]⟩, .string ⟨#[]⟩]
  have HT : Hid (TabAt w w1 g w.heap.size zeroRow) := Lib.hid ⟨((Below.refl _ _).alloc (Nat.le_refl _) _).trans (hb.mono (by simp)), hr, hk.below_ hb⟩
  clear hg hr hb hk
  go_wp2
  go_loopw [8] (fun i wr => ∃ k : Nat, k ≤ 22 ∧ i = .int .i64 k ∧ Hid ((table.take k).find? (fun r => sameS r.name name) = none) ∧ Hid (TabAt w wr g w.heap.size zeroRow)) (fun i _ => 22 - (intOf i).toNat)
  case atStart => exact ⟨0, Nat.zero_le _, rfl, Lib.hid rfl, HT⟩
  case round =>
    clear HT
    obtain ⟨k, hk, rfl, HN, HT⟩ := hrel
    by_cases hlt : k < 22
    · have hlt' : k < table.length := hlt
      obtain ⟨r0, r1, r2, r3, r4, r5, r6⟩ := row_at HT.out.tab hlt'
      have hk0 : (0 : Int) ≤ (k : Int) := by omega
      have hk1 : (k : Int) < 22 := by omega
      have hbl := HT.out.box.lt
      have hgl := HT.out.tab.lt (by decide) (by decide) g rfl
      obtain ⟨r, hrk⟩ : ∃ r, table[k] = r := ⟨_, rfl⟩
      rw [hrk] at r0 r1 r2 r3 r4 r5 r6
      have HRK := Lib.hid hrk
      clear hrk
      cases he : sameS r.name name with
      | true =>
        have hf : rowOf name = some r := by rw [← HRK.out]; exact find_at HN.out hlt' (by rw [HRK.out]; exact he)
        have hr : ofRow name = r := by unfold ofRow; rw [hf]; rfl
        have h2 : (r.name.toList == name.toList) = true := (sameS_beq _ _).trans he
        have HF := Lib.hid hf
        have HRR := Lib.hid hr
        obtain ⟨z0, z1, z2, z3, z4, z5, z6, f0, f1, f2, f3, f4, f5, f6⟩ := seven HT.out.box
        clear hf hr he
        go_wp2
        refine bodyPost_ret (v := .tuple #[.agg #[.string r.name, .int .i64 r.scope, .int .i64 r.kind, .int .i64 r.lo, .int .i64 r.hi, .string r.words, .string r.first], .bool true]) (by simp [results, Tryd.results23, go_sem, hbl, z0, z1, z2, z3, z4, z5, z6]) rfl ?_
        have hm := mod7 wr w.heap.size (.string r.name) (.int .i64 r.scope) (.int .i64 r.kind) (.int .i64 r.lo) (.int .i64 r.hi) (.string r.words) (.string r.first)
        have hb := below_mod HT.out.bel hm HT.out.bel.size fun i hi e => by omega
        refine ⟨by rw [HRR.out, HF.out]; rfl, Lib.hid (below_box hb _)⟩
      | false =>
        have h2 : (r.name.toList == name.toList) = false := (sameS_beq _ _).trans he
        have HE := Lib.hid he
        clear he
        go_wp2
        go_roundw
        case rel => exact ⟨k + 1, by omega, by go_num, Lib.hid (find_next HN.out hlt' (by rw [HRK.out]; exact HE.out)), Lib.hid (HT.out.below ((Below.refl _ _).alloc (Nat.le_refl _) _))⟩
        case measure => simp [intOf]; omega
    · have hke : k = 22 := by omega
      subst hke
      have hf : rowOf name = none := HN.out
      have hr : ofRow name = zeroRow := by unfold ofRow; rw [hf]; rfl
      have HF := Lib.hid hf
      have HRR := Lib.hid hr
      obtain ⟨z0, z1, z2, z3, z4, z5, z6, f0, f1, f2, f3, f4, f5, f6⟩ := seven HT.out.box
      clear hf hr
      go_wp2
      refine bodyPost_ret (v := .tuple #[.agg #[.string ⟨#[]⟩, .int .i64 0, .int .i64 0, .int .i64 0, .int .i64 0, .string ⟨#[]⟩, .string ⟨#[]⟩], .bool false]) (by simp [results, Tryd.results23, go_sem, z0, z1, z2, z3, z4, z5, z6]) rfl ?_
      have hm := mod7 wr w.heap.size (.string ⟨#[]⟩) (.int .i64 0) (.int .i64 0) (.int .i64 0) (.int .i64 0) (.string ⟨#[]⟩) (.string ⟨#[]⟩)
      have hb := below_mod HT.out.bel hm HT.out.bel.size fun i hi e => by omega
      exact ⟨by rw [HRR.out, HF.out]; rfl, Lib.hid hb⟩

set_option maxHeartbeats 1000000 in
set_option maxRecDepth 100000 in
theorem scope_c (name : ByteArray) (w : World) : Calls Tryd.prog 12 #[.string name] w fun e w' => e = .returned (.int .i64 (ofRow name).scope) ∧ Hid (Below w.heap.size w w') := by
  go_enter Tryd.func12, Tryd.ntmps12
  go_wp2_with fail
  refine (of_c _ _).mono ?_
  rintro e w1 ⟨rfl, HB⟩
  go_wp2
  go_ret
  exact ⟨rfl, Lib.hid (below_box HB.out _)⟩

theorem info9 : (Tryd.prog.info? 9).map (fun i => (i.zero, i.size, i.bytes)) = some (some (.string ⟨#[]⟩), 1, 16) := by kernel_rfl
end Go.Proofs.YtlmnhdpahmaccaaDoor
