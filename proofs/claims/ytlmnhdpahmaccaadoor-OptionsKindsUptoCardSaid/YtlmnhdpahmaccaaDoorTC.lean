/- options: New, Get. -/
import Derived.Test.YtlmnhdpahmaccaaDoorTB
import Derived.DeepKeys5
import Derived.Carry
namespace Go.Proofs.YtlmnhdpahmaccaaDoor
open Go.RowKit QP

theorem Row.box {w : World} (cs : Array Value) (t : TypeId) (sz n k : Nat) (hk : k = w.heap.size) (hl : cs.size = n * sz) (hm : n ≤ maxLen) : Row (w.alloc (.cells cs t)) t sz (.slice (some ⟨k, 0, none⟩) n n) n cs.toList := by
  subst hk
  refine ⟨_, _, rfl, by simpa using hl, Nat.le_refl _, hm, fun _ => ⟨_, 0, cs, rfl, Blk.new w t cs, by omega, ?_⟩, fun k hk => ?_⟩
  · rw [List.drop_zero, List.take_of_length_le (by simp; omega)]
  · simp [Value.ownBlock] at hk
    subst hk
    simp

/-! ### the map of what is set -/
abbrev PK := Int × Int × ByteArray
def pkVal (p : PK) : Value := .agg #[.int .i64 p.1, .int .i64 p.2.1, .string p.2.2]
def C : Enc Tryd.prog 62 PK ByteArray where
  key := pkVal
  val := .string
  inj := by
    rintro ⟨a, b, s⟩ ⟨a', b', s'⟩ h
    simp only [pkVal, Value.agg.injEq, Array.mk.injEq, List.cons.injEq, Value.int.injEq, Value.string.injEq, and_true, true_and] at h
    obtain ⟨rfl, rfl, rfl⟩ := h
    rfl
theorem keyed : Maps.Keyed Tryd.prog 62 := Maps.Keyed.of_law (deep_law_laid (P := Tryd.prog) (by kernel_rfl) (m := 4) (by omega) (by decide +kernel) (by kernel_rfl) (by rw [Tryd.underlying62]))
structure OkPk (p : PK) : Prop where
  a0 : -9223372036854775808 ≤ p.1
  a1 : p.1 ≤ 9223372036854775807
  b0 : -9223372036854775808 ≤ p.2.1
  b1 : p.2.1 ≤ 9223372036854775807
  s : p.2.2.size ≤ maxLen
theorem wf_i64 {n : Int} (h0 : -9223372036854775808 ≤ n) (h1 : n ≤ 9223372036854775807) : (Lit.int .i64 n).wf = true := by
  simp [Lit.wf, IntKind.min, IntKind.max, IntKind.signed, IntKind.bits]
  omega
theorem size_types : ∃ m, Tryd.prog.types.size = m + 2 := ⟨Tryd.prog.types.size - 2, by rw [Nat.sub_add_cancel (by decide +kernel)]⟩
theorem cells_place : Tryd.prog.cellsOf 62 = 3 := by kernel_rfl
theorem cells_int : Tryd.prog.cellsOf 3 = 1 := by kernel_rfl
theorem cells_str : Tryd.prog.cellsOf 9 = 1 := by kernel_rfl
theorem keytype_place : Tryd.prog.keyType 62 = true := by kernel_rfl
theorem keyOf_place {p : PK} (h : OkPk p) : ∃ l, keyOf Tryd.prog 62 (pkVal p) = some l := by
  obtain ⟨m, hm⟩ := size_types
  have h1 := wf_i64 h.a0 h.a1
  have h2 := wf_i64 h.b0 h.b1
  have h3 := h.s
  have hf : (pkVal p).formed Tryd.prog 62 = true := by
    simp [pkVal, Value.formed, Tryd.underlying62, cells_place]
  unfold keyOf
  rw [Tryd.underlying62]
  simp only [keytype_place, hf, Bool.and_self, if_true]
  rw [hm]
  simp [pkVal, Value.cells, Program.keyLits, Tryd.underlying62, Tryd.underlying3, Tryd.underlying9, cells_place, cells_int, cells_str, h1, h2, h3]
theorem zero_str (w : World) : (zeroValue 9).run Tryd.prog w = .ok (.string ⟨#[]⟩) w := by kernel_rfl

/-- an Options value at block k, its map at block b -/
structure OptIs (w : World) (k b : Nat) (E : List (PK × ByteArray)) : Prop where
  box : Blk w k 57 #[.map (some b)]
  map : MapIs C w b E
theorem OptIs.below {w w1 : World} {k b : Nat} {E : List (PK × ByteArray)} (h : OptIs w k b E) (hb : Below w.heap.size w w1) : OptIs w1 k b E := ⟨h.box.below_ hb, h.map.below hb h.map.lt⟩
theorem OptIs.mod {F : Nat → Prop} {w w1 : World} {k b : Nat} {E : List (PK × ByteArray)} (h : OptIs w k b E) (hm : Mod F w w1) (hk : ¬ F k) (hb : ¬ F b) : OptIs w1 k b E := ⟨h.box.keep hm hk, h.map.mod hm hb⟩

set_option maxRecDepth 100000 in
theorem new_c (w : World) : Calls Tryd.prog 8 #[] w fun e w' => ∃ k b, e = .returned (.pointer (some ⟨k, 0, none⟩)) ∧ OptIs w' k b [] ∧ w.heap.size ≤ k ∧ w.heap.size ≤ b ∧ k ≠ b ∧ Below w.heap.size w w' := by
  go_enter Tryd.func8, Tryd.ntmps8
  go_wp2_with (refine wpList_map_make 55 rfl rfl ?_)
  go_ret
  exact ⟨w.heap.size + 1, w.heap.size, rfl, ⟨by simpa using Blk.new (w.alloc (.map #[] 0)) 57 #[.map (some w.heap.size)], (MapIs.new w 0).alloc _⟩, by omega, by omega, by omega, ((Below.refl _ _).alloc (Nat.le_refl _) _).alloc (by simp) _⟩

def placesOf (sc : Int) (name : ByteArray) (s wi p : Int) : List PK :=
  (if sc = 2 then [(2, s, name)] else if sc = 3 then [(3, wi, name)] else if sc = 4 then [(4, p, name), (3, wi, name)] else []) ++ [(sc, 0, name), (3, 0, name)]
def getVal (look : PK → Option ByteArray) (name : ByteArray) (s wi p : Int) : ByteArray × Int :=
  match rowOf name with
  | none => (⟨#[]⟩, 230)
  | some r => (((placesOf r.scope name s wi p).findSome? look).getD r.first, 0)
def pkCells (l : List PK) : List Value := l.flatMap fun p => [.int .i64 p.1, .int .i64 p.2.1, .string p.2.2]
theorem pkCells_get (l : List PK) (i : Nat) (h : i < l.length) : (pkCells l)[i * 3]? = some (.int .i64 l[i].1) ∧ (pkCells l)[i * 3 + 1]? = some (.int .i64 l[i].2.1) ∧ (pkCells l)[i * 3 + 2]? = some (.string l[i].2.2) := by
  induction l generalizing i with
  | nil => simp at h
  | cons p ps ih =>
    have hc : pkCells (p :: ps) = [.int .i64 p.1, .int .i64 p.2.1, .string p.2.2] ++ pkCells ps := by simp [pkCells]
    have hl : ([.int .i64 p.1, .int .i64 p.2.1, .string p.2.2] : List Value).length = 3 := rfl
    rw [hc]
    cases i with
    | zero => exact ⟨rfl, rfl, rfl⟩
    | succ i =>
      have := ih i (by simpa using h)
      refine ⟨?_, ?_, ?_⟩
      · rw [List.getElem?_append_right (by omega), hl, show (i + 1) * 3 - 3 = i * 3 by omega]; exact this.1
      · rw [List.getElem?_append_right (by omega), hl, show (i + 1) * 3 + 1 - 3 = i * 3 + 1 by omega]; exact this.2.1
      · rw [List.getElem?_append_right (by omega), hl, show (i + 1) * 3 + 2 - 3 = i * 3 + 2 by omega]; exact this.2.2
theorem findSome_at {α β : Type} {f : α → Option β} {l : List α} {k : Nat} {v : β} (h0 : (l.take k).findSome? f = none) (hk : k < l.length) (he : f l[k] = some v) : l.findSome? f = some v := by
  conv => lhs; rw [← List.take_append_drop k l]
  rw [List.findSome?_append, h0, List.drop_eq_getElem_cons hk, List.findSome?_cons, he]
  rfl
theorem findSome_next {α β : Type} {f : α → Option β} {l : List α} {k : Nat} (h0 : (l.take k).findSome? f = none) (hk : k < l.length) (he : f l[k] = none) : (l.take (k + 1)).findSome? f = none := by
  rw [List.take_succ_eq_append_getElem hk, List.findSome?_append, h0, List.findSome?_cons, he]
  rfl

/-- in Get's loop -/
structure GetAt (W w : World) (k b g : Nat) (E : List (PK × ByteArray)) (v : Value) (l : List PK) (sc : Int) (r : ORow) : Prop where
  bel : Below W.heap.size W w
  o : OptIs w k b E
  rd : Rd w 3 v l.length (pkCells l)
  box : Blk w g 54 #[.string r.name, .int .i64 sc, .int .i64 r.kind, .int .i64 r.lo, .int .i64 r.hi, .string r.words, .string r.first]
theorem GetAt.below {W w w1 : World} {k b g : Nat} {E : List (PK × ByteArray)} {v : Value} {l : List PK} {sc : Int} {r : ORow} (h : GetAt W w k b g E v l sc r) (hb : Below w.heap.size w w1) : GetAt W w1 k b g E v l sc r :=
  ⟨below_of h.bel hb, h.o.below hb, h.rd.kept (by decide) hb, h.box.below_ hb⟩
theorem GetAt.at_ {W w : World} {k b g : Nat} {E : List (PK × ByteArray)} {ao : Option Addr} {n cap : Nat} {l : List PK} {sc : Int} {r : ORow} (h : GetAt W w k b g E (.slice ao n cap) l sc r) (i : Nat) (hi : i < l.length) :
    ∃ g5 off, ao = some ⟨g5, off, none⟩ ∧ n ≤ cap ∧ n = l.length ∧ w.cell? ⟨g5, off + i * 3, none⟩ = some (.int .i64 l[i].1) ∧ w.cell? ⟨g5, off + i * 3 + 1, none⟩ = some (.int .i64 l[i].2.1) ∧ w.cell? ⟨g5, off + i * 3 + 2, none⟩ = some (.string l[i].2.2) ∧ g5 < w.heap.size := by
  obtain ⟨g5, off, cap', hv, hnc, hc⟩ := h.rd.at_ (by omega)
  cases hv
  obtain ⟨h1, h2, h3⟩ := pkCells_get l i hi
  exact ⟨g5, off, rfl, hnc, rfl, hc _ _ h1, by have := hc _ _ h2; rwa [← Nat.add_assoc] at this, by have := hc _ _ h3; rwa [← Nat.add_assoc] at this, h.rd.lt (by omega) (by decide) g5 rfl⟩
theorem get_start {W w1 X w2 : World} {k b g : Nat} {E : List (PK × ByteArray)} {v : Value} {l : List PK} {sc : Int} {r : ORow} {F : Nat → Prop} (h1 : Below W.heap.size W w1) (ho : OptIs w1 k b E)
    (hbx : Blk w1 g 54 #[.string r.name, .int .i64 sc, .int .i64 r.kind, .int .i64 r.lo, .int .i64 r.hi, .string r.words, .string r.first]) (hx : Below w1.heap.size w1 X) (hm : Mod F X w2) (hF : ∀ j, F j → w1.heap.size ≤ j) (hr : Row w2 62 3 v l.length (pkCells l)) :
    GetAt W w2 k b g E v l sc r := by
  have hb : Below w1.heap.size w1 w2 := below_mod hx hm hx.size fun i hi hf => by have := hF i hf; omega
  exact ⟨below_of h1 hb, ho.below hb, hr.rd, hbx.below_ hb⟩
theorem look_run {w : World} {b : Nat} {E : List (PK × ByteArray)} (h : MapIs C w b E) {q : PK} (hq : OkPk q) :
    (Instr.lookup 55 (.map (some b)) (.agg #[.int .i64 q.1, .int .i64 q.2.1, .string q.2.2]) true).run Tryd.prog w = .ok (.tuple #[((look E q).map Value.string).getD (.string ⟨#[]⟩), .bool (look E q).isSome]) w := by
  obtain ⟨l, hl⟩ := keyOf_place hq
  exact h.run_look keyed Tryd.underlying55 (zero_str _) q hl
theorem info_place : (Tryd.prog.info? 62).map (fun i => (i.zero, i.size, i.bytes)) = some (some (.agg #[.int .i64 0, .int .i64 0, .string ⟨#[]⟩]), 3, 32) := by kernel_rfl
theorem scopes : ∀ r ∈ table, r.scope = 1 ∨ r.scope = 2 ∨ r.scope = 3 ∨ r.scope = 4 := by decide +kernel
theorem rowOf_mem {name : ByteArray} {r : ORow} (h : rowOf name = some r) : r ∈ table ∧ r.name = name := by
  unfold rowOf at h
  exact ⟨List.mem_of_find?_eq_some h, (sameS_iff _ _).1 (by simpa using List.find?_some h)⟩
theorem okpk {a b : Int} {s : ByteArray} (h1 : 1 ≤ a ∧ a ≤ 4) (h2 : -9223372036854775808 ≤ b) (h3 : b ≤ 9223372036854775807) (h4 : s.size ≤ maxLen) : OkPk (a, b, s) := ⟨by simp; omega, by simp; omega, h2, h3, h4⟩
theorem places_ok {sc : Int} {name : ByteArray} {s wi p : Int} (h1 : 1 ≤ sc ∧ sc ≤ 4) (hs : OkPk (1, s, name)) (hw : OkPk (1, wi, name)) (hp : OkPk (1, p, name)) : ∀ q ∈ placesOf sc name s wi p, OkPk q := by
  intro q hq
  unfold placesOf at hq
  rcases List.mem_append.1 hq with hq | hq
  · split at hq
    · simp at hq; subst hq; exact okpk (by omega) hs.b0 hs.b1 hs.s
    · split at hq
      · simp at hq; subst hq; exact okpk (by omega) hw.b0 hw.b1 hw.s
      · split at hq
        · simp at hq
          rcases hq with hq | hq
          · subst hq; exact okpk (by omega) hp.b0 hp.b1 hp.s
          · subst hq; exact okpk (by omega) hw.b0 hw.b1 hw.s
        · simp at hq
  · simp at hq
    rcases hq with hq | hq
    · subst hq; exact okpk h1 (by simp) (by simp) hs.s
    · subst hq; exact okpk (by omega) (by simp) (by simp) hs.s

set_option maxHeartbeats 4000000 in
set_option maxRecDepth 100000 in
theorem get_c (k b : Nat) (E : List (PK × ByteArray)) (name : ByteArray) (s wi p : Int) (w : World) (h : OptIs w k b E) (hs : OkPk (1, s, name)) (hw : OkPk (1, wi, name)) (hp : OkPk (1, p, name)) :
    Calls Tryd.prog 9 #[.pointer (some ⟨k, 0, none⟩), .string name, .int .i64 s, .int .i64 wi, .int .i64 p] w fun e w' =>
      e = .returned (.tuple #[.string (getVal (look E) name s wi p).1, .int .i64 (getVal (look E) name s wi p).2]) ∧ Hid (Below w.heap.size w w') := by
  obtain ⟨i0, hi, hz0, hz1, hz2⟩ := info_parts info_place
  have HO := Lib.hid h
  have HSO := Lib.hid hs
  have HWO := Lib.hid hw
  have HPO := Lib.hid hp
  clear h hs hw hp
  go_enter Tryd.func9, Tryd.ntmps9
  go_wp2_with fail
  refine (of_c _ _).mono ?_
  rintro e w1 ⟨rfl, HB⟩
  cases hr : rowOf name with
  | none =>
    have HV : Hid (getVal (look E) name s wi p = (⟨#[]⟩, 230)) := Lib.hid (by unfold getVal; rw [hr])
    clear hr
    go_wp2
    go_ret2
    exact ⟨by rw [HV.out]; rfl, Lib.hid (below_box HB.out _)⟩
  | some r =>
    obtain ⟨hmem, -⟩ := rowOf_mem hr
    have hsc := scopes r hmem
    have hor : ofRow name = r := by unfold ofRow; rw [hr]; rfl
    have HV : Hid (getVal (look E) name s wi p = (((placesOf r.scope name s wi p).findSome? (look E)).getD r.first, 0)) := Lib.hid (by unfold getVal; rw [hr])
    have HPL := Lib.hid (places_ok (sc := r.scope) (by omega) HSO.out HWO.out HPO.out)
    have HBX := Lib.hid (Blk.new w1 54 #[.string r.name, .int .i64 r.scope, .int .i64 r.kind, .int .i64 r.lo, .int .i64 r.hi, .string r.words, .string r.first])
    have HO1 := Lib.hid ((HO.out.below HB.out).below (w1 := w1.alloc (.cells #[.string r.name, .int .i64 r.scope, .int .i64 r.kind, .int .i64 r.lo, .int .i64 r.hi, .string r.words, .string r.first] 54)) ((Below.refl _ _).alloc (Nat.le_refl _) _))
    have HB1 := Lib.hid (below_box HB.out (.cells #[.string r.name, .int .i64 r.scope, .int .i64 r.kind, .int .i64 r.lo, .int .i64 r.hi, .string r.words, .string r.first] 54))
    have hkl : k < w1.heap.size := (HO.out.below HB.out).box.lt
    have hbl : b < w1.heap.size := (HO.out.below HB.out).map.lt
    rw [hor]
    clear hr hmem hor HO HB
    obtain ⟨sc, hsce⟩ : ∃ sc, r.scope = sc := ⟨_, rfl⟩
    rw [hsce] at hsc HV HPL HBX HO1 HB1 ⊢
    have HSC := Lib.hid hsce
    clear hsce
    rcases hsc with hsc | hsc | hsc | hsc
    · subst hsc
      have hl : placesOf 1 name s wi p = [(1, 0, name), (3, 0, name)] := rfl
      rw [hl] at HV HPL
      go_wp2_with (at_builtin; refine wpList_append_row (v := .slice none 0 0) rfl (.tmp 55) (.tmp 62) 60 rfl 62 i0 (.agg #[.int .i64 0, .int .i64 0, .string ⟨#[]⟩]) 3 32 Tryd.underlying60 hi hz0 hz1 hz2 rfl (by decide) rfl (Row.nil _ _ _) rfl (Rd.box _ _ 3 2 _ (by simp) rfl) (by simp [Value.oneCell']) (by decide) (by decide) ?_; intro v' w2 hrow hmod hown; have HR1 := Lib.hid hrow; have HM1 := Lib.hid hmod; clear hrow hmod hown; obtain ⟨ao, cap, hv, -⟩ := id HR1.out; subst hv)
      obtain ⟨L, hL⟩ : ∃ L : List PK, [(1, 0, name), (3, 0, name)] = L := ⟨_, rfl⟩
      have hLl : L.length = 2 := by rw [← hL]; rfl
      have HG : Hid (GetAt w w2 k b w1.heap.size E (.slice ao 2 cap) L 1 r) := Lib.hid (get_start HB1.out HO1.out HBX.out ((Below.refl _ _).alloc (Nat.le_refl _) _) HM1.out (by intro j hj; simp [Value.ownBlock] at hj; try (simp; omega)) (by rw [← hL]; exact HR1.out))
      rw [hL] at HV HPL
      clear hl HB1 HO1 HBX HM1 HR1 hL hkl hbl
      go_loopw [66] (fun i wr => ∃ j : Nat, j ≤ 2 ∧ i = .int .i64 j ∧ Hid ((L.take j).findSome? (look E) = none) ∧ Hid (GetAt w wr k b w1.heap.size E (.slice ao 2 cap) L 1 r)) (fun i _ => 2 - (intOf i).toNat)
      case atStart => exact ⟨0, Nat.zero_le _, rfl, Lib.hid rfl, HG⟩
      case round =>
        clear HG
        obtain ⟨j, hj, rfl, HN, HG⟩ := hrel
        by_cases hlt : j < 2
        · obtain ⟨g5, off, hao, hnc, -, c0, c1, c2, hg5⟩ := HG.out.at_ j (by omega)
          subst hao
          have hq : OkPk (L[j]'(by omega)) := HPL.out _ (List.getElem_mem _)
          obtain ⟨q, hqe⟩ : ∃ q, L[j]'(by omega) = q := ⟨_, rfl⟩
          rw [hqe] at c0 c1 c2 hq
          have hj0 : (0 : Int) ≤ (j : Int) := by omega
          have hj1 : (j : Int) < 2 := by omega
          have hkc : wr.cell? ⟨k, 0, none⟩ = some (.map (some b)) := HG.out.o.box.cell 0
          have hkl := HG.out.o.box.lt
          have hlk := look_run ((HG.out.o.map.alloc (.cells #[.int .i64 q.1, .int .i64 q.2.1, .string q.2.2] 62)).drew) hq
          have HQE := Lib.hid hqe
          clear hq hqe
          cases hlq : look E q with
          | some v =>
            rw [hlq] at hlk
            simp only [Option.map_some, Option.getD_some, Option.isSome_some] at hlk
            have HF : Hid (L.findSome? (look E) = some v) := Lib.hid (findSome_at HN.out (by omega) (by rw [HQE.out]; exact hlq))
            clear hlq
            go_wp2_with fail
            go_region
            all_goals
              go_wp2
              go_ret2
              exact ⟨by rw [HV.out, HF.out]; rfl, Lib.hid ((below_box HG.out.bel _).drew)⟩
          | none =>
            rw [hlq] at hlk
            simp only [Option.map_none, Option.getD_none, Option.isSome_none] at hlk
            have HF : Hid ((L.take (j + 1)).findSome? (look E) = none) := Lib.hid (findSome_next HN.out (by omega) (by rw [HQE.out]; exact hlq))
            clear hlq
            go_wp2_with fail
            go_region
            all_goals
              go_wp2
              go_roundw
              case rel => exact ⟨j + 1, by omega, by go_num, HF, Lib.hid (HG.out.below (((Below.refl _ _).alloc (Nat.le_refl _) _).drew))⟩
              case measure => simp [intOf]; omega
        · have hje : j = 2 := by omega
          subst hje
          have hfn : L.findSome? (look E) = none := by have := HN.out; rwa [List.take_of_length_le (by omega)] at this
          have HF := Lib.hid hfn
          obtain ⟨-, -, -, -, -, -, z6, -⟩ := seven HG.out.box
          clear hfn
          go_wp2
          go_ret2
          exact ⟨by rw [HV.out, HF.out]; rfl, Lib.hid HG.out.bel⟩
    · subst hsc
      have hl : placesOf 2 name s wi p = [(2, s, name), (2, 0, name), (3, 0, name)] := rfl
      rw [hl] at HV HPL
      go_wp2_with (at_builtin; refine wpList_append_row (v := .slice (some ⟨w1.heap.size + 1, 0, none⟩) 1 1) rfl (.tmp 55) (.tmp 62) 60 rfl 62 i0 (.agg #[.int .i64 0, .int .i64 0, .string ⟨#[]⟩]) 3 32 Tryd.underlying60 hi hz0 hz1 hz2 rfl (by decide) rfl ((Row.box _ _ 3 1 _ (by simp) rfl (by decide)).alloc _) rfl (Rd.box _ _ 3 2 _ (by simp) rfl) (by simp [Value.oneCell']) (by decide) (by decide) ?_; intro v' w2 hrow hmod hown; have HR1 := Lib.hid hrow; have HM1 := Lib.hid hmod; clear hrow hmod hown; obtain ⟨ao, cap, hv, -⟩ := id HR1.out; subst hv)
      obtain ⟨L, hL⟩ : ∃ L : List PK, [(2, s, name), (2, 0, name), (3, 0, name)] = L := ⟨_, rfl⟩
      have hLl : L.length = 3 := by rw [← hL]; rfl
      have HG : Hid (GetAt w w2 k b w1.heap.size E (.slice ao 3 cap) L 2 r) := Lib.hid (get_start HB1.out HO1.out HBX.out (((Below.refl _ _).alloc (Nat.le_refl _) _).alloc (by simp) _) HM1.out (by intro j hj; simp [Value.ownBlock] at hj; try (simp; omega)) (by rw [← hL]; exact HR1.out))
      rw [hL] at HV HPL
      clear hl HB1 HO1 HBX HM1 HR1 hL hkl hbl
      go_loopw [66] (fun i wr => ∃ j : Nat, j ≤ 3 ∧ i = .int .i64 j ∧ Hid ((L.take j).findSome? (look E) = none) ∧ Hid (GetAt w wr k b w1.heap.size E (.slice ao 3 cap) L 2 r)) (fun i _ => 3 - (intOf i).toNat)
      case atStart => exact ⟨0, Nat.zero_le _, rfl, Lib.hid rfl, HG⟩
      case round =>
        clear HG
        obtain ⟨j, hj, rfl, HN, HG⟩ := hrel
        by_cases hlt : j < 3
        · obtain ⟨g5, off, hao, hnc, -, c0, c1, c2, hg5⟩ := HG.out.at_ j (by omega)
          subst hao
          have hq : OkPk (L[j]'(by omega)) := HPL.out _ (List.getElem_mem _)
          obtain ⟨q, hqe⟩ : ∃ q, L[j]'(by omega) = q := ⟨_, rfl⟩
          rw [hqe] at c0 c1 c2 hq
          have hj0 : (0 : Int) ≤ (j : Int) := by omega
          have hj1 : (j : Int) < 3 := by omega
          have hkc : wr.cell? ⟨k, 0, none⟩ = some (.map (some b)) := HG.out.o.box.cell 0
          have hkl := HG.out.o.box.lt
          have hlk := look_run ((HG.out.o.map.alloc (.cells #[.int .i64 q.1, .int .i64 q.2.1, .string q.2.2] 62)).drew) hq
          have HQE := Lib.hid hqe
          clear hq hqe
          cases hlq : look E q with
          | some v =>
            rw [hlq] at hlk
            simp only [Option.map_some, Option.getD_some, Option.isSome_some] at hlk
            have HF : Hid (L.findSome? (look E) = some v) := Lib.hid (findSome_at HN.out (by omega) (by rw [HQE.out]; exact hlq))
            clear hlq
            go_wp2_with fail
            go_region
            all_goals
              go_wp2
              go_ret2
              exact ⟨by rw [HV.out, HF.out]; rfl, Lib.hid ((below_box HG.out.bel _).drew)⟩
          | none =>
            rw [hlq] at hlk
            simp only [Option.map_none, Option.getD_none, Option.isSome_none] at hlk
            have HF : Hid ((L.take (j + 1)).findSome? (look E) = none) := Lib.hid (findSome_next HN.out (by omega) (by rw [HQE.out]; exact hlq))
            clear hlq
            go_wp2_with fail
            go_region
            all_goals
              go_wp2
              go_roundw
              case rel => exact ⟨j + 1, by omega, by go_num, HF, Lib.hid (HG.out.below (((Below.refl _ _).alloc (Nat.le_refl _) _).drew))⟩
              case measure => simp [intOf]; omega
        · have hje : j = 3 := by omega
          subst hje
          have hfn : L.findSome? (look E) = none := by have := HN.out; rwa [List.take_of_length_le (by omega)] at this
          have HF := Lib.hid hfn
          obtain ⟨-, -, -, -, -, -, z6, -⟩ := seven HG.out.box
          clear hfn
          go_wp2
          go_ret2
          exact ⟨by rw [HV.out, HF.out]; rfl, Lib.hid HG.out.bel⟩
    · subst hsc
      have hl : placesOf 3 name s wi p = [(3, wi, name), (3, 0, name), (3, 0, name)] := rfl
      rw [hl] at HV HPL
      go_wp2_with (at_builtin; refine wpList_append_row (v := .slice (some ⟨w1.heap.size + 1, 0, none⟩) 1 1) rfl (.tmp 55) (.tmp 62) 60 rfl 62 i0 (.agg #[.int .i64 0, .int .i64 0, .string ⟨#[]⟩]) 3 32 Tryd.underlying60 hi hz0 hz1 hz2 rfl (by decide) rfl ((Row.box _ _ 3 1 _ (by simp) rfl (by decide)).alloc _) rfl (Rd.box _ _ 3 2 _ (by simp) rfl) (by simp [Value.oneCell']) (by decide) (by decide) ?_; intro v' w2 hrow hmod hown; have HR1 := Lib.hid hrow; have HM1 := Lib.hid hmod; clear hrow hmod hown; obtain ⟨ao, cap, hv, -⟩ := id HR1.out; subst hv)
      obtain ⟨L, hL⟩ : ∃ L : List PK, [(3, wi, name), (3, 0, name), (3, 0, name)] = L := ⟨_, rfl⟩
      have hLl : L.length = 3 := by rw [← hL]; rfl
      have HG : Hid (GetAt w w2 k b w1.heap.size E (.slice ao 3 cap) L 3 r) := Lib.hid (get_start HB1.out HO1.out HBX.out (((Below.refl _ _).alloc (Nat.le_refl _) _).alloc (by simp) _) HM1.out (by intro j hj; simp [Value.ownBlock] at hj; try (simp; omega)) (by rw [← hL]; exact HR1.out))
      rw [hL] at HV HPL
      clear hl HB1 HO1 HBX HM1 HR1 hL hkl hbl
      go_loopw [66] (fun i wr => ∃ j : Nat, j ≤ 3 ∧ i = .int .i64 j ∧ Hid ((L.take j).findSome? (look E) = none) ∧ Hid (GetAt w wr k b w1.heap.size E (.slice ao 3 cap) L 3 r)) (fun i _ => 3 - (intOf i).toNat)
      case atStart => exact ⟨0, Nat.zero_le _, rfl, Lib.hid rfl, HG⟩
      case round =>
        clear HG
        obtain ⟨j, hj, rfl, HN, HG⟩ := hrel
        by_cases hlt : j < 3
        · obtain ⟨g5, off, hao, hnc, -, c0, c1, c2, hg5⟩ := HG.out.at_ j (by omega)
          subst hao
          have hq : OkPk (L[j]'(by omega)) := HPL.out _ (List.getElem_mem _)
          obtain ⟨q, hqe⟩ : ∃ q, L[j]'(by omega) = q := ⟨_, rfl⟩
          rw [hqe] at c0 c1 c2 hq
          have hj0 : (0 : Int) ≤ (j : Int) := by omega
          have hj1 : (j : Int) < 3 := by omega
          have hkc : wr.cell? ⟨k, 0, none⟩ = some (.map (some b)) := HG.out.o.box.cell 0
          have hkl := HG.out.o.box.lt
          have hlk := look_run ((HG.out.o.map.alloc (.cells #[.int .i64 q.1, .int .i64 q.2.1, .string q.2.2] 62)).drew) hq
          have HQE := Lib.hid hqe
          clear hq hqe
          cases hlq : look E q with
          | some v =>
            rw [hlq] at hlk
            simp only [Option.map_some, Option.getD_some, Option.isSome_some] at hlk
            have HF : Hid (L.findSome? (look E) = some v) := Lib.hid (findSome_at HN.out (by omega) (by rw [HQE.out]; exact hlq))
            clear hlq
            go_wp2_with fail
            go_region
            all_goals
              go_wp2
              go_ret2
              exact ⟨by rw [HV.out, HF.out]; rfl, Lib.hid ((below_box HG.out.bel _).drew)⟩
          | none =>
            rw [hlq] at hlk
            simp only [Option.map_none, Option.getD_none, Option.isSome_none] at hlk
            have HF : Hid ((L.take (j + 1)).findSome? (look E) = none) := Lib.hid (findSome_next HN.out (by omega) (by rw [HQE.out]; exact hlq))
            clear hlq
            go_wp2_with fail
            go_region
            all_goals
              go_wp2
              go_roundw
              case rel => exact ⟨j + 1, by omega, by go_num, HF, Lib.hid (HG.out.below (((Below.refl _ _).alloc (Nat.le_refl _) _).drew))⟩
              case measure => simp [intOf]; omega
        · have hje : j = 3 := by omega
          subst hje
          have hfn : L.findSome? (look E) = none := by have := HN.out; rwa [List.take_of_length_le (by omega)] at this
          have HF := Lib.hid hfn
          obtain ⟨-, -, -, -, -, -, z6, -⟩ := seven HG.out.box
          clear hfn
          go_wp2
          go_ret2
          exact ⟨by rw [HV.out, HF.out]; rfl, Lib.hid HG.out.bel⟩
    · subst hsc
      have hl : placesOf 4 name s wi p = [(4, p, name), (3, wi, name), (4, 0, name), (3, 0, name)] := rfl
      rw [hl] at HV HPL
      go_wp2_with (at_builtin; refine wpList_append_row (v := .slice (some ⟨w1.heap.size + 1, 0, none⟩) 2 2) rfl (.tmp 55) (.tmp 62) 60 rfl 62 i0 (.agg #[.int .i64 0, .int .i64 0, .string ⟨#[]⟩]) 3 32 Tryd.underlying60 hi hz0 hz1 hz2 rfl (by decide) rfl ((Row.box _ _ 3 2 _ (by simp) rfl (by decide)).alloc _) rfl (Rd.box _ _ 3 2 _ (by simp) rfl) (by simp [Value.oneCell']) (by decide) (by decide) ?_; intro v' w2 hrow hmod hown; have HR1 := Lib.hid hrow; have HM1 := Lib.hid hmod; clear hrow hmod hown; obtain ⟨ao, cap, hv, -⟩ := id HR1.out; subst hv)
      obtain ⟨L, hL⟩ : ∃ L : List PK, [(4, p, name), (3, wi, name), (4, 0, name), (3, 0, name)] = L := ⟨_, rfl⟩
      have hLl : L.length = 4 := by rw [← hL]; rfl
      have HG : Hid (GetAt w w2 k b w1.heap.size E (.slice ao 4 cap) L 4 r) := Lib.hid (get_start HB1.out HO1.out HBX.out (((Below.refl _ _).alloc (Nat.le_refl _) _).alloc (by simp) _) HM1.out (by intro j hj; simp [Value.ownBlock] at hj; try (simp; omega)) (by rw [← hL]; exact HR1.out))
      rw [hL] at HV HPL
      clear hl HB1 HO1 HBX HM1 HR1 hL hkl hbl
      go_loopw [66] (fun i wr => ∃ j : Nat, j ≤ 4 ∧ i = .int .i64 j ∧ Hid ((L.take j).findSome? (look E) = none) ∧ Hid (GetAt w wr k b w1.heap.size E (.slice ao 4 cap) L 4 r)) (fun i _ => 4 - (intOf i).toNat)
      case atStart => exact ⟨0, Nat.zero_le _, rfl, Lib.hid rfl, HG⟩
      case round =>
        clear HG
        obtain ⟨j, hj, rfl, HN, HG⟩ := hrel
        by_cases hlt : j < 4
        · obtain ⟨g5, off, hao, hnc, -, c0, c1, c2, hg5⟩ := HG.out.at_ j (by omega)
          subst hao
          have hq : OkPk (L[j]'(by omega)) := HPL.out _ (List.getElem_mem _)
          obtain ⟨q, hqe⟩ : ∃ q, L[j]'(by omega) = q := ⟨_, rfl⟩
          rw [hqe] at c0 c1 c2 hq
          have hj0 : (0 : Int) ≤ (j : Int) := by omega
          have hj1 : (j : Int) < 4 := by omega
          have hkc : wr.cell? ⟨k, 0, none⟩ = some (.map (some b)) := HG.out.o.box.cell 0
          have hkl := HG.out.o.box.lt
          have hlk := look_run ((HG.out.o.map.alloc (.cells #[.int .i64 q.1, .int .i64 q.2.1, .string q.2.2] 62)).drew) hq
          have HQE := Lib.hid hqe
          clear hq hqe
          cases hlq : look E q with
          | some v =>
            rw [hlq] at hlk
            simp only [Option.map_some, Option.getD_some, Option.isSome_some] at hlk
            have HF : Hid (L.findSome? (look E) = some v) := Lib.hid (findSome_at HN.out (by omega) (by rw [HQE.out]; exact hlq))
            clear hlq
            go_wp2_with fail
            go_region
            all_goals
              go_wp2
              go_ret2
              exact ⟨by rw [HV.out, HF.out]; rfl, Lib.hid ((below_box HG.out.bel _).drew)⟩
          | none =>
            rw [hlq] at hlk
            simp only [Option.map_none, Option.getD_none, Option.isSome_none] at hlk
            have HF : Hid ((L.take (j + 1)).findSome? (look E) = none) := Lib.hid (findSome_next HN.out (by omega) (by rw [HQE.out]; exact hlq))
            clear hlq
            go_wp2_with fail
            go_region
            all_goals
              go_wp2
              go_roundw
              case rel => exact ⟨j + 1, by omega, by go_num, HF, Lib.hid (HG.out.below (((Below.refl _ _).alloc (Nat.le_refl _) _).drew))⟩
              case measure => simp [intOf]; omega
        · have hje : j = 4 := by omega
          subst hje
          have hfn : L.findSome? (look E) = none := by have := HN.out; rwa [List.take_of_length_le (by omega)] at this
          have HF := Lib.hid hfn
          obtain ⟨-, -, -, -, -, -, z6, -⟩ := seven HG.out.box
          clear hfn
          go_wp2
          go_ret2
          exact ⟨by rw [HV.out, HF.out]; rfl, Lib.hid HG.out.bel⟩
end Go.Proofs.YtlmnhdpahmaccaaDoor
