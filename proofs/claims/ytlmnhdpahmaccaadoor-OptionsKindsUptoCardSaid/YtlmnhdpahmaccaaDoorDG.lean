/- the document's keys: Read. -/
import Derived.Test.YtlmnhdpahmaccaaDoorDD
import Derived.Test.YtlmnhdpahmaccaaDoorDF
namespace Go.Proofs.YtlmnhdpahmaccaaDoor
open Go.RowKit QP

theorem all_len : allKeys.length = 1208 := ahead_len 8
theorem all_mods {k : Int × Int} (h : k ∈ allKeys) : 0 ≤ k.2 ∧ k.2 ≤ 7 := by
  unfold allKeys at h
  obtain ⟨m, hm, h⟩ := List.mem_flatMap.1 h
  rw [List.mem_range] at hm
  unfold blockKeys at h
  rcases List.mem_append.1 h with h | h
  · obtain ⟨c, -, rfl⟩ := List.mem_map.1 h
    exact ⟨by simp, by simp; omega⟩
  · obtain ⟨c, -, rfl⟩ := List.mem_map.1 h
    exact ⟨by simp, by simp; omega⟩
structure DReadIn (W w : World) (ao : Option Addr) (cap : Nat) : Prop where
  bel : Below W.heap.size W w
  rd : Rd w 2 (.slice ao 1208 cap) 1208 (keyCells allKeys)
  box : Blk w W.heap.size 76 #[.int .i64 0, .int .i64 0]
theorem DReadIn.below {W w w1 : World} {ao : Option Addr} {cap : Nat} (h : DReadIn W w ao cap) (hb : Below w.heap.size w w1) : DReadIn W w1 ao cap := ⟨below_of h.bel hb, h.rd.kept (by decide) hb, h.box.below_ hb⟩
def docCode (s : ByteArray) : Int := if docRead s = true then 0 else 210
theorem docCode_hit {s : ByteArray} {k : Int × Int} (hk : k ∈ allKeys) (h : isKey s k = true) : docCode s = 0 := by
  unfold docCode docRead
  rw [List.any_eq_true.2 ⟨k, hk, h⟩]
  rfl
theorem docCode_rest {s : ByteArray} (h : ∀ k ∈ allKeys, isKey s k = false) : docCode s = if (charKey s).isSome = true then 0 else 210 := by
  unfold docCode docRead
  have : allKeys.any (isKey s) = false := by
    rw [List.any_eq_false]
    intro k hk
    rw [h k hk]
    decide
  rw [this, Bool.false_or]
theorem isKey_valid {s : ByteArray} {k : Int × Int} (h : validKey k.1 k.2 = false) : isKey s k = false := by unfold isKey; rw [h]; rfl
theorem isKey_name {s : ByteArray} {k : Int × Int} (hv : validKey k.1 k.2 = true) (b : Bool) (h : sameS (nameKey k.1 k.2) s = b) : isKey s k = b := by unfold isKey; rw [hv, h]; rfl
theorem take_next {s : ByteArray} {l : List (Int × Int)} {k : Nat} (h : ∀ x ∈ l.take k, isKey s x = false) (hk : k < l.length) (he : isKey s l[k] = false) : ∀ x ∈ l.take (k + 1), isKey s x = false := by
  intro x hx
  rw [List.take_succ_eq_append_getElem hk, List.mem_append, List.mem_singleton] at hx
  rcases hx with hx | rfl
  · exact h x hx
  · exact he

/-- behind the loop: the result's box, the key's box -/
structure TailAt (W w : World) (k : Nat) (x y : Value) : Prop where
  bel : Below W.heap.size W w
  box : Blk w W.heap.size 76 #[.int .i64 0, .int .i64 0]
  kb : Blk w k 76 #[x, y]
  lt : W.heap.size < k
namespace TailAt
variable {W w w1 : World} {k : Nat} {x y : Value}
theorem below (h : TailAt W w k x y) (hb : Below w.heap.size w w1) : TailAt W w1 k x y := ⟨below_of h.bel hb, h.box.below_ hb, h.kb.below_ hb, h.lt⟩
theorem set0 (h : TailAt W w k x y) (u : Value) : TailAt W (w.setCell ⟨k, 0, none⟩ u) k u y := by
  have hl := h.lt
  have hs := h.bel.size
  exact ⟨below_mod h.bel ((Mod.refl (fun j => j = k) w).setCell (a := ⟨k, 0, none⟩) (.inl rfl) u) hs fun i hi e => by omega, h.box.far (p := ⟨k, 0, none⟩) (by show W.heap.size ≠ k; omega) u, h.kb.set_ 0 u, hl⟩
theorem set1 (h : TailAt W w k x y) (u : Value) : TailAt W (w.setCell ⟨k, 1, none⟩ u) k x u := by
  have hl := h.lt
  have hs := h.bel.size
  exact ⟨below_mod h.bel ((Mod.refl (fun j => j = k) w).setCell (a := ⟨k, 1, none⟩) (.inl rfl) u) hs fun i hi e => by omega, h.box.far (p := ⟨k, 1, none⟩) (by show W.heap.size ≠ k; omega) u, h.kb.set_ 1 u, hl⟩
theorem cells (h : TailAt W w k x y) : w.cell? ⟨k, 0, none⟩ = some x ∧ w.cell? ⟨k, 1, none⟩ = some y ∧ w.frozen? ⟨k, 0, none⟩ = false ∧ w.frozen? ⟨k, 1, none⟩ = false ∧
    w.cell? ⟨W.heap.size, 0, none⟩ = some (.int .i64 0) ∧ w.cell? ⟨W.heap.size, 1, none⟩ = some (.int .i64 0) ∧ w.frozen? ⟨W.heap.size, 0, none⟩ = false ∧ w.frozen? ⟨W.heap.size, 1, none⟩ = false :=
  ⟨h.kb.cell 0, h.kb.cell 1, h.kb.frozen 0, h.kb.frozen 1, h.box.cell 0, h.box.cell 1, h.box.frozen 0, h.box.frozen 1⟩
end TailAt
theorem charKey_none {s r : ByteArray} {m : Int} (hr : restKey s = (r, m)) (hd : dfirst r.data.toList = none) : charKey s = none := by
  unfold charKey
  rw [hr]
  simp only [hd]
theorem charKey_some {s r : ByteArray} {m : Int} {c n : Nat} (hr : restKey s = (r, m)) (hd : dfirst r.data.toList = some (c, n)) : charKey s = if n = r.size ∧ isKey s ((c : Int), m) = true then some ((c : Int), m) else none := by
  unfold charKey
  rw [hr]
  simp only [hd]
theorem dfirst_le {s : List UInt8} {c n : Nat} (h : dfirst s = some (c, n)) : n ≤ 4 ∧ c < 2097152 := by
  unfold dfirst at h
  obtain ⟨k, hk, he⟩ := List.exists_of_findSome?_eq_some h
  rw [List.mem_range] at hk
  unfold firstAt at he
  split at he
  · cases he
  · split at he
    · rename_i c' hw
      split at he
      · injection he with he
        injection he with h1 h2
        subst h1 h2
        exact ⟨by omega, dworth_lt (by rw [List.length_take]; omega) hw⟩
      · cases he
    · cases he

set_option maxHeartbeats 8000000 in
set_option maxRecDepth 100000 in
theorem dread_c (s : ByteArray) (hs : s.size ≤ 281474976710656) (w : World) : Calls Tryd.prog 32 #[.string s] w fun e w' => ∃ c m, e = .returned (.tuple #[.agg #[.int .i64 c, .int .i64 m], .int .i64 (docCode s)]) ∧ Hid (Below w.heap.size w w') := by
  have hb0 : Below w.heap.size w (w.alloc (.cells #[.int .i64 0, .int .i64 0] 76)) := (Below.refl _ _).alloc (Nat.le_refl _) _
  have HB0 := Lib.hid hb0
  have hk0 := Blk.new w 76 #[.int .i64 0, .int .i64 0]
  have HK0 := Lib.hid hk0
  obtain ⟨v, hv⟩ : ∃ v, docCode s = v := ⟨_, rfl⟩
  have HV := Lib.hid hv
  rw [hv]
  clear hb0 hk0 hv
  go_enter Tryd.func32, Tryd.ntmps32
  go_wp2_with fail
  refine (dall_c _).mono ?_
  rintro e w1 ⟨ao, cap, rfl, hr, HB1⟩
  have HI : Hid (DReadIn w w1 ao cap) := Lib.hid ⟨below_of HB0.out HB1.out, hr, HK0.out.below_ HB1.out⟩
  clear hr HB1 HK0 HB0
  go_wp2
  go_loopw [5] (fun i wr => ∃ k : Nat, k ≤ 1208 ∧ i = .int .i64 k ∧ Hid (∀ x ∈ allKeys.take k, isKey s x = false) ∧ Hid (DReadIn w wr ao cap)) (fun i _ => 1208 - (intOf i).toNat)
  case atStart => exact ⟨0, Nat.zero_le _, rfl, Lib.hid (by simp), HI⟩
  case round =>
    clear HI
    obtain ⟨k, hk, rfl, HN, HI⟩ := hrel
    by_cases hlt : k < 1208
    · have hl : k < allKeys.length := by rw [all_len]; exact hlt
      obtain ⟨g, off, cap', hv, hnc, hc⟩ := HI.out.rd.at_ (by decide)
      cases hv
      have hgl := HI.out.rd.lt (by decide) (by decide) g rfl
      obtain ⟨s0, s1⟩ := keyCells_get allKeys k hl
      have c0 := hc _ _ s0
      have c1 := hc _ _ s1
      simp only [← Nat.add_assoc] at c1
      obtain ⟨m0, m1⟩ := all_mods (List.getElem_mem hl)
      have hmem := List.getElem_mem hl
      obtain ⟨q, hq⟩ : ∃ q, allKeys[k] = q := ⟨_, rfl⟩
      rw [hq] at c0 c1 m0 m1 hmem
      have HQ := Lib.hid hq
      have HM := Lib.hid hmem
      have hk0 : (0 : Int) ≤ (k : Int) := by omega
      have hk1 : (k : Int) < 1208 := by omega
      clear s0 s1 hc hq hmem
      cases hv : validKey q.1 q.2 with
      | false =>
        have HF := Lib.hid (take_next HN.out hl (by rw [HQ.out]; exact isKey_valid hv))
        go_wp2_with fail
        refine (dvalid_c q.1 q.2 m0 m1 _).mono ?_
        rintro e w2 ⟨rfl, HB2⟩
        have HI2 := Lib.hid (HI.out.below HB2.out)
        rw [hv]
        go_wp2
        go_roundw
        case rel => exact ⟨k + 1, by omega, by go_num, HF, HI2⟩
        case measure => simp [intOf]; omega
      | true =>
        go_wp2_with fail
        refine (dvalid_c q.1 q.2 m0 m1 _).mono ?_
        rintro e w2 ⟨rfl, HB2⟩
        have HI2 := Lib.hid (HI.out.below HB2.out)
        have d0 : w2.cell? ⟨g, off + k * 2, none⟩ = some (.int .i64 q.1) := (HB2.out.cell (p := ⟨g, off + k * 2, none⟩) hgl).trans c0
        have d1 : w2.cell? ⟨g, off + k * 2 + 1, none⟩ = some (.int .i64 q.2) := (HB2.out.cell (p := ⟨g, off + k * 2 + 1, none⟩) hgl).trans c1
        rw [hv]
        go_wp2_with fail
        refine (dname_c q.1 q.2 m0 m1 _).mono ?_
        rintro e w3 ⟨rfl, HB3⟩
        have HI3 := Lib.hid (HI2.out.below HB3.out)
        have e0 : w3.cell? ⟨g, off + k * 2, none⟩ = some (.int .i64 q.1) := (HB3.out.cell (p := ⟨g, off + k * 2, none⟩) (Nat.lt_of_lt_of_le hgl HB2.out.size)).trans d0
        have e1 : w3.cell? ⟨g, off + k * 2 + 1, none⟩ = some (.int .i64 q.2) := (HB3.out.cell (p := ⟨g, off + k * 2 + 1, none⟩) (Nat.lt_of_lt_of_le hgl HB2.out.size)).trans d1
        cases he : sameS (nameKey q.1 q.2) s with
        | true =>
          have h2 : ((nameKey q.1 q.2).toList == s.toList) = true := (sameS_beq _ _).trans he
          have hv0 : v = 0 := by rw [← HV.out]; exact docCode_hit HM.out (isKey_name hv true he)
          subst hv0
          have b0 : w3.cell? ⟨w.heap.size, 0, none⟩ = some (.int .i64 0) := HI3.out.box.cell 0
          have b1 : w3.cell? ⟨w.heap.size, 1, none⟩ = some (.int .i64 0) := HI3.out.box.cell 1
          have f0 : w3.frozen? ⟨w.heap.size, 0, none⟩ = false := HI3.out.box.frozen 0
          have f1 : w3.frozen? ⟨w.heap.size, 1, none⟩ = false := HI3.out.box.frozen 1
          clear he hv HN HV
          go_wp2
          refine bodyPost_ret (v := .tuple #[.agg #[.int .i64 q.1, .int .i64 q.2], .int .i64 0]) (by simp [results, Tryd.results32, go_sem, b0, b1]) rfl ?_
          have hm := mod2 w3 w.heap.size (.int .i64 q.1) (.int .i64 q.2)
          have hb := below_mod HI3.out.bel hm HI3.out.bel.size fun i hi e => by omega
          exact ⟨_, _, rfl, Lib.hid hb⟩
        | false =>
          have h2 : ((nameKey q.1 q.2).toList == s.toList) = false := (sameS_beq _ _).trans he
          have HF := Lib.hid (take_next HN.out hl (by rw [HQ.out]; exact isKey_name hv false he))
          clear he hv
          go_wp2
          go_roundw
          case rel => exact ⟨k + 1, by omega, by go_num, HF, HI3⟩
          case measure => simp [intOf]; omega
    · have hke : k = 1208 := by omega
      subst hke
      have HR := Lib.hid (HV.out.symm.trans (docCode_rest (s := s) fun x hx => HN.out x (by rw [List.take_of_length_le (by rw [all_len]; exact Nat.le_refl _)]; exact hx)))
      clear HN HV
      have HSZ := Lib.hid hs
      have hbx := below_box HI.out.bel (.cells #[.int .i64 0, .int .i64 0] 76)
      have HT : Hid (TailAt w (wr.alloc (.cells #[.int .i64 0, .int .i64 0] 76)) wr.heap.size (.int .i64 0) (.int .i64 0)) := Lib.hid ⟨hbx, HI.out.box.alloc _, Blk.new _ _ _, HI.out.box.lt⟩
      clear hbx hs
      by_cases h2 : 2 < s.size
      · have z2 : decide ((s.size : Int) > 2) = true := by simp; omega
        have z2i : (2 : Int) ≤ (s.size : Int) := by omega
        obtain ⟨pr, hpr⟩ : ∃ pr, s.extract 0 2 = pr := ⟨_, rfl⟩
        obtain ⟨rest, hrest⟩ : ∃ rest, s.extract 2 s.size = rest := ⟨_, rfl⟩
        cases hx : sameS pr ⟨#[77, 45]⟩ with
        | true =>
          have z3 : (pr.toList == [77, 45]) = true := by
            rw [show ([77, 45] : List UInt8) = (⟨#[77, 45]⟩ : ByteArray).toList by rw [Go.ByteArray.toList_eq]]
            exact (sameS_beq _ _).trans hx
          have hrk : restKey s = (rest, 2) := by unfold restKey; rw [hpr, if_pos ⟨h2, hx⟩, hrest]
          have HRK := Lib.hid hrk
          have hrs : rest.size ≤ 281474976710656 := by rw [← hrest]; have := HSZ.out; simp; omega
          have HSR := Lib.hid hrs
          have HTB : Hid (TailAt w (wr.alloc (.cells #[.int .i64 0, .int .i64 2] 76)) wr.heap.size (.int .i64 0) (.int .i64 2)) := Lib.hid ⟨below_box HI.out.bel _, HI.out.box.alloc _, Blk.new _ _ _, HI.out.box.lt⟩
          obtain ⟨j0, j1, j2, j3, -, -, -, -⟩ := HT.out.cells
          clear h2 hrk hx hrs
          go_wp2_with fail
          refine (dfirst_c rest (by have := HSR.out; omega) _).mono ?_
          rintro e w2 ⟨rfl, HB2⟩
          have HT2 := Lib.hid (HTB.out.below HB2.out)
          cases hd : dfirst rest.data.toList with
          | none =>
            have hfo : firstOut rest.data.toList = .tuple #[.int .i64 0, .int .i64 0, .bool false] := by unfold firstOut; rw [hd]
            have HC := Lib.hid (charKey_none HRK.out hd)
            rw [hfo]
            clear hd hfo
            have HT3 := Lib.hid (HT2.out.set0 (.int .i64 0))
            obtain ⟨k0, k1, k2, k3, -, -, -, -⟩ := HT2.out.cells
            have hv : v = 210 := by rw [HR.out, HC.out]; rfl
            subst hv
            clear HR
            obtain ⟨x0, x1, x2, x3, b0, b1, f0, f1⟩ := HT3.out.cells
            go_wp2
            refine bodyPost_ret (v := .tuple #[.agg #[.int .i64 0, .int .i64 0], .int .i64 210]) (by simp [results, Tryd.results32, go_sem, b0, b1]) rfl ?_
            have hm := mod2 (w2.setCell ⟨wr.heap.size, 0, none⟩ (.int .i64 0)) w.heap.size (.int .i64 0) (.int .i64 0)
            have hb := below_mod HT3.out.bel hm HT3.out.bel.size fun i hi e => by omega
            exact ⟨_, _, rfl, Lib.hid hb⟩
          | some cn =>
            obtain ⟨c, n⟩ := cn
            have hfo : firstOut rest.data.toList = .tuple #[.int .i64 c, .int .i64 n, .bool true] := by unfold firstOut; rw [hd]
            have HC := Lib.hid (charKey_some HRK.out hd)
            obtain ⟨hn4, hc4⟩ := dfirst_le hd
            rw [hfo]
            clear hd hfo
            have HT3 := Lib.hid (HT2.out.set0 (.int .i64 c))
            obtain ⟨k0, k1, k2, k3, -, -, -, -⟩ := HT2.out.cells
            by_cases hn : n = rest.size
            · have q1 : ((n : Int) == (rest.size : Int)) = true := by rw [hn]; exact beq_self_eq_true _
              have q1n : (n == rest.size) = true := by rw [hn]; exact beq_self_eq_true _
              have HNE := Lib.hid hn
              clear hn
              obtain ⟨y0, y1, y2, y3, -, -, -, -⟩ := HT3.out.cells
              cases hvk : validKey (c : Int) 2 with
              | false =>
                go_wp2_with fail
                refine (dvalid_c (c : Int) 2 (by decide) (by decide) _).mono ?_
                rintro e w4 ⟨rfl, HB4⟩
                have HT4 := Lib.hid (HT3.out.below HB4.out)
                have HCN : Hid (charKey s = none) := Lib.hid (by rw [HC.out, if_neg (fun h => by rw [isKey_valid hvk] at h; simp at h)])
                rw [hvk]
                clear hvk y0 y1 y2 y3 k0 k1 k2 k3
                have hv : v = 210 := by rw [HR.out, HCN.out]; rfl
                subst hv
                clear HR
                obtain ⟨x0, x1, x2, x3, b0, b1, f0, f1⟩ := HT4.out.cells
                go_wp2
                refine bodyPost_ret (v := .tuple #[.agg #[.int .i64 0, .int .i64 0], .int .i64 210]) (by simp [results, Tryd.results32, go_sem, b0, b1]) rfl ?_
                have hm := mod2 w4 w.heap.size (.int .i64 0) (.int .i64 0)
                have hb := below_mod HT4.out.bel hm HT4.out.bel.size fun i hi e => by omega
                exact ⟨_, _, rfl, Lib.hid hb⟩
              | true =>
                go_wp2_with fail
                refine (dvalid_c (c : Int) 2 (by decide) (by decide) _).mono ?_
                rintro e w4 ⟨rfl, HB4⟩
                have HT4 := Lib.hid (HT3.out.below HB4.out)
                rw [hvk]
                clear y0 y1 y2 y3 k0 k1 k2 k3
                obtain ⟨y0, y1, y2, y3, -, -, -, -⟩ := HT4.out.cells
                go_wp2_with fail
                refine (dname_c (c : Int) 2 (by decide) (by decide) _).mono ?_
                rintro e w5 ⟨rfl, HB5⟩
                have HT5 := Lib.hid (HT4.out.below HB5.out)
                clear y0 y1 y2 y3
                cases he : sameS (nameKey (c : Int) 2) s with
                | false =>
                  have hx2 : ((nameKey (c : Int) 2).toList == s.toList) = false := (sameS_beq _ _).trans he
                  have HCN : Hid (charKey s = none) := Lib.hid (by rw [HC.out, if_neg (fun h => by rw [isKey_name (k := ((c : Int), 2)) hvk false he] at h; simp at h)])
                  clear hvk he
                  have hv : v = 210 := by rw [HR.out, HCN.out]; rfl
                  subst hv
                  clear HR
                  obtain ⟨x0, x1, x2, x3, b0, b1, f0, f1⟩ := HT5.out.cells
                  go_wp2
                  refine bodyPost_ret (v := .tuple #[.agg #[.int .i64 0, .int .i64 0], .int .i64 210]) (by simp [results, Tryd.results32, go_sem, b0, b1]) rfl ?_
                  have hm := mod2 w5 w.heap.size (.int .i64 0) (.int .i64 0)
                  have hb := below_mod HT5.out.bel hm HT5.out.bel.size fun i hi e => by omega
                  exact ⟨_, _, rfl, Lib.hid hb⟩
                | true =>
                  have hx2 : ((nameKey (c : Int) 2).toList == s.toList) = true := (sameS_beq _ _).trans he
                  have HCS : Hid (charKey s = some ((c : Int), 2)) := Lib.hid (by rw [HC.out, if_pos ⟨HNE.out, isKey_name (k := ((c : Int), 2)) hvk true he⟩])
                  have hv : v = 0 := by rw [HR.out, HCS.out]; rfl
                  subst hv
                  clear hvk he HR
                  obtain ⟨x0, x1, x2, x3, b0, b1, f0, f1⟩ := HT5.out.cells
                  go_wp2
                  refine bodyPost_ret (v := .tuple #[.agg #[.int .i64 c, .int .i64 2], .int .i64 0]) (by simp [results, Tryd.results32, go_sem, b0, b1]) rfl ?_
                  have hm := mod2 w5 w.heap.size (.int .i64 c) (.int .i64 2)
                  have hb := below_mod HT5.out.bel hm HT5.out.bel.size fun i hi e => by omega
                  exact ⟨_, _, rfl, Lib.hid hb⟩
            · have q1 : ((n : Int) == (rest.size : Int)) = false := by simp; omega
              have q1n : (n == rest.size) = false := by simp; omega
              have HCN : Hid (charKey s = none) := Lib.hid (by rw [HC.out, if_neg (fun h => hn h.1)])
              clear hn
              have hv : v = 210 := by rw [HR.out, HCN.out]; rfl
              subst hv
              clear HR
              obtain ⟨x0, x1, x2, x3, b0, b1, f0, f1⟩ := HT3.out.cells
              go_wp2
              refine bodyPost_ret (v := .tuple #[.agg #[.int .i64 0, .int .i64 0], .int .i64 210]) (by simp [results, Tryd.results32, go_sem, b0, b1]) rfl ?_
              have hm := mod2 (w2.setCell ⟨wr.heap.size, 0, none⟩ (.int .i64 c)) w.heap.size (.int .i64 0) (.int .i64 0)
              have hb := below_mod HT3.out.bel hm HT3.out.bel.size fun i hi e => by omega
              exact ⟨_, _, rfl, Lib.hid hb⟩
        | false =>
          have z3 : (pr.toList == [77, 45]) = false := by
            rw [show ([77, 45] : List UInt8) = (⟨#[77, 45]⟩ : ByteArray).toList by rw [Go.ByteArray.toList_eq]]
            exact (sameS_beq _ _).trans hx
          have hrk : restKey s = (s, 0) := by unfold restKey; rw [hpr, if_neg (fun h => by rw [hx] at h; simp at h)]
          have HRK := Lib.hid hrk
          clear h2 hrk hx hrest
          go_wp2_with fail
          refine (dfirst_c s (by have := HSZ.out; omega) _).mono ?_
          rintro e w2 ⟨rfl, HB2⟩
          have HT2 := Lib.hid (HT.out.below HB2.out)
          cases hd : dfirst s.data.toList with
          | none =>
            have hfo : firstOut s.data.toList = .tuple #[.int .i64 0, .int .i64 0, .bool false] := by unfold firstOut; rw [hd]
            have HC := Lib.hid (charKey_none HRK.out hd)
            rw [hfo]
            clear hd hfo
            have HT3 := Lib.hid (HT2.out.set0 (.int .i64 0))
            obtain ⟨k0, k1, k2, k3, -, -, -, -⟩ := HT2.out.cells
            have hv : v = 210 := by rw [HR.out, HC.out]; rfl
            subst hv
            clear HR
            obtain ⟨x0, x1, x2, x3, b0, b1, f0, f1⟩ := HT3.out.cells
            go_wp2
            refine bodyPost_ret (v := .tuple #[.agg #[.int .i64 0, .int .i64 0], .int .i64 210]) (by simp [results, Tryd.results32, go_sem, b0, b1]) rfl ?_
            have hm := mod2 (w2.setCell ⟨wr.heap.size, 0, none⟩ (.int .i64 0)) w.heap.size (.int .i64 0) (.int .i64 0)
            have hb := below_mod HT3.out.bel hm HT3.out.bel.size fun i hi e => by omega
            exact ⟨_, _, rfl, Lib.hid hb⟩
          | some cn =>
            obtain ⟨c, n⟩ := cn
            have hfo : firstOut s.data.toList = .tuple #[.int .i64 c, .int .i64 n, .bool true] := by unfold firstOut; rw [hd]
            have HC := Lib.hid (charKey_some HRK.out hd)
            obtain ⟨hn4, hc4⟩ := dfirst_le hd
            rw [hfo]
            clear hd hfo
            have HT3 := Lib.hid (HT2.out.set0 (.int .i64 c))
            obtain ⟨k0, k1, k2, k3, -, -, -, -⟩ := HT2.out.cells
            by_cases hn : n = s.size
            · have q1 : ((n : Int) == (s.size : Int)) = true := by rw [hn]; exact beq_self_eq_true _
              have q1n : (n == s.size) = true := by rw [hn]; exact beq_self_eq_true _
              have HNE := Lib.hid hn
              clear hn
              obtain ⟨y0, y1, y2, y3, -, -, -, -⟩ := HT3.out.cells
              cases hvk : validKey (c : Int) 0 with
              | false =>
                go_wp2_with fail
                refine (dvalid_c (c : Int) 0 (by decide) (by decide) _).mono ?_
                rintro e w4 ⟨rfl, HB4⟩
                have HT4 := Lib.hid (HT3.out.below HB4.out)
                have HCN : Hid (charKey s = none) := Lib.hid (by rw [HC.out, if_neg (fun h => by rw [isKey_valid hvk] at h; simp at h)])
                rw [hvk]
                clear hvk y0 y1 y2 y3 k0 k1 k2 k3
                have hv : v = 210 := by rw [HR.out, HCN.out]; rfl
                subst hv
                clear HR
                obtain ⟨x0, x1, x2, x3, b0, b1, f0, f1⟩ := HT4.out.cells
                go_wp2
                refine bodyPost_ret (v := .tuple #[.agg #[.int .i64 0, .int .i64 0], .int .i64 210]) (by simp [results, Tryd.results32, go_sem, b0, b1]) rfl ?_
                have hm := mod2 w4 w.heap.size (.int .i64 0) (.int .i64 0)
                have hb := below_mod HT4.out.bel hm HT4.out.bel.size fun i hi e => by omega
                exact ⟨_, _, rfl, Lib.hid hb⟩
              | true =>
                go_wp2_with fail
                refine (dvalid_c (c : Int) 0 (by decide) (by decide) _).mono ?_
                rintro e w4 ⟨rfl, HB4⟩
                have HT4 := Lib.hid (HT3.out.below HB4.out)
                rw [hvk]
                clear y0 y1 y2 y3 k0 k1 k2 k3
                obtain ⟨y0, y1, y2, y3, -, -, -, -⟩ := HT4.out.cells
                go_wp2_with fail
                refine (dname_c (c : Int) 0 (by decide) (by decide) _).mono ?_
                rintro e w5 ⟨rfl, HB5⟩
                have HT5 := Lib.hid (HT4.out.below HB5.out)
                clear y0 y1 y2 y3
                cases he : sameS (nameKey (c : Int) 0) s with
                | false =>
                  have hx2 : ((nameKey (c : Int) 0).toList == s.toList) = false := (sameS_beq _ _).trans he
                  have HCN : Hid (charKey s = none) := Lib.hid (by rw [HC.out, if_neg (fun h => by rw [isKey_name (k := ((c : Int), 0)) hvk false he] at h; simp at h)])
                  clear hvk he
                  have hv : v = 210 := by rw [HR.out, HCN.out]; rfl
                  subst hv
                  clear HR
                  obtain ⟨x0, x1, x2, x3, b0, b1, f0, f1⟩ := HT5.out.cells
                  go_wp2
                  refine bodyPost_ret (v := .tuple #[.agg #[.int .i64 0, .int .i64 0], .int .i64 210]) (by simp [results, Tryd.results32, go_sem, b0, b1]) rfl ?_
                  have hm := mod2 w5 w.heap.size (.int .i64 0) (.int .i64 0)
                  have hb := below_mod HT5.out.bel hm HT5.out.bel.size fun i hi e => by omega
                  exact ⟨_, _, rfl, Lib.hid hb⟩
                | true =>
                  have hx2 : ((nameKey (c : Int) 0).toList == s.toList) = true := (sameS_beq _ _).trans he
                  have HCS : Hid (charKey s = some ((c : Int), 0)) := Lib.hid (by rw [HC.out, if_pos ⟨HNE.out, isKey_name (k := ((c : Int), 0)) hvk true he⟩])
                  have hv : v = 0 := by rw [HR.out, HCS.out]; rfl
                  subst hv
                  clear hvk he HR
                  obtain ⟨x0, x1, x2, x3, b0, b1, f0, f1⟩ := HT5.out.cells
                  go_wp2
                  refine bodyPost_ret (v := .tuple #[.agg #[.int .i64 c, .int .i64 0], .int .i64 0]) (by simp [results, Tryd.results32, go_sem, b0, b1]) rfl ?_
                  have hm := mod2 w5 w.heap.size (.int .i64 c) (.int .i64 0)
                  have hb := below_mod HT5.out.bel hm HT5.out.bel.size fun i hi e => by omega
                  exact ⟨_, _, rfl, Lib.hid hb⟩
            · have q1 : ((n : Int) == (s.size : Int)) = false := by simp; omega
              have q1n : (n == s.size) = false := by simp; omega
              have HCN : Hid (charKey s = none) := Lib.hid (by rw [HC.out, if_neg (fun h => hn h.1)])
              clear hn
              have hv : v = 210 := by rw [HR.out, HCN.out]; rfl
              subst hv
              clear HR
              obtain ⟨x0, x1, x2, x3, b0, b1, f0, f1⟩ := HT3.out.cells
              go_wp2
              refine bodyPost_ret (v := .tuple #[.agg #[.int .i64 0, .int .i64 0], .int .i64 210]) (by simp [results, Tryd.results32, go_sem, b0, b1]) rfl ?_
              have hm := mod2 (w2.setCell ⟨wr.heap.size, 0, none⟩ (.int .i64 c)) w.heap.size (.int .i64 0) (.int .i64 0)
              have hb := below_mod HT3.out.bel hm HT3.out.bel.size fun i hi e => by omega
              exact ⟨_, _, rfl, Lib.hid hb⟩
      · have z2 : decide ((s.size : Int) > 2) = false := by simp; omega
        have hrk : restKey s = (s, 0) := by unfold restKey; rw [if_neg (fun h => h2 h.1)]
        have HRK := Lib.hid hrk
        clear h2 hrk
        go_wp2_with fail
        refine (dfirst_c s (by have := HSZ.out; omega) _).mono ?_
        rintro e w2 ⟨rfl, HB2⟩
        have HT2 := Lib.hid (HT.out.below HB2.out)
        cases hd : dfirst s.data.toList with
        | none =>
          have hfo : firstOut s.data.toList = .tuple #[.int .i64 0, .int .i64 0, .bool false] := by unfold firstOut; rw [hd]
          have HC := Lib.hid (charKey_none HRK.out hd)
          rw [hfo]
          clear hd hfo
          have HT3 := Lib.hid (HT2.out.set0 (.int .i64 0))
          obtain ⟨k0, k1, k2, k3, -, -, -, -⟩ := HT2.out.cells
          have hv : v = 210 := by rw [HR.out, HC.out]; rfl
          subst hv
          clear HR
          obtain ⟨x0, x1, x2, x3, b0, b1, f0, f1⟩ := HT3.out.cells
          go_wp2
          refine bodyPost_ret (v := .tuple #[.agg #[.int .i64 0, .int .i64 0], .int .i64 210]) (by simp [results, Tryd.results32, go_sem, b0, b1]) rfl ?_
          have hm := mod2 (w2.setCell ⟨wr.heap.size, 0, none⟩ (.int .i64 0)) w.heap.size (.int .i64 0) (.int .i64 0)
          have hb := below_mod HT3.out.bel hm HT3.out.bel.size fun i hi e => by omega
          exact ⟨_, _, rfl, Lib.hid hb⟩
        | some cn =>
          obtain ⟨c, n⟩ := cn
          have hfo : firstOut s.data.toList = .tuple #[.int .i64 c, .int .i64 n, .bool true] := by unfold firstOut; rw [hd]
          have HC := Lib.hid (charKey_some HRK.out hd)
          obtain ⟨hn4, hc4⟩ := dfirst_le hd
          rw [hfo]
          clear hd hfo
          have HT3 := Lib.hid (HT2.out.set0 (.int .i64 c))
          obtain ⟨k0, k1, k2, k3, -, -, -, -⟩ := HT2.out.cells
          by_cases hn : n = s.size
          · have q1 : ((n : Int) == (s.size : Int)) = true := by rw [hn]; exact beq_self_eq_true _
            have q1n : (n == s.size) = true := by rw [hn]; exact beq_self_eq_true _
            have HNE := Lib.hid hn
            clear hn
            obtain ⟨y0, y1, y2, y3, -, -, -, -⟩ := HT3.out.cells
            cases hvk : validKey (c : Int) 0 with
            | false =>
              go_wp2_with fail
              refine (dvalid_c (c : Int) 0 (by decide) (by decide) _).mono ?_
              rintro e w4 ⟨rfl, HB4⟩
              have HT4 := Lib.hid (HT3.out.below HB4.out)
              have HCN : Hid (charKey s = none) := Lib.hid (by rw [HC.out, if_neg (fun h => by rw [isKey_valid hvk] at h; simp at h)])
              rw [hvk]
              clear hvk y0 y1 y2 y3 k0 k1 k2 k3
              have hv : v = 210 := by rw [HR.out, HCN.out]; rfl
              subst hv
              clear HR
              obtain ⟨x0, x1, x2, x3, b0, b1, f0, f1⟩ := HT4.out.cells
              go_wp2
              refine bodyPost_ret (v := .tuple #[.agg #[.int .i64 0, .int .i64 0], .int .i64 210]) (by simp [results, Tryd.results32, go_sem, b0, b1]) rfl ?_
              have hm := mod2 w4 w.heap.size (.int .i64 0) (.int .i64 0)
              have hb := below_mod HT4.out.bel hm HT4.out.bel.size fun i hi e => by omega
              exact ⟨_, _, rfl, Lib.hid hb⟩
            | true =>
              go_wp2_with fail
              refine (dvalid_c (c : Int) 0 (by decide) (by decide) _).mono ?_
              rintro e w4 ⟨rfl, HB4⟩
              have HT4 := Lib.hid (HT3.out.below HB4.out)
              rw [hvk]
              clear y0 y1 y2 y3 k0 k1 k2 k3
              obtain ⟨y0, y1, y2, y3, -, -, -, -⟩ := HT4.out.cells
              go_wp2_with fail
              refine (dname_c (c : Int) 0 (by decide) (by decide) _).mono ?_
              rintro e w5 ⟨rfl, HB5⟩
              have HT5 := Lib.hid (HT4.out.below HB5.out)
              clear y0 y1 y2 y3
              cases he : sameS (nameKey (c : Int) 0) s with
              | false =>
                have hx2 : ((nameKey (c : Int) 0).toList == s.toList) = false := (sameS_beq _ _).trans he
                have HCN : Hid (charKey s = none) := Lib.hid (by rw [HC.out, if_neg (fun h => by rw [isKey_name (k := ((c : Int), 0)) hvk false he] at h; simp at h)])
                clear hvk he
                have hv : v = 210 := by rw [HR.out, HCN.out]; rfl
                subst hv
                clear HR
                obtain ⟨x0, x1, x2, x3, b0, b1, f0, f1⟩ := HT5.out.cells
                go_wp2
                refine bodyPost_ret (v := .tuple #[.agg #[.int .i64 0, .int .i64 0], .int .i64 210]) (by simp [results, Tryd.results32, go_sem, b0, b1]) rfl ?_
                have hm := mod2 w5 w.heap.size (.int .i64 0) (.int .i64 0)
                have hb := below_mod HT5.out.bel hm HT5.out.bel.size fun i hi e => by omega
                exact ⟨_, _, rfl, Lib.hid hb⟩
              | true =>
                have hx2 : ((nameKey (c : Int) 0).toList == s.toList) = true := (sameS_beq _ _).trans he
                have HCS : Hid (charKey s = some ((c : Int), 0)) := Lib.hid (by rw [HC.out, if_pos ⟨HNE.out, isKey_name (k := ((c : Int), 0)) hvk true he⟩])
                have hv : v = 0 := by rw [HR.out, HCS.out]; rfl
                subst hv
                clear hvk he HR
                obtain ⟨x0, x1, x2, x3, b0, b1, f0, f1⟩ := HT5.out.cells
                go_wp2
                refine bodyPost_ret (v := .tuple #[.agg #[.int .i64 c, .int .i64 0], .int .i64 0]) (by simp [results, Tryd.results32, go_sem, b0, b1]) rfl ?_
                have hm := mod2 w5 w.heap.size (.int .i64 c) (.int .i64 0)
                have hb := below_mod HT5.out.bel hm HT5.out.bel.size fun i hi e => by omega
                exact ⟨_, _, rfl, Lib.hid hb⟩
          · have q1 : ((n : Int) == (s.size : Int)) = false := by simp; omega
            have q1n : (n == s.size) = false := by simp; omega
            have HCN : Hid (charKey s = none) := Lib.hid (by rw [HC.out, if_neg (fun h => hn h.1)])
            clear hn
            have hv : v = 210 := by rw [HR.out, HCN.out]; rfl
            subst hv
            clear HR
            obtain ⟨x0, x1, x2, x3, b0, b1, f0, f1⟩ := HT3.out.cells
            go_wp2
            refine bodyPost_ret (v := .tuple #[.agg #[.int .i64 0, .int .i64 0], .int .i64 210]) (by simp [results, Tryd.results32, go_sem, b0, b1]) rfl ?_
            have hm := mod2 (w2.setCell ⟨wr.heap.size, 0, none⟩ (.int .i64 c)) w.heap.size (.int .i64 0) (.int .i64 0)
            have hb := below_mod HT3.out.bel hm HT3.out.bel.size fun i hi e => by omega
            exact ⟨_, _, rfl, Lib.hid hb⟩
end Go.Proofs.YtlmnhdpahmaccaaDoor
