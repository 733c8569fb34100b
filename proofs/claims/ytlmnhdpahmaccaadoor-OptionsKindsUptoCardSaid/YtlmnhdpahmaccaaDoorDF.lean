/- the document's keys: all. -/
import Derived.Test.YtlmnhdpahmaccaaDoorDE
namespace Go.Proofs.YtlmnhdpahmaccaaDoor
open Go.RowKit QP

def keyCells (l : List (Int × Int)) : List Value := l.flatMap fun k => [.int .i64 k.1, .int .i64 k.2]
theorem keyCells_append (a b : List (Int × Int)) : keyCells (a ++ b) = keyCells a ++ keyCells b := by simp [keyCells]
theorem keyCells_len (l : List (Int × Int)) : (keyCells l).length = l.length * 2 := by
  induction l with
  | nil => rfl
  | cons p r ih =>
    have hc : keyCells (p :: r) = [.int .i64 p.1, .int .i64 p.2] ++ keyCells r := by simp [keyCells]
    rw [hc, List.length_append, ih, List.length_cons]
    simp
    omega
theorem keyCells_get (l : List (Int × Int)) (i : Nat) (h : i < l.length) : (keyCells l)[i * 2]? = some (.int .i64 l[i].1) ∧ (keyCells l)[i * 2 + 1]? = some (.int .i64 l[i].2) := by
  induction l generalizing i with
  | nil => simp at h
  | cons p ps ih =>
    have hc : keyCells (p :: ps) = [.int .i64 p.1, .int .i64 p.2] ++ keyCells ps := by simp [keyCells]
    have hl : ([.int .i64 p.1, .int .i64 p.2] : List Value).length = 2 := rfl
    rw [hc]
    cases i with
    | zero => exact ⟨rfl, rfl⟩
    | succ i =>
      have := ih i (by simpa using h)
      refine ⟨?_, ?_⟩
      · rw [List.getElem?_append_right (by omega), hl, show (i + 1) * 2 - 2 = i * 2 by omega]; exact this.1
      · rw [List.getElem?_append_right (by omega), hl, show (i + 1) * 2 + 1 - 2 = i * 2 + 1 by omega]; exact this.2

def lowKeys (m k : Nat) : List (Int × Int) := (List.range k).map fun c : Nat => ((c : Int), (m : Int))
def highKeys (m k : Nat) : List (Int × Int) := (List.range k).map fun j : Nat => (16777217 + (j : Int), (m : Int))
def ahead (m : Nat) : List (Int × Int) := (List.range m).flatMap blockKeys
theorem low_succ (m k : Nat) : lowKeys m (k + 1) = lowKeys m k ++ [((k : Int), (m : Int))] := by simp [lowKeys, List.range_succ]
theorem high_succ (m k : Nat) : highKeys m (k + 1) = highKeys m k ++ [(16777217 + (k : Int), (m : Int))] := by simp [highKeys, List.range_succ]
theorem ahead_succ (m : Nat) : ahead (m + 1) = ahead m ++ (lowKeys m 128 ++ highKeys m 23) := by simp [ahead, List.range_succ, blockKeys, lowKeys, highKeys]
theorem ahead_len (m : Nat) : (ahead m).length = m * 151 := by
  induction m with
  | zero => rfl
  | succ m ih =>
    rw [ahead_succ, List.length_append, ih, List.length_append]
    simp [lowKeys, highKeys]
    omega
theorem low_len (m k : Nat) : (lowKeys m k).length = k := by simp [lowKeys]
theorem high_len (m k : Nat) : (highKeys m k).length = k := by simp [highKeys]

/-- the list of keys that is being made -/
structure ListAt (W w : World) (v : Value) (l : List (Int × Int)) : Prop where
  bel : Below W.heap.size W w
  row : Row w 76 2 v l.length (keyCells l)
  own : ∀ j, v.ownBlock = some j → W.heap.size ≤ j
theorem info_key : (Tryd.prog.info? 76).map (fun i => (i.zero, i.size, i.bytes)) = some (some (.agg #[.int .i64 0, .int .i64 0]), 2, 16) := by kernel_rfl
theorem ListAt.grow {W w w1 : World} {v v' : Value} {l : List (Int × Int)} {k : Int × Int} {o : Obj} (h : ListAt W w v l) (hr : Row w1 76 2 v' (l.length + 1) (keyCells l ++ [.int .i64 k.1, .int .i64 k.2])) (hm : Mod (fun j => v.ownBlock = some j) (w.alloc o) w1)
    (ho : v'.ownBlock = v.ownBlock ∨ v'.ownBlock = some (w.alloc o).heap.size) : ListAt W w1 v' (l ++ [k]) := by
  have hsz := h.bel.size
  refine ⟨below_mod (below_box h.bel o) hm (by simp; omega) fun i hi hf => by have := h.own i hf; omega, ?_, fun j hj => ?_⟩
  · rw [keyCells_append, List.length_append]
    exact hr
  · rcases ho with e | e
    · exact h.own j (e.symm.trans hj)
    · rw [e] at hj
      injection hj with hj
      simp at hj
      omega
set_option maxHeartbeats 8000000 in
set_option maxRecDepth 100000 in
theorem dall_c (w : World) : Calls Tryd.prog 38 #[] w fun e w' => ∃ ao cap, e = .returned (.slice ao 1208 cap) ∧ Rd w' 2 (.slice ao 1208 cap) 1208 (keyCells allKeys) ∧ Hid (Below w.heap.size w w') := by
  obtain ⟨i0, hi, hz0, hz1, hz2⟩ := info_parts info_key
  have HL : Hid (ListAt w w (.slice none 0 0) (ahead 0)) := Lib.hid ⟨Below.refl _ _, Row.nil _ _ _, by simp [Value.ownBlock]⟩
  go_enter Tryd.func38, Tryd.ntmps38
  go_wp2
  go_loopw [1, 2] (fun l m wr => ∃ k : Nat, k ≤ 8 ∧ m = .int .i64 k ∧ Hid (ListAt w wr l (ahead k))) (fun _ m _ => 8 - (intOf m).toNat)
  case atStart => exact ⟨0, Nat.zero_le _, rfl, HL⟩
  case round =>
    clear HL
    obtain ⟨k, hk, rfl, HL⟩ := hrel
    by_cases hlt : k < 8
    · have hk7 : (k : Int) ≤ 7 := by omega
      have HL0 : Hid (ListAt w wr u1 (ahead k ++ lowKeys k 0)) := Lib.hid (by simpa [lowKeys] using HL.out)
      go_wp2
      go_loopw [1, 3] (fun l c wr => ∃ j : Nat, j ≤ 128 ∧ c = .int .i64 j ∧ Hid (ListAt w wr l (ahead k ++ lowKeys k j))) (fun _ c _ => 128 - (intOf c).toNat)
      case atStart => exact ⟨0, Nat.zero_le _, rfl, HL0⟩
      case round =>
        clear HL HL0
        obtain ⟨j, hj, rfl, HL⟩ := hrel
        by_cases hjl : j < 128
        · have hj7 : (j : Int) < 128 := by omega
          have hlen : (ahead k ++ lowKeys k j).length = k * 151 + j := by rw [List.length_append, ahead_len, low_len]
          have HR0 := Lib.hid HL.out.row
          go_wp2_with (at_builtin; refine wpList_append_row (v := u1) rfl (.tmp 13) (.tmp 17) 86 rfl 76 i0 (.agg #[.int .i64 0, .int .i64 0]) 2 16 Tryd.underlying86 hi hz0 hz1 hz2 rfl (by decide) rfl (HR0.out.alloc _) rfl (Rd.box _ _ 2 1 _ (by simp) rfl) (by simp [Value.oneCell']) (by rw [hlen]; simp [maxLen]; omega) (by rw [hlen]; omega) ?_; intro v' w2 hrow hmod hown; have HLN := Lib.hid (HL.out.grow (k := ((j : Int), (k : Int))) hrow hmod hown); clear hrow hmod hown)
          rw [List.append_assoc, ← low_succ] at HLN
          clear HR0 HL
          go_roundw
          case rel => exact ⟨j + 1, by omega, by go_num, HLN⟩
          case measure => simp [intOf]; omega
        · have hje : j = 128 := by omega
          subst hje
          rw [show ((128 : Nat) : Int) = 128 from rfl]
          have HL1 : Hid (ListAt w wr u1 (ahead k ++ (lowKeys k 128 ++ highKeys k 0))) := Lib.hid (by simpa [highKeys] using HL.out)
          clear HL
          go_wp2
          go_loopw [1, 4] (fun l c wr => ∃ j : Nat, j ≤ 23 ∧ c = .int .i64 (16777217 + (j : Int)) ∧ Hid (ListAt w wr l (ahead k ++ (lowKeys k 128 ++ highKeys k j)))) (fun _ c _ => 16777240 - (intOf c).toNat)
          case atStart => exact ⟨0, Nat.zero_le _, rfl, HL1⟩
          case round =>
            clear HL1
            obtain ⟨j, hj, rfl, HL⟩ := hrel
            by_cases hjl : j < 23
            · have hj7 : 16777217 + (j : Int) ≤ 16777239 := by omega
              have hlen : (ahead k ++ (lowKeys k 128 ++ highKeys k j)).length = k * 151 + (128 + j) := by rw [List.length_append, List.length_append, ahead_len, low_len, high_len]
              have HR0 := Lib.hid HL.out.row
              go_wp2_with (at_builtin; refine wpList_append_row (v := u1) rfl (.tmp 23) (.tmp 27) 86 rfl 76 i0 (.agg #[.int .i64 0, .int .i64 0]) 2 16 Tryd.underlying86 hi hz0 hz1 hz2 rfl (by decide) rfl (HR0.out.alloc _) rfl (Rd.box _ _ 2 1 _ (by simp) rfl) (by simp [Value.oneCell']) (by rw [hlen]; simp [maxLen]; omega) (by rw [hlen]; omega) ?_; intro v' w2 hrow hmod hown; have HLN := Lib.hid (HL.out.grow (k := (16777217 + (j : Int), (k : Int))) hrow hmod hown); clear hrow hmod hown)
              rw [List.append_assoc, List.append_assoc, ← high_succ] at HLN
              clear HR0 HL
              go_roundw
              case rel => exact ⟨j + 1, by omega, by go_num, HLN⟩
              case measure => simp [intOf]; omega
            · have hje : j = 23 := by omega
              subst hje
              have z : ¬ (16777217 + ((23 : Nat) : Int) ≤ 16777239) := by omega
              rw [← ahead_succ] at HL
              go_wp2
              go_roundw
              case rel => exact ⟨k + 1, by omega, by go_num, HL⟩
              case measure => simp [intOf]; omega
    · have hke : k = 8 := by omega
      subst hke
      obtain ⟨ao, cap, hv, -⟩ := id HL.out.row
      have hlen : (ahead 8).length = 1208 := by rw [ahead_len]
      rw [hlen] at hv
      subst hv
      have HR := Lib.hid HL.out.row.rd
      rw [hlen] at HR
      go_wp2
      go_ret
      exact ⟨ao, cap, rfl, HR.out, Lib.hid HL.out.bel⟩
end Go.Proofs.YtlmnhdpahmaccaaDoor
