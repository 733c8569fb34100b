/- the document's keys: words, utf8. -/
import Derived.Test.YtlmnhdpahmaccaaDoorDA
import Derived.Laws.BytesString
import Derived.Laws.Cells
namespace Go.Proofs.YtlmnhdpahmaccaaDoor
open Go.RowKit QP

def ofInts (ns : List Int) : ByteArray := ⟨(ns.map fun n => UInt8.ofNat n.toNat).toArray⟩
theorem foldl_push : ∀ (ns : List Int) (s : ByteArray), (ns.foldl (fun r n => r.push (UInt8.ofNat n.toNat)) s).data.toList = s.data.toList ++ ns.map fun n => UInt8.ofNat n.toNat
  | [], s => by simp
  | n :: r, s => by rw [List.foldl_cons, foldl_push r]; simp [ByteArray.push]
theorem run_box_string (w : World) (ns : List Int) : (convert 101 9 (.slice (some ⟨w.heap.size, 0, none⟩) ns.length ns.length)).run Tryd.prog (w.alloc (.cells (ns.map (Value.int .u8)).toArray 5)) = .ok (.string (ofInts ns)) (w.alloc (.cells (ns.map (Value.int .u8)).toArray 5)) := by
  rw [run_convert_bytes_string _ _ _ _ _ _ _ Tryd.underlying101 Tryd.underlying5 Tryd.underlying9]
  have hl := run_loadCells_list (P := Tryd.prog) (w := w.alloc (.cells (ns.map (Value.int .u8)).toArray 5)) ⟨w.heap.size, 0, none⟩ (ns.map (Value.int .u8)) (fun j v hj => by
    have := (Blk.new w 5 (ns.map (Value.int .u8)).toArray).cell j
    rw [add_lit, Nat.zero_add, this]
    simpa using hj)
  rw [List.length_map] at hl
  rw [run_bytesToString _ _ _ _ ns hl]
  congr 2
  exact bytes_ext (by rw [foldl_push]; rfl)

set_option maxHeartbeats 4000000 in
set_option maxRecDepth 100000 in
theorem dutf8_c (c : Nat) (hc : c < 2097152) (w : World) : Calls Tryd.prog 55 #[.int .i64 c] w fun e w' => e = .returned (.string ⟨(dutf8 c).toArray⟩) ∧ Hid (Below w.heap.size w w') := by
  have HB : ∀ o, Hid (Below w.heap.size w (w.alloc o)) := fun o => Lib.hid ((Below.refl _ _).alloc (Nat.le_refl _) o)
  have hc2 : (c : Int) < 2097152 := by omega
  by_cases a1 : c < 128
  · have q1 : decide ((c : Int) < 128) = true := by simp; omega
    have hb := run_box_string w [(c : Int)]
    simp only [List.map_cons, List.map_nil, List.length_cons, List.length_nil, Nat.zero_add] at hb
    have hv : ofInts [(c : Int)] = ⟨(dutf8 c).toArray⟩ := by unfold dutf8 ofInts; rw [if_pos a1]; rfl
    rw [hv] at hb
    generalize (⟨(dutf8 c).toArray⟩ : ByteArray) = t at hb ⊢
    clear hv
    go_enter Tryd.func55, Tryd.ntmps55
    go_wp2
    go_ret
    exact ⟨rfl, HB _⟩
  have q1 : decide ((c : Int) < 128) = false := by simp; omega
  by_cases a2 : c < 2048
  · have q2 : decide ((c : Int) < 2048) = true := by simp; omega
    have hb := run_box_string w [192 + (c : Int) / 64, 128 + (c : Int) % 64]
    simp only [List.map_cons, List.map_nil, List.length_cons, List.length_nil, Nat.zero_add] at hb
    have hv : ofInts [192 + (c : Int) / 64, 128 + (c : Int) % 64] = ⟨(dutf8 c).toArray⟩ := by
      unfold dutf8 ofInts
      rw [if_neg a1, if_pos a2]
      simp only [List.map_cons, List.map_nil, show (192 + (c : Int) / 64).toNat = 192 + c / 64 by omega, show (128 + (c : Int) % 64).toNat = 128 + c % 64 by omega]
    rw [hv] at hb
    generalize (⟨(dutf8 c).toArray⟩ : ByteArray) = t at hb ⊢
    clear hv
    go_enter Tryd.func55, Tryd.ntmps55
    go_wp2
    go_ret
    exact ⟨rfl, HB _⟩
  have q2 : decide ((c : Int) < 2048) = false := by simp; omega
  by_cases a3 : c < 65536
  · have q3 : decide ((c : Int) < 65536) = true := by simp; omega
    have hb := run_box_string w [224 + (c : Int) / 4096, 128 + (c : Int) / 64 % 64, 128 + (c : Int) % 64]
    simp only [List.map_cons, List.map_nil, List.length_cons, List.length_nil, Nat.zero_add] at hb
    have hv : ofInts [224 + (c : Int) / 4096, 128 + (c : Int) / 64 % 64, 128 + (c : Int) % 64] = ⟨(dutf8 c).toArray⟩ := by
      unfold dutf8 ofInts
      rw [if_neg a1, if_neg a2, if_pos a3]
      simp only [List.map_cons, List.map_nil, show (224 + (c : Int) / 4096).toNat = 224 + c / 4096 by omega, show (128 + (c : Int) / 64 % 64).toNat = 128 + c / 64 % 64 by omega, show (128 + (c : Int) % 64).toNat = 128 + c % 64 by omega]
    rw [hv] at hb
    generalize (⟨(dutf8 c).toArray⟩ : ByteArray) = t at hb ⊢
    clear hv
    go_enter Tryd.func55, Tryd.ntmps55
    go_wp2
    go_ret
    exact ⟨rfl, HB _⟩
  · have q3 : decide ((c : Int) < 65536) = false := by simp; omega
    have hb := run_box_string w [240 + (c : Int) / 262144, 128 + (c : Int) / 4096 % 64, 128 + (c : Int) / 64 % 64, 128 + (c : Int) % 64]
    simp only [List.map_cons, List.map_nil, List.length_cons, List.length_nil, Nat.zero_add] at hb
    have hv : ofInts [240 + (c : Int) / 262144, 128 + (c : Int) / 4096 % 64, 128 + (c : Int) / 64 % 64, 128 + (c : Int) % 64] = ⟨(dutf8 c).toArray⟩ := by
      unfold dutf8 ofInts
      rw [if_neg a1, if_neg a2, if_neg a3]
      simp only [List.map_cons, List.map_nil, show (240 + (c : Int) / 262144).toNat = 240 + c / 262144 by omega, show (128 + (c : Int) / 4096 % 64).toNat = 128 + c / 4096 % 64 by omega, show (128 + (c : Int) / 64 % 64).toNat = 128 + c / 64 % 64 by omega, show (128 + (c : Int) % 64).toNat = 128 + c % 64 by omega]
    rw [hv] at hb
    generalize (⟨(dutf8 c).toArray⟩ : ByteArray) = t at hb ⊢
    clear hv
    go_enter Tryd.func55, Tryd.ntmps55
    go_wp2
    go_ret
    exact ⟨rfl, HB _⟩

/-- the special keys' words -/
def wordCells : List Value := (shapes.map fun s => Value.string s.name) ++ [.string btab]
set_option maxHeartbeats 2000000 in
set_option maxRecDepth 100000 in
theorem dwords_c (w : World) : Calls Tryd.prog 54 #[] w fun e w' => ∃ g, e = .returned (.slice (some ⟨g, 0, none⟩) 23 23) ∧ Rd w' 1 (.slice (some ⟨g, 0, none⟩) 23 23) 23 wordCells ∧ Below w.heap.size w w' := by
  go_enter Tryd.func54, Tryd.ntmps54
  go_wp2
  go_ret
  exact ⟨_, rfl, Rd.box _ _ 1 23 _ rfl rfl, (Below.refl _ _).alloc (Nat.le_refl _) _⟩
end Go.Proofs.YtlmnhdpahmaccaaDoor
