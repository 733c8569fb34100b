/- slices.Sort and slices.Compact at a row of whole numbers of the call's own. -/
import Derived.Test.YtbfmfliknhcoeaaB
import Derived.Lib.SortBridge
namespace Go.Proofs.Ytbfmfliknhcoeaa
open Go.RowKit Go.Sort QP

def ints (l : List Int) : List Value := l.map (Value.int .i64)
theorem ints_length (l : List Int) : (ints l).length = l.length := by simp [ints]
theorem ints_get (l : List Int) (i : Nat) (h : i < l.length) : (ints l)[i]? = some (.int .i64 l[i]) := by simp [ints, h]

theorem Row.setCells {e : TypeId} {sz n cap g off : Nat} : ∀ (vs : List Value) (j : Nat) (xs : List Value) (w : World), Row w e sz (.slice (some ⟨g, off, none⟩) n cap) n xs → j + vs.length ≤ xs.length →
    Row (w.setCells g (off + j) vs) e sz (.slice (some ⟨g, off, none⟩) n cap) n (xs.take j ++ vs ++ xs.drop (j + vs.length))
  | [], j, xs, w, h, _ => by simpa [World.setCells] using h
  | v :: vs, j, xs, w, h, hl => by
    simp only [List.length_cons] at hl
    have h2 := Row.setCells vs (j + 1) _ _ (h.set_ (j := j) v) (by rw [List.length_set]; omega)
    have e1 : (xs.set j v).take (j + 1) = xs.take j ++ [v] := by
      rw [List.take_succ_eq_append_getElem (by rw [List.length_set]; omega), List.take_set, List.set_eq_of_length_le (by rw [List.length_take]; omega)]
      simp
    have e2 : (xs.set j v).drop (j + 1 + vs.length) = xs.drop (j + 1 + vs.length) := by
      rw [List.drop_set, if_pos (by omega)]
    rw [e1, e2] at h2
    have e3 : xs.take j ++ v :: vs ++ xs.drop (j + (v :: vs).length) = xs.take j ++ [v] ++ vs ++ xs.drop (j + 1 + vs.length) := by
      rw [List.length_cons, show j + (vs.length + 1) = j + 1 + vs.length by omega]; simp
    rw [e3]
    exact h2
theorem Row.grow {e : TypeId} {sz n : Nat} {v : Value} {xs : List Value} {w : World} (h : Row w e sz v n xs) (os : Array Obj) : Row (Go.Sort.grow w os) e sz v n xs :=
  h.keep (by simp) fun k _ hk => heap_grow_old w os hk
theorem Row.take {e : TypeId} {sz n m cap : Nat} {a : Option Addr} {xs : List Value} {w : World} (h : Row w e sz (.slice a n cap) n xs) (hm : m ≤ n) : Row w e sz (.slice a m cap) m (xs.take (m * sz)) := by
  obtain ⟨ao, cap', hv, h1, h2, h3, h4, h5⟩ := h
  cases hv
  have hms : m * sz ≤ n * sz := Nat.mul_le_mul_right _ hm
  refine ⟨_, _, rfl, by rw [List.length_take, h1]; omega, by omega, h3, fun hc => ?_, fun k hk => h5 k (by rw [← hk]; cases a <;> rfl)⟩
  obtain ⟨g, off, cur, e1, e2, e3, e4⟩ := h4 hc
  refine ⟨g, off, cur, e1, e2, e3, ?_⟩
  rw [← e4, List.take_take, Nat.min_eq_left hms]

theorem mod_setCells {F : Nat → Prop} {w : World} {g : Nat} (hg : F g) : ∀ (vs : List Value) (o : Nat) (w1 : World), Mod F w w1 → Mod F w (w1.setCells g o vs)
  | [], _, _, h => h
  | v :: vs, o, _, h => mod_setCells hg vs (o + 1) _ (h.setCell (a := ⟨g, o, none⟩) (.inl hg) v)
theorem mod_growW {F : Nat → Prop} {w w1 : World} (h : Mod F w w1) (os : Array Obj) : Mod F w (Go.Sort.grow w1 os) :=
  h.trans' (F' := fun _ => False) ⟨rfl, rfl, rfl, by simp, fun i hi _ => heap_grow_old w1 os hi⟩ (fun _ _ hf => hf.elim)

theorem holds_row {w : World} {g off cap : Nat} {xs : List Int} (h : Row w 3 1 (.slice (some ⟨g, off, none⟩) xs.length cap) xs.length (ints xs)) : Holds (Value.int .i64) w g off xs.toArray := by
  intro j hj
  have hj' : j < xs.length := by simpa using hj
  obtain ⟨g', off', cap', cur, hv, _, _, _, hc, hf⟩ := h.at_ (by omega)
  cases hv
  refine ⟨?_, hf _⟩
  rw [hc j _ (ints_get xs j hj')]
  simp [hj']

theorem sort_row (v : Value) (xs : List Int) (w : World) (h : Row w 3 1 v xs.length (ints xs)) (hn : xs.length ≤ 1000000000) :
    Calls Try.prog 43 #[v] w fun e w' => e = .returned (.tuple #[]) ∧ Row w' 3 1 v xs.length (ints (xs.mergeSort fun x y => decide (x ≤ y))) ∧ Mod (fun k => v.ownBlock = some k) w w' := by
  rcases Nat.eq_zero_or_pos xs.length with h0 | h0
  · have hx : xs = [] := List.eq_nil_of_length_eq_zero h0
    subst hx
    obtain ⟨ao, cap, rfl, _⟩ := id h
    refine (Try.slices_Sort_int_none ao cap w).mono ?_
    rintro e w' ⟨he, hw⟩
    subst hw
    exact ⟨he, by simpa using h, Mod.refl _ _⟩
  · obtain ⟨g, off, cap, cur, rfl, hnc, hcur, _⟩ := h.at_ h0
    refine (Try.slices_Sort_int g off cap xs w (holds_row h) (lt_of_heap hcur) (by omega)).mono ?_
    rintro e w' ⟨he, n, os, hw⟩
    have hl : (xs.mergeSort fun x y => decide (x ≤ y)).length = xs.length := List.length_mergeSort _
    rw [Lib.putRow_eq_setCells (Value.int .i64) w g off xs.toArray (xs.mergeSort fun x y => decide (x ≤ y)) n (holds_row h) (by rw [hl]; simp)] at hw
    subst hw
    refine ⟨he, ?_, mod_growW (mod_setCells (by simp [Value.ownBlock]) _ _ _ ((Mod.refl _ w).drewN n)) os⟩
    have h2 := Row.setCells (ints (xs.mergeSort fun x y => decide (x ≤ y))) 0 _ _ (h.drewN n) (by rw [ints_length, ints_length]; omega)
    rw [Nat.add_zero, List.take_zero, List.nil_append, Nat.zero_add, List.drop_eq_nil_of_le (by rw [ints_length, ints_length]; omega), List.append_nil] at h2
    exact h2.grow os

theorem compact_row (v : Value) (xs : List Int) (w : World) (h : Row w 3 1 v xs.length (ints xs)) (hn : xs.length ≤ 1000000000) :
    Calls Try.prog 44 #[v] w fun e w' => ∃ v', e = .returned v' ∧ Row w' 3 1 v' (Lib.compact xs).length (ints (Lib.compact xs)) ∧ v'.ownBlock = v.ownBlock ∧ Mod (fun k => v.ownBlock = some k) w w' := by
  rcases Nat.eq_zero_or_pos xs.length with h0 | h0
  · have hx : xs = [] := List.eq_nil_of_length_eq_zero h0
    subst hx
    obtain ⟨ao, cap, rfl, _⟩ := id h
    refine (Try.slices_Compact_int_empty ao cap w).mono ?_
    rintro e w' ⟨he, hw⟩
    subst hw
    exact ⟨_, he, by simpa [Lib.compact, Lib.compactUpTo] using h, rfl, Mod.refl _ _⟩
  · obtain ⟨g, off, cap, cur, rfl, hnc, hcur, _⟩ := h.at_ h0
    refine (Try.slices_Compact_int g off cap xs w (holds_row h) (by omega) hnc).mono ?_
    rintro e w' ⟨he, q, hw⟩
    have hl := Lib.compact_length_le xs
    have hl2 : (Lib.compact xs ++ List.replicate (xs.length - (Lib.compact xs).length) 0).length = xs.length := by rw [List.length_append, List.length_replicate]; omega
    rw [Lib.putRow_eq_setCells (Value.int .i64) w g off xs.toArray (Lib.compact xs ++ List.replicate (xs.length - (Lib.compact xs).length) 0) q (holds_row h) (by rw [hl2]; simp)] at hw
    subst hw
    refine ⟨_, he, ?_, rfl, mod_setCells (by simp [Value.ownBlock]) _ _ _ ((Mod.refl _ w).drewN q)⟩
    have h2 := Row.setCells (ints (Lib.compact xs ++ List.replicate (xs.length - (Lib.compact xs).length) 0)) 0 _ _ (h.drewN q) (by rw [ints_length, ints_length]; omega)
    rw [Nat.add_zero, List.take_zero, List.nil_append, Nat.zero_add, List.drop_eq_nil_of_le (by rw [ints_length, ints_length]; omega), List.append_nil] at h2
    have h3 := h2.take (m := (Lib.compact xs).length) hl
    have e1 : (ints (Lib.compact xs ++ List.replicate (xs.length - (Lib.compact xs).length) 0)).take ((Lib.compact xs).length * 1) = ints (Lib.compact xs) := by
      rw [Nat.mul_one, ints, List.map_append]
      have := ints_length (Lib.compact xs)
      rw [← this]
      exact List.take_left
    rw [e1] at h3
    exact h3
end Go.Proofs.Ytbfmfliknhcoeaa
