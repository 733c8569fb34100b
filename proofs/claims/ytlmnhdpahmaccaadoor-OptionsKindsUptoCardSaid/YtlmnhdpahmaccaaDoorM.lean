/- Words on memory for the proofs of this seat: what has turned, rows of cells that begin anywhere in their block. -/
import Derived.WalkKit
import Derived.Below
import Derived.Deep.Draws
import Derived.Lib.Hide
namespace Go.Proofs.YtlmnhdpahmaccaaDoor
open Go.RowKit

/-- w' is w but for new blocks and for the blocks of F. -/
structure Mod (F : Nat → Prop) (w w' : World) : Prop where
  os : w'.os = w.os
  tape : w'.tape = w.tape
  output : w'.output = w.output
  size : w.heap.size ≤ w'.heap.size
  block : ∀ k, k < w.heap.size → ¬ F k → w'.heap[k]? = w.heap[k]?

namespace Mod
variable {F F' : Nat → Prop} {w w1 w2 : World}
theorem refl (F : Nat → Prop) (w : World) : Mod F w w := ⟨rfl, rfl, rfl, Nat.le_refl _, fun _ _ _ => rfl⟩
theorem trans' (h : Mod F w w1) (k : Mod F' w1 w2) (hF : ∀ i, i < w.heap.size → F' i → F i) : Mod F w w2 :=
  ⟨k.os.trans h.os, k.tape.trans h.tape, k.output.trans h.output, Nat.le_trans h.size k.size,
    fun i hi hn => (k.block i (Nat.lt_of_lt_of_le hi h.size) (fun hf => hn (hF i hi hf))).trans (h.block i hi hn)⟩
theorem trans (h : Mod F w w1) (k : Mod F w1 w2) : Mod F w w2 := h.trans' k fun _ _ h => h
theorem mono (h : Mod F w w1) (hF : ∀ i, F i → F' i) : Mod F' w w1 :=
  ⟨h.os, h.tape, h.output, h.size, fun i hi hn => h.block i hi fun hf => hn (hF i hf)⟩
theorem drew (h : Mod F w w1) : Mod F w w1.drew := ⟨h.os, h.tape, h.output, h.size, h.block⟩
theorem drewN (h : Mod F w w1) (n : Nat) : Mod F w (w1.drewN n) := ⟨h.os, h.tape, h.output, h.size, h.block⟩
theorem alloc (h : Mod F w w1) (o : Obj) : Mod F w (w1.alloc o) :=
  h.trans' (F' := fun _ => False) ⟨rfl, rfl, rfl, by simp, fun i hi _ => Below.heap_alloc w1 o i hi⟩ (fun _ _ hf => hf.elim)
theorem setCell (h : Mod F w w1) {a : Addr} (ha : F a.block ∨ w.heap.size ≤ a.block) (u : Value) : Mod F w (w1.setCell a u) :=
  ⟨h.os, h.tape, h.output, by simpa [World.setCell] using h.size, fun i hi hn => by
    rw [Below.heap_setCell w1 a u i (by rintro rfl; rcases ha with ha | ha; exact hn ha; omega)]
    exact h.block i hi hn⟩
theorem of_below (h : Below w.heap.size w w1) (F : Nat → Prop) : Mod F w w1 := ⟨h.os, h.tape, h.output, h.size, fun i hi _ => h.block i hi⟩
theorem of_grown {row : Option Nat} (h : w.grownBy w1 row) : Mod (fun k => row = some k) w w1 :=
  ⟨h.os, h.tape, h.output, h.size, fun i hi hn => h.block i hi fun e => hn e.symm⟩
/-- What is new alone has turned. -/
theorem below {B : Nat} (h : Mod F w w1) (hB : B ≤ w.heap.size) (hF : ∀ i, i < B → ¬ F i) : Below B w w1 :=
  ⟨h.os, h.tape, h.output, h.size, fun k hk => h.block k (by omega) (hF k hk)⟩
theorem heap (h : Mod F w w1) {k : Nat} {o : Obj} (ho : w.heap[k]? = some o) (hn : ¬ F k) : w1.heap[k]? = some o :=
  (h.block k (Array.getElem?_eq_some_iff.1 ho).1 hn).trans ho
end Mod

theorem below_mod {B : Nat} {a w w1 : World} {F : Nat → Prop} (h : Below B a w) (k : Mod F w w1) (hB : B ≤ w.heap.size) (hF : ∀ i, i < B → ¬ F i) : Below B a w1 :=
  h.trans (k.below hB hF)

theorem lt_of_heap {w : World} {k : Nat} {o : Obj} (h : w.heap[k]? = some o) : k < w.heap.size := (Array.getElem?_eq_some_iff.1 h).1

/-- A block that is known whole: none of its cells is frozen. -/
def Blk (w : World) (g : Nat) (t : TypeId) (cs : Array Value) : Prop := w.heap[g]? = some (.cells cs t (0, 0))
namespace Blk
variable {w w' : World} {g : Nat} {t : TypeId} {cs : Array Value}
theorem lt (h : Blk w g t cs) : g < w.heap.size := lt_of_heap h
theorem cell (h : Blk w g t cs) (i : Nat) : w.cell? ⟨g, i, none⟩ = cs[i]? := cell_of_row w g i cs t (0, 0) h
theorem frozen (h : Blk w g t cs) (i : Nat) : w.frozen? ⟨g, i, none⟩ = false := by
  unfold Blk at h
  simp [World.frozen?, h]
theorem new (w : World) (t : TypeId) (cs : Array Value) : Blk (w.alloc (.cells cs t)) w.heap.size t cs := heap_alloc_new w _
theorem drew (h : Blk w g t cs) : Blk w.drew g t cs := h
theorem drewN (h : Blk w g t cs) (n : Nat) : Blk (w.drewN n) g t cs := h
theorem alloc (h : Blk w g t cs) (o : Obj) : Blk (w.alloc o) g t cs := (Below.heap_alloc w o g h.lt).trans h
theorem set_ (h : Blk w g t cs) (i : Nat) (u : Value) : Blk (w.setCell ⟨g, i, none⟩ u) g t (cs.setIfInBounds i u) := by
  unfold Blk at h ⊢
  simp [World.setCell, Array.getElem?_modify, h]
theorem far (h : Blk w g t cs) {p : Addr} (hp : g ≠ p.block) (u : Value) : Blk (w.setCell p u) g t cs := (Below.heap_setCell w p u g hp).trans h
theorem keep {F : Nat → Prop} (h : Blk w g t cs) (hm : Mod F w w') (hn : ¬ F g) : Blk w' g t cs := hm.heap h hn
end Blk

theorem block_of_add' (a : Addr) (n : Nat) : (a.add n).block = a.block := by unfold Addr.add; split <;> rfl

/-- The slice value v, of n elements of sz cells each, holds the cells xs; where it has room, the room lies in one block of element type e, none of it frozen: it may be written, and be appended to. -/
def Row (w : World) (e : TypeId) (sz : Nat) (v : Value) (n : Nat) (xs : List Value) : Prop :=
  ∃ ao cap, v = .slice ao n cap ∧ xs.length = n * sz ∧ n ≤ cap ∧ cap ≤ maxLen ∧
    (0 < cap → ∃ g off cur, ao = some ⟨g, off, none⟩ ∧ w.heap[g]? = some (.cells cur e (0, 0)) ∧ off + cap * sz ≤ cur.size ∧ (cur.toList.drop off).take (n * sz) = xs) ∧
    ∀ k, v.ownBlock = some k → k < w.heap.size

namespace Row
variable {w w' : World} {e : TypeId} {sz n : Nat} {v : Value} {xs : List Value}
theorem nil (w : World) (e : TypeId) (sz : Nat) : Row w e sz (.slice none 0 0) 0 [] :=
  ⟨none, 0, rfl, by simp, Nat.le_refl _, by simp [maxLen], fun h => absurd h (Nat.lt_irrefl _), by simp [Value.ownBlock]⟩
theorem lt (h : Row w e sz v n xs) : ∀ k, v.ownBlock = some k → k < w.heap.size := by
  obtain ⟨_, _, _, _, _, _, _, h⟩ := h
  exact h
theorem keep (h : Row w e sz v n xs) (hs : w.heap.size ≤ w'.heap.size) (hk : ∀ k, v.ownBlock = some k → k < w.heap.size → w'.heap[k]? = w.heap[k]?) : Row w' e sz v n xs := by
  obtain ⟨ao, cap, rfl, h1, h2, h3, h4, h5⟩ := h
  refine ⟨ao, cap, rfl, h1, h2, h3, fun hc => ?_, fun k hk => Nat.lt_of_lt_of_le (h5 k hk) hs⟩
  obtain ⟨g, off, cur, rfl, hg, r⟩ := h4 hc
  exact ⟨g, off, cur, rfl, (hk g (by simp [Value.ownBlock]) (lt_of_heap hg)).trans hg, r⟩
theorem mod {F : Nat → Prop} (h : Row w e sz v n xs) (hm : Mod F w w') (hn : ∀ k, v.ownBlock = some k → ¬ F k) : Row w' e sz v n xs :=
  h.keep hm.size fun k hk hlt => hm.block k hlt (hn k hk)
theorem below {B : Nat} (h : Row w e sz v n xs) (hb : Below B w w') (hn : ∀ k, v.ownBlock = some k → k < B) : Row w' e sz v n xs :=
  h.keep hb.size fun k hk _ => hb.block k (hn k hk)
theorem drew (h : Row w e sz v n xs) : Row w.drew e sz v n xs := h
theorem drewN (h : Row w e sz v n xs) (k : Nat) : Row (w.drewN k) e sz v n xs := h
theorem alloc (h : Row w e sz v n xs) (o : Obj) : Row (w.alloc o) e sz v n xs := h.keep (by simp) fun k _ hlt => Below.heap_alloc w o k hlt
theorem far (h : Row w e sz v n xs) {p : Addr} (hp : v.ownBlock ≠ some p.block) (u : Value) : Row (w.setCell p u) e sz v n xs :=
  h.keep (by simp [World.setCell]) fun k hk _ => Below.heap_setCell w p u k (fun e => hp (e ▸ hk))
/-- Where it lies, and its cells. -/
theorem at_ (h : Row w e sz v n xs) (hn : 0 < n) : ∃ g off cap cur, v = .slice (some ⟨g, off, none⟩) n cap ∧ n ≤ cap ∧ w.heap[g]? = some (.cells cur e (0, 0)) ∧ off + cap * sz ≤ cur.size ∧
    (∀ j u, xs[j]? = some u → w.cell? ⟨g, off + j, none⟩ = some u) ∧ ∀ j, w.frozen? ⟨g, j, none⟩ = false := by
  obtain ⟨ao, cap, rfl, h1, h2, h3, h4, _⟩ := h
  obtain ⟨g, off, cur, rfl, hg, h5, h6⟩ := h4 (by omega)
  refine ⟨g, off, cap, cur, rfl, h2, hg, h5, fun j u hu => ?_, fun j => by simp [World.frozen?, hg]⟩
  rw [cell_of_row w g (off + j) cur e (0, 0) hg]
  rw [← h6, List.getElem?_take] at hu
  split at hu
  · simpa using hu
  · cases hu
/-- Its first element cut off: 's[1:]', as the model cuts. -/
theorem cut {ao : Option Addr} {cap k : Nat} (h : Row w e sz (.slice ao n cap) n xs) (hk : k ≤ n) :
    Row w e sz (.slice (if cap = k then ao else ao.map (·.add (k * sz))) (n - k) (cap - k)) (n - k) (xs.drop (k * sz)) := by
  obtain ⟨ao', cap', hv, h1, h2, h3, h4, hlt⟩ := h
  cases hv
  refine ⟨_, _, rfl, by rw [List.length_drop, h1, Nat.sub_mul], by omega, by omega, fun hc => ?_, fun b hb => hlt b ?_⟩
  rotate_left
  · rw [← hb]
    split
    · cases ao <;> rfl
    · cases ao <;> simp [Value.ownBlock, block_of_add']
  obtain ⟨g, off, cur, rfl, hg, h5, h6⟩ := h4 (by omega)
  have hne : ¬ cap = k := by omega
  have hadd : (⟨g, off, none⟩ : Addr).add (k * sz) = ⟨g, off + k * sz, none⟩ := by unfold Addr.add; split <;> simp_all
  have hkc : k + (cap - k) = cap := Nat.add_sub_cancel' (by omega)
  have hm : k * sz + (cap - k) * sz = cap * sz := by rw [← Nat.add_mul, hkc]
  refine ⟨g, off + k * sz, cur, ?_, hg, by omega, ?_⟩
  · rw [if_neg hne]; simp [hadd]
  · rw [← h6, List.drop_take, List.drop_drop, Nat.sub_mul]
/-- One of its cells is written. -/
theorem set_ {g off cap j : Nat} (h : Row w e sz (.slice (some ⟨g, off, none⟩) n cap) n xs) (u : Value) :
    Row (w.setCell ⟨g, off + j, none⟩ u) e sz (.slice (some ⟨g, off, none⟩) n cap) n (xs.set j u) := by
  obtain ⟨ao, cap', hv, h1, h2, h3, h4, hlt⟩ := h
  cases hv
  refine ⟨_, _, rfl, by rw [List.length_set]; exact h1, h2, h3, fun hc => ?_, fun b hb => by simpa [World.setCell] using hlt b hb⟩
  obtain ⟨g', off', cur, he, hg, h5, h6⟩ := h4 hc
  cases he
  refine ⟨g, off, cur.setIfInBounds (off + j) u, rfl, Blk.set_ (t := e) hg (off + j) u, by simpa using h5, ?_⟩
  rw [← h6, Array.toList_setIfInBounds, List.drop_set, if_neg (by omega), List.take_set, show off + j - off = j by omega]
end Row

/-! ### cells that are read -/
/-- The slice value v, of n elements of sz cells each, reads as the cells xs. -/
def Rd (w : World) (sz : Nat) (v : Value) (n : Nat) (xs : List Value) : Prop :=
  ∃ ao cap, v = .slice ao n cap ∧ xs.length = n * sz ∧ n ≤ cap ∧ (0 < n → ∃ g off, ao = some ⟨g, off, none⟩ ∧ ∀ j u, xs[j]? = some u → w.cell? ⟨g, off + j, none⟩ = some u)
namespace Rd
variable {w w' : World} {sz n : Nat} {v : Value} {xs : List Value}
theorem nil (w : World) (sz : Nat) : Rd w sz (.slice none 0 0) 0 [] := ⟨none, 0, rfl, by simp, Nat.le_refl _, fun h => absurd h (Nat.lt_irrefl _)⟩
theorem keep (h : Rd w sz v n xs) (hk : ∀ k, v.ownBlock = some k → k < w.heap.size → w'.heap[k]? = w.heap[k]?) : Rd w' sz v n xs := by
  obtain ⟨ao, cap, rfl, h1, h2, h3⟩ := h
  refine ⟨ao, cap, rfl, h1, h2, fun hn => ?_⟩
  obtain ⟨g, off, rfl, hc⟩ := h3 hn
  refine ⟨g, off, rfl, fun j u hu => ?_⟩
  have h4 := hc j u hu
  have hlt := World.block_lt_of_cell? w ⟨g, off + j, none⟩ h4
  rw [World.cell?_of_block (w := w) (hk g (by simp [Value.ownBlock]) hlt)]
  exact h4
theorem mod {F : Nat → Prop} (h : Rd w sz v n xs) (hm : Mod F w w') (hn : ∀ k, v.ownBlock = some k → ¬ F k) : Rd w' sz v n xs :=
  h.keep fun k hk hlt => hm.block k hlt (hn k hk)
theorem below {B : Nat} (h : Rd w sz v n xs) (hb : Below B w w') (hn : ∀ k, v.ownBlock = some k → k < B) : Rd w' sz v n xs :=
  h.keep fun k hk _ => hb.block k (hn k hk)
theorem drew (h : Rd w sz v n xs) : Rd w.drew sz v n xs := h
theorem drewN (h : Rd w sz v n xs) (k : Nat) : Rd (w.drewN k) sz v n xs := h
theorem alloc (h : Rd w sz v n xs) (o : Obj) : Rd (w.alloc o) sz v n xs := h.keep fun k _ hlt => Below.heap_alloc w o k hlt
theorem far (h : Rd w sz v n xs) {p : Addr} (hp : v.ownBlock ≠ some p.block) (u : Value) : Rd (w.setCell p u) sz v n xs :=
  h.keep fun k hk _ => Below.heap_setCell w p u k (fun e => hp (e ▸ hk))
theorem at_ (h : Rd w sz v n xs) (hn : 0 < n) : ∃ g off cap, v = .slice (some ⟨g, off, none⟩) n cap ∧ n ≤ cap ∧ ∀ j u, xs[j]? = some u → w.cell? ⟨g, off + j, none⟩ = some u := by
  obtain ⟨ao, cap, rfl, h1, h2, h3⟩ := h
  obtain ⟨g, off, rfl, hc⟩ := h3 hn
  exact ⟨g, off, cap, rfl, h2, hc⟩
theorem shape (h : Rd w sz v n xs) : ∃ ao cap, v = .slice ao n cap := by
  obtain ⟨ao, cap, rfl, _⟩ := h
  exact ⟨ao, cap, rfl⟩
end Rd
theorem Row.rd {w : World} {e : TypeId} {sz n : Nat} {v : Value} {xs : List Value} (h : Row w e sz v n xs) : Rd w sz v n xs := by
  rcases Nat.eq_zero_or_pos n with h0 | h0
  · obtain ⟨ao, cap, rfl, h1, h2, _⟩ := h
    exact ⟨ao, cap, rfl, h1, h2, fun hn => absurd hn (by omega)⟩
  · obtain ⟨g, off, cap, cur, rfl, hnc, _, _, hc, _⟩ := h.at_ h0
    obtain ⟨_, _, hv, h1, h2, _⟩ := h
    cases hv
    exact ⟨_, cap, rfl, h1, hnc, fun _ => ⟨g, off, rfl, hc⟩⟩
theorem Row.of_own {w : World} {base : Nat} {e : TypeId} {sz n : Nat} {v : Value} {xs : List Value} (h : w.ownsRow base e sz v n xs) : Row w e sz v n xs := by
  obtain ⟨hl, h⟩ := h
  rcases h with ⟨rfl, rfl⟩ | ⟨g, cap, cur, rfl, _, hg, hn, hm, hs, ht⟩
  · exact ⟨none, 0, rfl, hl, Nat.le_refl _, by simp [maxLen], fun h => absurd h (Nat.lt_irrefl _), by simp [Value.ownBlock]⟩
  · exact ⟨_, cap, rfl, hl, hn, hm, fun _ => ⟨g, 0, cur, rfl, hg, by omega, by simpa using ht⟩, fun k hk => by
      have : g = k := by simpa [Value.ownBlock] using hk
      subst this
      exact lt_of_heap hg⟩

theorem Rd.box {w : World} (cs : Array Value) (t : TypeId) (sz n : Nat) (k : Nat) (hk : k = w.heap.size) (hl : cs.size = n * sz) : Rd (w.alloc (.cells cs t)) sz (.slice (some ⟨k, 0, none⟩) n n) n cs.toList := by
  subst hk
  refine ⟨_, _, rfl, by simpa using hl, Nat.le_refl _, fun _ => ⟨_, 0, rfl, fun j u hu => ?_⟩⟩
  rw [(Blk.new w t cs).cell]
  simpa using hu

/-! ### append onto such a row -/
section
variable {P : Program} {w : World}
theorem add_lit (g o k : Nat) : (⟨g, o, none⟩ : Addr).add k = ⟨g, o + k, none⟩ := by unfold Addr.add; split <;> simp_all

theorem run_append_row (t ty e : TypeId) (i : TypeInfo) (z : Value) (size bytes : Nat) (ht : P.underlying t = some (.slice e)) (hi : P.info? e = some i) (hz : i.zero = some z)
    (hsize : i.size = size) (hby : i.bytes = bytes) (hzs : z.cells.size = size) (hsz : 0 < size)
    {v : Value} {n : Nat} {xs : List Value} (h : Row w e size v n xs)
    {u : Value} {m : Nat} {news : List Value} (hr : Rd w size u m news) (h1 : ∀ x ∈ news, x.oneCell' = true)
    (h63 : n + m ≤ maxLen) (hbytes : (n + m) * bytes ≤ 140737488355328) :
    ∃ v' w', (Builtin.append_ #[t, t] ty #[v, u]).run P w = .ok v' w' ∧ Row w' e size v' (n + m) (xs ++ news) ∧ Mod (fun k => v.ownBlock = some k) w w' ∧
      (v'.ownBlock = v.ownBlock ∨ v'.ownBlock = some w.heap.size) := by
  subst hsize
  subst hby
  have hsmall : n + m ≤ 9223372036854775807 := by simp only [maxLen] at h63; omega
  obtain ⟨ao, cap, rfl, hl, hnc, hcm, hcells, hlt⟩ := h
  obtain ⟨bo, ucap, rfl, hnl, huc, hnews⟩ := hr
  have hlen : (xs ++ news).length = (n + m) * i.size := by rw [List.length_append, hl, hnl, Nat.add_mul]
  by_cases hm0 : m = 0
  · -- nothing is appended
    subst hm0
    have hn0 : news = [] := List.eq_nil_of_length_eq_zero (by simpa using hnl)
    subst hn0
    refine ⟨_, w, ?_, ⟨ao, cap, rfl, hlen, hnc, hcm, fun hc => ?_, hlt⟩, Mod.refl _ _, .inl rfl⟩
    · rcases bo with _ | b <;> rcases ao with _ | ad <;> simp [Builtin.append_, run_underlying ht, sizeOf, typeInfo, hi, Builtin.lenOf, Builtin.firstCells, hnc, storeCells, loadCells, loadCellsFrom]
    · obtain ⟨g, off, cur, hg, hb, hs, hx⟩ := hcells hc
      exact ⟨g, off, cur, hg, hb, hs, by simpa using hx⟩
  · obtain ⟨ug, uoff, rfl, huc'⟩ := hnews (by omega)
    have hnews' : ∀ (j : Nat) x, news[j]? = some x → w.cell? ((⟨ug, uoff, none⟩ : Addr).add j) = some x := fun j x hx => by rw [add_lit]; exact huc' j x hx
    have grown : ∀ (old : Nat), old < n + m →
        Row (w.drew.alloc (.cells (xs.toArray ++ news.toArray ++ Builtin.zeroCells z.cells (grownCap w (n + m) old e - (n + m))) e)) e i.size
          (.slice (some ⟨w.heap.size, 0, none⟩) (n + m) (grownCap w (n + m) old e)) (n + m) (xs ++ news) ∧
        Mod (fun k => (Value.slice ao n cap).ownBlock = some k) w (w.drew.alloc (.cells (xs.toArray ++ news.toArray ++ Builtin.zeroCells z.cells (grownCap w (n + m) old e - (n + m))) e)) := by
      intro old ho
      have hge := grownCap_ge w (n + m) old e
      have hcm' : grownCap w (n + m) old e ≤ maxLen := grownCap_le_maxLen w (n + m) old e h63
      refine ⟨⟨_, _, rfl, hlen, hge, hcm', fun _ => ⟨w.heap.size, 0, _, rfl, heap_alloc_new w.drew _, ?_, ?_⟩, fun k hk => ?_⟩, ((Mod.refl _ w).drew).alloc _⟩
      rotate_right
      · have : w.heap.size = k := by simpa [Value.ownBlock] using hk
        simp; omega
      · simp only [Array.size_append, List.size_toArray, size_zeroCells, hzs, hl, hnl]
        rw [← Nat.add_mul, ← Nat.add_mul, Nat.zero_add]
        exact Nat.mul_le_mul_right _ (by omega)
      · simp only [Array.toList_append, List.append_assoc, List.drop_zero]
        rw [← List.append_assoc, ← hlen]
        exact List.take_left
    by_cases hroom : n + m ≤ cap
    · obtain ⟨g, off, cur, rfl, hg, hfit, htake⟩ := hcells (by omega)
      have hcapm : (n + m) * i.size ≤ cap * i.size := Nat.mul_le_mul_right _ hroom
      rw [Nat.add_mul] at hcapm
      have hfit' : off + n * i.size + 0 + news.length ≤ cur.size := by rw [hnl]; omega
      have hf := run_firstCells_some (P := P) w i.size m ⟨ug, uoff, none⟩ m ucap news hnl hnews'
      have hst := run_storeCells_at P g (off + n * i.size) e news 0 cur w hg hfit' h1
      simp only [Nat.add_zero] at hst
      have hrun : (Builtin.append_ #[t, t] ty #[.slice (some ⟨g, off, none⟩) n cap, .slice (some ⟨ug, uoff, none⟩) m ucap]).run P w =
          .ok (.slice (some ⟨g, off, none⟩) (n + m) cap) (w.setRow g (cur.toList.take (off + n * i.size) ++ news ++ cur.toList.drop (off + n * i.size + news.length)).toArray) := by
        simp [Builtin.append_, run_underlying ht, sizeOf, typeInfo, hi, Builtin.lenOf, hroom, hf, add_lit, hst]
      refine ⟨_, _, hrun, ⟨_, _, rfl, hlen, hroom, hcm, fun _ => ⟨g, off, _, rfl, setRow_heap w g cur _ e _ hg, ?_, ?_⟩, fun k hk => ?_⟩, ?_, .inl rfl⟩
      · simp only [List.size_toArray, List.length_append, List.length_take, List.length_drop, Array.length_toList]
        omega
      · rw [← hlen, ← htake]
        have e1 : cur.toList.take (off + n * i.size) = cur.toList.take off ++ (cur.toList.drop off).take (n * i.size) := by
          rw [List.take_add]
        have e2 : (cur.toList.take off).length = off := by rw [List.length_take, Array.length_toList]; omega
        simp only
        rw [e1, List.append_assoc, List.append_assoc, List.drop_left' e2, ← List.append_assoc]
        exact List.take_left
      · simpa using hlt k hk
      · exact ⟨rfl, rfl, rfl, by simp, fun k _ hk => setRow_other w g k _ (fun e => hk (by simp [Value.ownBlock, e]))⟩
    · have h63' : ((n + m : Nat) : Int) ≤ 9223372036854775807 := by omega
      rcases ao with _ | ad
      · have hc0 : cap = 0 := by
          rcases Nat.eq_zero_or_pos cap with h0 | h0
          · exact h0
          · obtain ⟨g, off, cur, hh, _⟩ := hcells h0
            cases hh
        subst hc0
        obtain rfl : n = 0 := by omega
        have hx : xs = [] := List.eq_nil_of_length_eq_zero (by simpa using hl)
        subst hx
        have hr := run_append_nil (P := P) w t ty e i z ht hi hz ⟨ug, uoff, none⟩ m ucap news hnl hnews' (by omega) (by omega) (by have hb := hbytes; simp only [Nat.zero_add] at hb; omega)
        have hgr := grown 0 (by omega)
        simp only [Nat.zero_add, List.nil_append, Array.empty_append] at hgr ⊢
        exact ⟨_, _, hr, hgr.1, hgr.2, .inr rfl⟩
      · have holds : ∀ (j : Nat) x, xs[j]? = some x → w.cell? (ad.add j) = some x := by
          intro j x hx
          have hj : j < xs.length := (List.getElem?_eq_some_iff.1 hx).1
          have hn : 0 < n := by
            rcases Nat.eq_zero_or_pos n with h0 | h0
            · subst h0; simp at hl; subst hl; simp at hj
            · exact h0
          obtain ⟨g, off, cur, he, hg, hfit, htake⟩ := hcells (by omega)
          cases he
          rw [add_lit, cell_of_row w g (off + j) cur e (0, 0) hg]
          rw [← htake, List.getElem?_take] at hx
          split at hx
          · simpa using hx
          · cases hx
        have hr := run_append_grow (P := P) w t ty e i z ht hi hz ad n cap xs hl holds ⟨ug, uoff, none⟩ m ucap news hnl hnews' (by omega) h63' (growslice_fits (by omega) hbytes)
        have hgr := grown cap (by omega)
        exact ⟨_, _, hr, hgr.1, hgr.2, .inr rfl⟩

theorem wp_append_row {o : Oper} {a : Act} {K : Act → World → Prop} {Q : Exit → Act → World → Prop} (s x : Operand) (t : TypeId)
    (ho : o.op = .call { callee := .builtin .append, args := #[s, x], argTypes := #[t, t] })
    (e : TypeId) (i : TypeInfo) (z : Value) (size bytes : Nat) (ht : P.underlying t = some (.slice e)) (hi : P.info? e = some i) (hz : i.zero = some z)
    (hsize : i.size = size) (hby : i.bytes = bytes) (hzs : z.cells.size = size) (hsz : 0 < size)
    {v : Value} {n : Nat} {xs : List Value} (hs : a.eval s = v) (h : Row w e size v n xs)
    {u : Value} {m : Nat} {news : List Value} (hx : a.eval x = u) (hr : Rd w size u m news) (h1 : ∀ x ∈ news, x.oneCell' = true)
    (h63 : n + m ≤ maxLen) (hbytes : (n + m) * bytes ≤ 140737488355328)
    (hK : ∀ v' w', Row w' e size v' (n + m) (xs ++ news) → Mod (fun k => v.ownBlock = some k) w w' → (v'.ownBlock = v.ownBlock ∨ v'.ownBlock = some w.heap.size) → K (a.put o.dst v') w') : o.wp P a w K Q := by
  obtain ⟨v', w', hrun, h2, h3, h4⟩ := run_append_row (P := P) t o.type e i z size bytes ht hi hz hsize hby hzs hsz h hr h1 h63 hbytes
  unfold Oper.wp execOp
  simp only [ho, resolve, invoke, builtin, Sem.run_bind, Sem.run_pure, Result.andThen_ok, List.map_toArray, List.map_cons, List.map_nil, hs, hx, hrun]
  exact hK v' w' h2 h3 h4
theorem wpList_append_row {ops : Array Oper} {rest : List Oper} {o : Oper} {a : Act} {Q : Exit → Act → World → Prop} (hgd : o.guard = none) (s x : Operand) (t : TypeId)
    (ho : o.op = .call { callee := .builtin .append, args := #[s, x], argTypes := #[t, t] })
    (e : TypeId) (i : TypeInfo) (z : Value) (size bytes : Nat) (ht : P.underlying t = some (.slice e)) (hi : P.info? e = some i) (hz : i.zero = some z)
    (hsize : i.size = size) (hby : i.bytes = bytes) (hzs : z.cells.size = size) (hsz : 0 < size)
    {v : Value} {n : Nat} {xs : List Value} (hs : a.eval s = v) (h : Row w e size v n xs)
    {u : Value} {m : Nat} {news : List Value} (hx : a.eval x = u) (hr : Rd w size u m news) (h1 : ∀ x ∈ news, x.oneCell' = true)
    (h63 : n + m ≤ maxLen) (hbytes : (n + m) * bytes ≤ 140737488355328)
    (hK : ∀ v' w', Row w' e size v' (n + m) (xs ++ news) → Mod (fun k => v.ownBlock = some k) w w' → (v'.ownBlock = v.ownBlock ∨ v'.ownBlock = some w.heap.size) → wpList P ops Q rest (a.put o.dst v') w') : wpList P ops Q (o :: rest) a w :=
  wpList_plain hgd fun _ hk => wp_append_row s x t ho e i z size bytes ht hi hz hsize hby hzs hsz hs h hx hr h1 h63 hbytes fun v' w' h2 h3 h4 => hk _ _ (hK v' w' h2 h3 h4)
theorem step_append_row {ops : Array Oper} {o : Oper} {a : Act} {K : Act → World → Prop} {Q : Exit → Act → World → Prop} {E : Prop} (hgd : o.guard = none) (s x : Operand) (t : TypeId)
    (ho : o.op = .call { callee := .builtin .append, args := #[s, x], argTypes := #[t, t] })
    (e : TypeId) (i : TypeInfo) (z : Value) (size bytes : Nat) (ht : P.underlying t = some (.slice e)) (hi : P.info? e = some i) (hz : i.zero = some z)
    (hsize : i.size = size) (hby : i.bytes = bytes) (hzs : z.cells.size = size) (hsz : 0 < size)
    {v : Value} {n : Nat} {xs : List Value} (hs : a.eval s = v) (h : Row w e size v n xs)
    {u : Value} {m : Nat} {news : List Value} (hx : a.eval x = u) (hr : Rd w size u m news) (h1 : ∀ x ∈ news, x.oneCell' = true)
    (h63 : n + m ≤ maxLen) (hbytes : (n + m) * bytes ≤ 140737488355328)
    (hK : ∀ v' w', Row w' e size v' (n + m) (xs ++ news) → Mod (fun k => v.ownBlock = some k) w w' → (v'.ownBlock = v.ownBlock ∨ v'.ownBlock = some w.heap.size) → K (a.put o.dst v') w') :
    if Region.wanted o (yielded ops a.tmps) = true then Oper.wp P o a w K Q else E := by
  have hw : Region.wanted o (yielded ops a.tmps) = true := by simp [Region.wanted, hgd]
  rw [if_pos hw]
  exact wp_append_row s x t ho e i z size bytes ht hi hz hsize hby hzs hsz hs h hx hr h1 h63 hbytes hK
end
end Go.Proofs.YtlmnhdpahmaccaaDoor
