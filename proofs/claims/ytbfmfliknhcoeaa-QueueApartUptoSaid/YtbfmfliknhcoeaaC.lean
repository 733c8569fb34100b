/- (*Queue).add, as a whole: a part is laid in. -/
import Derived.Test.YtbfmfliknhcoeaaA
import Derived.Test.YtbfmfliknhcoeaaB
namespace Go.Proofs.Ytbfmfliknhcoeaa
open Go.RowKit QP

/-- the parts' block is the old one or a new one -/
def NewG (w : World) (g g' : Option Nat) : Prop := g' = g ∨ ∃ k, g' = some k ∧ w.heap.size ≤ k

/-- The queue at block b stands for the state s. -/
def QSt (w : World) (b : Nat) (g : Option Nat) (s : St) : Prop := QIs w b g s.limit s.closed s.fl

theorem pAdd_snoc (ps : List Part) (x p : Part) : pAdd (ps ++ [x]) p = if x.pane = p.pane ∧ x.tick = p.tick then ps ++ [{ x with text := x.text ++ p.text }] else ps ++ [x] ++ [p] := by
  induction ps with
  | nil => simp only [List.nil_append, pAdd]; split <;> simp
  | cons a r ih =>
    cases r with
    | nil =>
      simp only [List.nil_append, List.cons_append] at ih ⊢
      simp only [pAdd] at ih ⊢
      split <;> simp
    | cons c r =>
      simp only [List.cons_append] at ih ⊢
      simp only [pAdd]
      rw [ih]
      split <;> simp

theorem newG_mem {w : World} {b : Nat} {g g' : Option Nat} (h : NewG w g g') (hg : g ≠ some b) (hb : b < w.heap.size) : g' ≠ some b := by
  rcases h with h | ⟨k, h, hk⟩
  · rw [h]; exact hg
  · rw [h]; intro e; injection e with e; omega

theorem size_le_flat {ps : List Part} {x : Part} (h : x ∈ ps) : x.text.size ≤ (flat ps).length := by
  induction ps with
  | nil => simp at h
  | cons a r ih =>
    rw [flat_cons, List.length_append, tagged_length]
    rcases List.mem_cons.1 h with h | h
    · subst h; omega
    · have := ih h; omega

theorem nil_or_snoc {α : Type} (l : List α) : l = [] ∨ ∃ qs x, l = qs ++ [x] := by
  rcases List.eq_nil_or_concat l with h | ⟨qs, x, h⟩
  · exact .inl h
  · exact .inr ⟨qs, x, by rw [h, List.concat_eq_append]⟩

theorem add_c (b : Nat) (g : Option Nat) (s : St) (p : Part) (w : World) (h : QSt w b g s) (hp : okPart p) (hl : s.fl.length ≤ 1000000) (hps : p.text.size ≤ 10000000) :
    Calls Try.prog 49 #[.pointer (some ⟨b, 0, none⟩), .agg #[.int .i64 p.pane, .int .i64 p.tick, .string p.text]] w fun e w' => e = .returned (.tuple #[]) ∧
      ∃ g', QSt w' b g' { s with fl := s.fl ++ tagged p } ∧ NewG w g g' ∧ Mod (foot b g) w w' := by
  obtain ⟨sv, ps, hb, hr, hg, hgb, hfl, hok⟩ := h
  have hpl := parts_le hok
  rw [hfl] at hpl
  have hsz : (s.fl.length : Int) + (p.text.size : Int) = ((s.fl ++ tagged p).length : Int) := by rw [List.length_append, tagged_length]; omega
  have fin : ∀ (w' : World) (n : Nat) (qs : List Part), pAdd ps p = qs → n = qs.length → (∃ sv', Blk w' b 71 #[.int .i64 s.limit, .int .i64 (s.fl.length + p.text.size), sv', .bool s.closed] ∧ Row w' 76 3 sv' n (cellsOf qs) ∧
        (sv'.ownBlock = g ∨ ∃ k, sv'.ownBlock = some k ∧ w.heap.size ≤ k) ∧ Mod (foot b g) w w') → ∃ g', QSt w' b g' { s with fl := s.fl ++ tagged p } ∧ NewG w g g' ∧ Mod (foot b g) w w' := by
    rintro w' n qs hq rfl ⟨sv', h1, h2, h3, h4⟩
    rw [hsz] at h1
    exact ⟨_, ⟨sv', qs, h1, h2, rfl, newG_mem h3 hgb hb.lt, by rw [← hq, flat_pAdd, hfl], by rw [← hq]; exact ok_pAdd hok hp⟩, h3, h4⟩
  rcases nil_or_snoc ps with rfl | ⟨qs, x, rfl⟩
  · refine (add_new b g s.limit s.fl.length s.closed p [] sv w hb hr hg hgb (by omega) (by omega) hps (by simp) (by simp)).mono ?_
    rintro e w' ⟨he, h⟩
    exact ⟨he, fin w' _ [p] rfl rfl h⟩
  · by_cases hx : x.pane = p.pane ∧ x.tick = p.tick
    · have hxs := size_le_flat (ps := qs ++ [x]) (x := x) (by simp)
      rw [hfl] at hxs
      simp only [List.length_append, List.length_cons, List.length_nil] at hpl hr
      refine (add_same b g s.limit s.fl.length s.closed p x qs sv w hb hr hg hgb (by omega) (by omega) hps (by omega) (by omega) (by simpa using hx.1) (by simpa using hx.2)).mono ?_
      rintro e w' ⟨he, h⟩
      exact ⟨he, fin w' _ _ (by rw [pAdd_snoc, if_pos hx]) (by simp) h⟩
    · refine (add_new b g s.limit s.fl.length s.closed p (qs ++ [x]) sv w hb hr hg hgb (by omega) (by omega) hps (by omega) (by simpa using hx)).mono ?_
      rintro e w' ⟨he, h⟩
      exact ⟨he, fin w' _ _ (by rw [pAdd_snoc, if_neg hx]) (by simp) h⟩
end Go.Proofs.Ytbfmfliknhcoeaa
