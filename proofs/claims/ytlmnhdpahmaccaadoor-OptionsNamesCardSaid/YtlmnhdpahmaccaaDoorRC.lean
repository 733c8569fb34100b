/- the document's answer: at, Get. -/
import Derived.Test.YtlmnhdpahmaccaaDoorRB
namespace Go.Proofs.YtlmnhdpahmaccaaDoor
open Go.RowKit QP

abbrev SetL := List (PK × ByteArray)
def setCells (L : SetL) : List Value := L.flatMap fun p => [.int .i64 p.1.1, .int .i64 p.1.2.1, .string p.1.2.2, .string p.2]
theorem setCells_get (l : SetL) (i : Nat) (h : i < l.length) : (setCells l)[i * 4]? = some (.int .i64 l[i].1.1) ∧ (setCells l)[i * 4 + 1]? = some (.int .i64 l[i].1.2.1) ∧ (setCells l)[i * 4 + 2]? = some (.string l[i].1.2.2) ∧ (setCells l)[i * 4 + 3]? = some (.string l[i].2) := by
  induction l generalizing i with
  | nil => simp at h
  | cons p ps ih =>
    have hc : setCells (p :: ps) = [.int .i64 p.1.1, .int .i64 p.1.2.1, .string p.1.2.2, .string p.2] ++ setCells ps := by simp [setCells]
    have hl : ([.int .i64 p.1.1, .int .i64 p.1.2.1, .string p.1.2.2, .string p.2] : List Value).length = 4 := rfl
    rw [hc]
    cases i with
    | zero => exact ⟨rfl, rfl, rfl, rfl⟩
    | succ i =>
      have := ih i (by simpa using h)
      refine ⟨?_, ?_, ?_, ?_⟩
      · rw [List.getElem?_append_right (by omega), hl, show (i + 1) * 4 - 4 = i * 4 by omega]; exact this.1
      · rw [List.getElem?_append_right (by omega), hl, show (i + 1) * 4 + 1 - 4 = i * 4 + 1 by omega]; exact this.2.1
      · rw [List.getElem?_append_right (by omega), hl, show (i + 1) * 4 + 2 - 4 = i * 4 + 2 by omega]; exact this.2.2.1
      · rw [List.getElem?_append_right (by omega), hl, show (i + 1) * 4 + 3 - 4 = i * 4 + 3 by omega]; exact this.2.2.2
/-- a document's Options value -/
structure RSet (w : World) (ao : Option Addr) (cap : Nat) (L : SetL) : Prop where
  rd : Rd w 4 (.slice ao L.length cap) L.length (setCells L)
  len : L.length ≤ 1000000
theorem RSet.below {w w1 : World} {ao : Option Addr} {cap : Nat} {L : SetL} (h : RSet w ao cap L) (hb : Below w.heap.size w w1) : RSet w1 ao cap L := ⟨h.rd.kept (by decide) hb, h.len⟩
theorem RSet.nil (w : World) : RSet w none 0 [] := ⟨Rd.nil _ _, by simp⟩

structure AtIn (W w : World) (g : Nat) (ao : Option Addr) (cap : Nat) (L : SetL) : Prop where
  bel : Below W.heap.size W w
  s : RSet w ao cap L
  box : Blk w g 34 #[.slice ao L.length cap]
theorem AtIn.below {W w w1 : World} {g : Nat} {ao : Option Addr} {cap : Nat} {L : SetL} (h : AtIn W w g ao cap L) (hb : Below w.heap.size w w1) : AtIn W w1 g ao cap L := ⟨below_of h.bel hb, h.s.below hb, h.box.below_ hb⟩

theorem look_at {L : SetL} {a : PK} {k : Nat} (h0 : (L.take k).find? (fun p => decide (p.1 = a)) = none) (hk : k < L.length) (he : L[k].1 = a) : look L a = some L[k].2 := by
  unfold look
  rw [find_at h0 hk (by simpa using he)]
  rfl

set_option maxHeartbeats 4000000 in
set_option maxRecDepth 100000 in
theorem at_c (L : SetL) (ao : Option Addr) (cap : Nat) (sc id : Int) (name : ByteArray) (w : World) (h : RSet w ao cap L) :
    Calls Tryd.prog 25 #[.agg #[.slice ao L.length cap], .int .i64 sc, .int .i64 id, .string name] w fun e w' => e = .returned (.tuple #[.string ((look L (sc, id, name)).getD ⟨#[]⟩), .bool (look L (sc, id, name)).isSome]) ∧ Hid (Below w.heap.size w w') := by
  have hl := h.len
  have HA : Hid (AtIn w (w.alloc (.cells #[.slice ao L.length cap] 34)) w.heap.size ao cap L) := Lib.hid ⟨(Below.refl _ _).alloc (Nat.le_refl _) _, h.below ((Below.refl _ _).alloc (Nat.le_refl _) _), Blk.new _ _ _⟩
  clear h
  go_enter Tryd.func25, Tryd.ntmps25
  go_wp2
  go_loopw [10] (fun i wr => ∃ j : Nat, j ≤ L.length ∧ i = .int .i64 j ∧ Hid ((L.take j).find? (fun p => decide (p.1 = (sc, id, name))) = none) ∧ Hid (AtIn w wr w.heap.size ao cap L)) (fun i _ => L.length - (intOf i).toNat)
  case atStart => exact ⟨0, Nat.zero_le _, rfl, Lib.hid rfl, HA⟩
  case round =>
    clear HA
    obtain ⟨j, hj, rfl, HN, HA⟩ := hrel
    have x0 : wr.cell? ⟨w.heap.size, 0, none⟩ = some (.slice ao L.length cap) := HA.out.box.cell 0
    have hgl := HA.out.box.lt
    by_cases hlt : j < L.length
    · obtain ⟨g5, off, cap', hv, hnc, hc⟩ := HA.out.s.rd.at_ (by omega)
      cases hv
      obtain ⟨s0, s1, s2, s3⟩ := setCells_get L j hlt
      have c0 := hc _ _ s0
      have c1 := hc _ _ s1
      have c2 := hc _ _ s2
      have c3 := hc _ _ s3
      have hg5 := HA.out.s.rd.lt (by omega) (by decide) g5 rfl
      simp only [← Nat.add_assoc] at c1 c2 c3
      have HB2 := Lib.hid (HA.out.below (w1 := wr.alloc (.cells #[.int .i64 L[j].1.1, .int .i64 L[j].1.2.1, .string L[j].1.2.2, .string L[j].2] 80)) ((Below.refl _ _).alloc (Nat.le_refl _) _))
      obtain ⟨q, hq⟩ : ∃ q, L[j] = q := ⟨_, rfl⟩
      rw [hq] at c0 c1 c2 c3 HB2
      have HQ := Lib.hid hq
      have hj0 : (0 : Int) ≤ (j : Int) := by omega
      have hj1 : (j : Int) < (L.length : Int) := by omega
      clear s0 s1 s2 s3 hc hq
      have key : q.1 = (sc, id, name) ↔ q.1.1 = sc ∧ q.1.2.1 = id ∧ q.1.2.2 = name := by
        obtain ⟨⟨a, b, c⟩, d⟩ := q
        simp
      have HK := Lib.hid key
      clear key
      by_cases h1 : q.1.1 = sc
      · have t1 : (q.1.1 == sc) = true := by simpa using h1
        by_cases h2 : q.1.2.1 = id
        · have t2 : (q.1.2.1 == id) = true := by simpa using h2
          by_cases h3 : q.1.2.2 = name
          · have t3 : (q.1.2.2.toList == name.toList) = true := by rw [h3]; exact beq_self_eq_true _
            have HL : Hid (look L (sc, id, name) = some q.2) := Lib.hid (by rw [look_at HN.out hlt (by rw [HQ.out]; exact HK.out.2 ⟨h1, h2, h3⟩), HQ.out])
            clear h1 h2 h3
            go_wp2
            go_ret2
            exact ⟨by rw [HL.out]; rfl, Lib.hid HB2.out.bel⟩
          · have t3 : (q.1.2.2.toList == name.toList) = false := by rw [sameS_beq, Bool.eq_false_iff, Ne, sameS_iff]; exact h3
            have HF : Hid ((L.take (j + 1)).find? (fun p => decide (p.1 = (sc, id, name))) = none) := Lib.hid (find_next HN.out hlt (by rw [HQ.out]; exact decide_eq_false fun e => h3 (HK.out.1 e).2.2))
            clear h1 h2 h3
            go_wp2
            go_roundw
            case rel => exact ⟨j + 1, by omega, by go_num, HF, HB2⟩
            case measure => simp [intOf]; omega
        · have t2 : (q.1.2.1 == id) = false := by simpa using h2
          have HF : Hid ((L.take (j + 1)).find? (fun p => decide (p.1 = (sc, id, name))) = none) := Lib.hid (find_next HN.out hlt (by rw [HQ.out]; exact decide_eq_false fun e => h2 (HK.out.1 e).2.1))
          clear h1 h2
          go_wp2
          go_roundw
          case rel => exact ⟨j + 1, by omega, by go_num, HF, HB2⟩
          case measure => simp [intOf]; omega
      · have t1 : (q.1.1 == sc) = false := by simpa using h1
        have HF : Hid ((L.take (j + 1)).find? (fun p => decide (p.1 = (sc, id, name))) = none) := Lib.hid (find_next HN.out hlt (by rw [HQ.out]; exact decide_eq_false fun e => h1 (HK.out.1 e).1))
        clear h1
        go_wp2
        go_roundw
        case rel => exact ⟨j + 1, by omega, by go_num, HF, HB2⟩
        case measure => simp [intOf]; omega
    · have hje : j = L.length := by omega
      have HL : Hid (look L (sc, id, name) = none) := Lib.hid (by
        have := HN.out
        rw [List.take_of_length_le (by omega)] at this
        unfold look
        rw [this]; rfl)
      subst hje
      go_wp2
      go_ret2
      exact ⟨by rw [HL.out]; rfl, Lib.hid HA.out.bel⟩
end Go.Proofs.YtlmnhdpahmaccaaDoor
