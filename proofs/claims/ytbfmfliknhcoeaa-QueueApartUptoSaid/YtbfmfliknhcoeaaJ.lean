/- The document's queue: what its value stands for; isLine, lines, Size. -/
import Derived.Test.YtbfmfliknhcoeaaI
namespace Go.Proofs.Ytbfmfliknhcoeaa
open Go.RowKit QP

def itemCells (p : Part) : List Value := [.string p.text, .int .i64 p.pane, .int .i64 p.tick]
def itemsOf (ps : List Part) : List Value := ps.flatMap itemCells
theorem itemsOf_cons (p : Part) (ps : List Part) : itemsOf (p :: ps) = itemCells p ++ itemsOf ps := by simp [itemsOf]
theorem itemsOf_append (a b : List Part) : itemsOf (a ++ b) = itemsOf a ++ itemsOf b := by simp [itemsOf]
theorem itemsOf_length (ps : List Part) : (itemsOf ps).length = ps.length * 3 := by
  induction ps with
  | nil => rfl
  | cons p ps ih => rw [itemsOf_cons, List.length_append, ih, List.length_cons, Nat.succ_mul, Nat.add_comm]; rfl
theorem itemsOf_get (ps : List Part) (i : Nat) (h : i < ps.length) (j : Nat) (hj : j < 3) : (itemsOf ps)[i * 3 + j]? = (itemCells ps[i])[j]? := by
  induction ps generalizing i with
  | nil => simp at h
  | cons p ps ih =>
    rw [itemsOf_cons]
    cases i with
    | zero => rw [Nat.zero_mul, Nat.zero_add, List.getElem?_append_left (by simpa [itemCells] using hj)]; rfl
    | succ i =>
      have hl : (itemCells p).length = 3 := rfl
      rw [List.getElem?_append_right (by rw [hl]; omega), hl, show (i + 1) * 3 + j - 3 = i * 3 + j by omega, ih i (by simpa using h)]
      rfl

/-- The document's queue: its items lie at block r. -/
def RSt (w : World) (r : Option Nat) (v : Value) (s : St) : Prop :=
  ∃ sv ps, v = .agg #[.int .i64 s.limit, sv, .bool s.closed] ∧ Rd w 3 sv ps.length (itemsOf ps) ∧ sv.ownBlock = r ∧ (∀ k, r = some k → k < w.heap.size) ∧ flat ps = s.fl ∧ okParts ps

theorem RSt.mod {w w' : World} {r : Option Nat} {v : Value} {s : St} {F : Nat → Prop} (h : RSt w r v s) (hm : Mod F w w') (hn : ∀ k, r = some k → ¬ F k) : RSt w' r v s := by
  obtain ⟨sv, ps, h1, h2, h3, h4, h5, h6⟩ := h
  exact ⟨sv, ps, h1, h2.mod hm fun k hk => hn k (h3.symm.trans hk), h3, fun k hk => Nat.lt_of_lt_of_le (h4 k hk) hm.size, h5, h6⟩
theorem RSt.below {w w' : World} {r : Option Nat} {v : Value} {s : St} (h : RSt w r v s) (hb : Below w.heap.size w w') : RSt w' r v s :=
  h.mod (Mod.of_below hb fun _ => False) fun _ _ h => h
theorem RSt.alloc {w : World} {r : Option Nat} {v : Value} {s : St} (h : RSt w r v s) (o : Obj) : RSt (w.alloc o) r v s :=
  h.below ((Below.refl _ _).alloc (Nat.le_refl _) _)

theorem byte_get (s : ByteArray) (k : Nat) (h : k < s.size) : (QP.bytes s)[k]'(by rw [bytes_length]; exact h) = s[k] := by
  simp [QP.bytes, ByteArray.getElem_eq_getElem_data]

theorem contains_succ (s : ByteArray) (k : Nat) (h : k < s.size) (h0 : ((QP.bytes s).take k).contains 10 = false) (hb : ((s[k].toNat : Int) == 10) = false) : ((QP.bytes s).take (k + 1)).contains 10 = false := by
  have h2 : s[k] ≠ 10 := fun e => by rw [e] at hb; simp at hb
  rw [List.take_succ_eq_append_getElem (by rw [bytes_length]; exact h), byte_get s k h]
  simp only [List.contains_eq_mem, decide_eq_false_iff_not] at h0 ⊢
  simp only [List.mem_append, List.mem_cons, List.not_mem_nil, or_false, not_or]
  exact ⟨h0, fun e => h2 e.symm⟩

theorem good_no (s : ByteArray) (k : Nat) (h : k < s.size) (hb : ((s[k].toNat : Int) == 10) = true) : goodLine s = false := by
  have h1 : s[k] = 10 := by
    apply UInt8.toNat_inj.1
    have : (s[k].toNat : Int) = 10 := by simpa using hb
    have h10 : (10 : UInt8).toNat = 10 := rfl
    omega
  have h2 : (QP.bytes s).contains 10 = true := by
    rw [List.contains_eq_mem, decide_eq_true_eq, ← h1, ← byte_get s k h]
    exact List.getElem_mem _
  rw [goodLine, h2]
  simp

theorem good_le (s : ByteArray) (h : ((QP.bytes s).take s.size).contains 10 = false) : goodLine s = decide ((s.size : Int) ≤ 8192) := by
  rw [List.take_of_length_le (by rw [bytes_length]; exact Nat.le_refl _)] at h
  rw [goodLine, h, Bool.eq_iff_iff]
  simp; omega

theorem isLine_c (s : ByteArray) (w : World) (hs : s.size ≤ 4000000) : Calls Try.prog 50 #[.string s] w fun e w' => e = .returned (.bool (goodLine s)) ∧ w = w' := by
  go_enter Try.func50, Try.ntmps50
  go_wp2
  go_loop [3] (fun i => ∃ k : Nat, k ≤ s.size ∧ i = .int .i64 k ∧ Hid (((QP.bytes s).take k).contains 10 = false)) (fun i => s.size - (intOf i).toNat)
  case atStart => exact ⟨0, Nat.zero_le _, rfl, Lib.hid (by simp)⟩
  case round =>
    obtain ⟨k, hk, rfl, HK⟩ := hrel
    by_cases hlt : k < s.size
    · cases hb : ((s[k].toNat : Int) == 10) with
      | true =>
        have HG := Lib.hid (good_no s k hlt hb)
        go_wp2
        go_ret
        exact ⟨by rw [HG.out]; rfl, rfl⟩
      | false =>
        have HG := Lib.hid (contains_succ s k hlt HK.out hb)
        go_wp2
        go_round
        case rel => exact ⟨k + 1, by omega, by go_num, HG⟩
        case measure => simp [intOf]; omega
    · have hke : k = s.size := by omega
      have hg : goodLine s = decide ((s.size : Int) ≤ 8192) := good_le s (by have := HK.out; rwa [hke] at this)
      have HG := Lib.hid hg
      clear hg hke
      go_wp2
      go_ret
      exact ⟨by rw [HG.out]; rfl, rfl⟩

set_option maxHeartbeats 1000000 in
/-- may all be laid in? and how many bytes they are -/
theorem lines_c (ls : List ByteArray) (ao : Option Addr) (cap : Nat) (w : World) (hr : Rd w 1 (.slice ao ls.length cap) ls.length (strs ls)) (hn : ls.length ≤ 4000000) (hb : (lineBytes ls).length ≤ 4000000) :
    Calls Try.prog 46 #[.slice ao ls.length cap] w fun e w' => e = .returned (.tuple #[.bool (ls.all goodLine), .int .i64 (lineBytes ls).length]) ∧ w = w' := by
  have HR := Lib.hid hr
  clear hr
  go_enter Try.func46, Try.ntmps46
  go_wp2
  go_loop [4, 5, 6] (fun n ok i => ∃ k : Nat, k ≤ ls.length ∧ i = .int .i64 k ∧ ok = .bool ((ls.take k).all goodLine) ∧ n = .int .i64 (lineBytes (ls.take k)).length) (fun n ok i => ls.length - (intOf i).toNat)
  case atStart => exact ⟨0, Nat.zero_le _, rfl, by simp, by simp [lineBytes_nil]⟩
  case round =>
    obtain ⟨k, hk, rfl, rfl, rfl⟩ := hrel
    by_cases hlt : k < ls.length
    · obtain ⟨g, off, cap', hv, hnc, hc⟩ := HR.out.at_ (by omega)
      cases hv
      have hck := hc k _ (strs_get ls k hlt)
      clear hc
      have hts : (ls.take (k + 1)).all goodLine = ((ls.take k).all goodLine && goodLine ls[k]) := by
        rw [List.take_succ_eq_append_getElem hlt, List.all_append]; simp
      have hls : (lineBytes (ls.take (k + 1))).length = (lineBytes (ls.take k)).length + ls[k].size + 1 := by
        rw [lineBytes_take_succ ls k hlt, List.length_append, List.length_append, bytes_length]; rfl
      have hle : (lineBytes (ls.take (k + 1))).length ≤ (lineBytes ls).length := by
        conv => rhs; rw [← List.take_append_drop (k + 1) ls]
        rw [lineBytes_append, List.length_append]; omega
      have HT := Lib.hid hts
      clear hts
      generalize hm : (lineBytes (ls.take k)).length = m at *
      cases hb : (ls.take k).all goodLine with
      | true =>
        go_wp2_with (go_at_call 50; refine (isLine_c _ _ (by omega)).mono ?_; rintro e w' ⟨rfl, rfl⟩)
        go_round
        case rel => exact ⟨k + 1, by omega, by go_num, by rw [HT.out, hb]; simp, by rw [hls]; go_num⟩
        case measure => simp [intOf]; omega
      | false =>
        go_wp2
        go_round
        case rel => exact ⟨k + 1, by omega, by go_num, by rw [HT.out, hb]; simp, by rw [hls]; go_num⟩
        case measure => simp [intOf]; omega
    · have hke : k = ls.length := by omega
      subst hke
      go_wp2
      go_ret2
      exact ⟨rfl, rfl⟩

set_option maxHeartbeats 1000000 in
theorem rsize_c (r : Option Nat) (v : Value) (s : St) (w : World) (h : RSt w r v s) (hs : s.fl.length ≤ 1000000) :
    Calls Try.prog 39 #[v] w fun e w' => e = .returned (.int .i64 s.fl.length) ∧ Below w.heap.size w w' := by
  obtain ⟨sv, ps, rfl, hR, -, hrl, hfl, hok⟩ := h
  obtain ⟨ao, cap, rfl⟩ := hR.shape
  have hpl := parts_le hok
  rw [← hfl] at hs ⊢
  clear hfl
  have hR1 : Rd (w.alloc (.cells #[.int .i64 s.limit, .slice ao ps.length cap, .bool s.closed] 29)) 3 (.slice ao ps.length cap) ps.length (itemsOf ps) := hR.alloc _
  have HR := Lib.hid hR1
  have c1 := (Blk.new w 29 #[.int .i64 s.limit, .slice ao ps.length cap, .bool s.closed]).cell 1
  simp only [List.getElem?_toArray, List.getElem?_cons_succ, List.getElem?_cons_zero] at c1
  clear hR hR1 hok
  go_enter Try.func39, Try.ntmps39
  go_wp2
  go_loop [3, 4] (fun n i => ∃ k : Nat, k ≤ ps.length ∧ i = .int .i64 k ∧ n = .int .i64 (flat (ps.take k)).length) (fun n i => ps.length - (intOf i).toNat)
  case atStart => exact ⟨0, Nat.zero_le _, rfl, by simp [flat]⟩
  case round =>
    obtain ⟨k, hk, rfl, rfl⟩ := hrel
    by_cases hlt : k < ps.length
    · obtain ⟨g, off, cap', hv, hnc, hc⟩ := HR.out.at_ (by omega)
      cases hv
      have d0 := hc (k * 3 + 0) _ ((itemsOf_get ps k hlt 0 (by decide)).trans rfl)
      simp only [Nat.add_zero] at d0
      clear hc
      have hls : (flat (ps.take (k + 1))).length = (flat (ps.take k)).length + ps[k].text.size := by
        rw [flat_take_succ ps k hlt, List.length_append, tagged_length]
      have hle : (flat (ps.take (k + 1))).length ≤ (flat ps).length := by
        conv => rhs; rw [← List.take_append_drop (k + 1) ps]
        rw [flat_append, List.length_append]; omega
      generalize hm : (flat (ps.take k)).length = m at *
      go_wp2
      go_round
      case rel => exact ⟨k + 1, by omega, by go_num, by rw [hls]; go_num⟩
      case measure => simp [intOf]; omega
    · have hke : k = ps.length := by omega
      subst hke
      go_wp2
      go_ret
      exact ⟨rfl, (Below.refl _ _).alloc (Nat.le_refl _) _⟩
end Go.Proofs.Ytbfmfliknhcoeaa
