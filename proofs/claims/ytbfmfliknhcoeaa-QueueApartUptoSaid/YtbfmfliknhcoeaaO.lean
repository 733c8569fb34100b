/- The document's queue: Drain. -/
import Derived.Test.YtbfmfliknhcoeaaN
namespace Go.Proofs.Ytbfmfliknhcoeaa
open Go.RowKit QP

theorem drain_take (T : Fl) (p : Part) (n : Nat) : lett ((T ++ tagged p).take n) = lett (T.take n) ++ QP.bytes (p.text.extract 0 (min (n - T.length) p.text.size)) := by
  rw [List.take_append, lett_append]
  congr 1
  have h : lett ((tagged p).take (n - T.length)) = (QP.bytes p.text).take (n - T.length) := by simp [lett, tagged, List.map_take, Function.comp_def]
  rw [h, bytes_extract, List.drop_zero]
  simp only [Nat.sub_zero]
  rcases Nat.le_total (n - T.length) p.text.size with h | h
  · rw [Nat.min_eq_left h]
  · rw [Nat.min_eq_right h, List.take_of_length_le (by rw [bytes_length]; exact h), List.take_of_length_le (by rw [bytes_length]; exact Nat.le_refl _)]

theorem drain_drop (T : Fl) (p : Part) (n : Nat) : (T ++ tagged p).drop n = T.drop n ++ tagged { p with text := p.text.extract (min (n - T.length) p.text.size) p.text.size } := by
  rw [List.drop_append]
  congr 1
  simp only [tagged, bytes_extract]
  rw [List.map_take, List.map_drop, List.take_of_length_le (by simp [bytes_length])]
  rcases Nat.le_total (n - T.length) p.text.size with h | h
  · rw [Nat.min_eq_left h]
  · rw [Nat.min_eq_right h, List.drop_eq_nil_of_le (by simp [bytes_length, h]), List.drop_eq_nil_of_le (by simp [bytes_length])]

/-- behind j rounds of Drain's loop -/
structure RDrain (w : World) (s : St) (sv : Value) (ps : List Part) (n : Int) (j : Nat) (out : ByteArray) (qs : List Part) (v : Value) (wr : World) : Prop where
  two : Two w s.limit s.closed sv wr
  row : Row wr 64 3 v qs.length (itemsOf qs)
  own : ∀ k, v.ownBlock = some k → w.heap.size + 2 ≤ k
  got : QP.bytes out = lett ((flat (ps.take j)).take n.toNat)
  rest : flat qs = (flat (ps.take j)).drop n.toNat
  ok : okParts qs
  len : qs.length ≤ j

theorem RDrain.size {w wr : World} {s : St} {sv v : Value} {ps qs : List Part} {n : Int} {j : Nat} {out : ByteArray} (h : RDrain w s sv ps n j out qs v wr) : out.size = min n.toNat (flat (ps.take j)).length := by
  rw [← bytes_length, h.got]
  simp [lett]

theorem RDrain.get {w wr : World} {s : St} {sv v : Value} {ps qs : List Part} {n : Int} {j k : Nat} {out : ByteArray} (h : RDrain w s sv ps n j out qs v wr) (hj : j < ps.length) (hk : k = min (n.toNat - (flat (ps.take j)).length) ps[j].text.size) :
    QP.bytes (out ++ ps[j].text.extract 0 k) = lett ((flat (ps.take (j + 1))).take n.toNat) ∧ (flat (ps.take (j + 1))).drop n.toNat = flat qs ++ tagged { ps[j] with text := ps[j].text.extract k ps[j].text.size } := by
  rw [flat_take_succ ps j hj, drain_take, bytes_append, h.got, drain_drop, ← h.rest, hk]
  exact ⟨rfl, rfl⟩

/-- the whole item is drained -/
theorem RDrain.all {w wr : World} {s : St} {sv v : Value} {ps qs : List Part} {n : Int} {j k : Nat} {out : ByteArray} (h : RDrain w s sv ps n j out qs v wr) (hj : j < ps.length) (hk : k = min (n.toNat - (flat (ps.take j)).length) ps[j].text.size) (he : ¬ k < ps[j].text.size) (o : Obj) :
    RDrain w s sv ps n (j + 1) (out ++ ps[j].text.extract 0 k) qs v (wr.alloc o) := by
  obtain ⟨h1, h2⟩ := h.get hj hk
  refine ⟨h.two.below ((Below.refl _ _).alloc (Nat.le_refl _) _), h.row.alloc _, h.own, h1, ?_, h.ok, by have := h.len; omega⟩
  rw [h2]
  have : (tagged { ps[j] with text := ps[j].text.extract k ps[j].text.size }).length = 0 := by
    rw [tagged_length]; simp only [ByteArray.size_extract]; omega
  rw [List.eq_nil_of_length_eq_zero this, List.append_nil]

/-- a rest is left -/
theorem RDrain.part {w wr w1 w2 : World} {s : St} {sv v v' : Value} {ps qs : List Part} {n : Int} {j k : Nat} {out : ByteArray} (h : RDrain w s sv ps n j out qs v wr) (hj : j < ps.length) (hk : k = min (n.toNat - (flat (ps.take j)).length) ps[j].text.size) (he : k < ps[j].text.size) (hok : okPart ps[j])
    (h1 : Below wr.heap.size wr w1) (hrow : Row w2 64 3 v' (qs.length + 1) (itemsOf qs ++ itemCells { ps[j] with text := ps[j].text.extract k ps[j].text.size })) (hmod : Mod (fun k => v.ownBlock = some k) w1 w2) (hown : v'.ownBlock = v.ownBlock ∨ v'.ownBlock = some w1.heap.size) :
    RDrain w s sv ps n (j + 1) (out ++ ps[j].text.extract 0 k) (qs ++ [{ ps[j] with text := ps[j].text.extract k ps[j].text.size }]) v' w2 := by
  obtain ⟨g1, g2⟩ := h.get hj hk
  have ht := h.two.below h1
  have hs := ht.size
  have hno : ∀ i, v.ownBlock = some i → w.heap.size + 2 ≤ i := h.own
  refine ⟨⟨below_mod ht.bel hmod ht.bel.size (fun i hi e => by have := hno i e; omega), by have := hmod.size; omega, ht.b1.keep hmod fun e => by have := hno _ e; omega, ht.b2.keep hmod fun e => by have := hno _ e; omega⟩, ?_, ?_, g1, ?_, ?_, ?_⟩
  · rw [List.length_append, itemsOf_append]
    simpa [itemsOf] using hrow
  · intro i hi
    rcases hown with e | e
    · exact hno i (e.symm.trans hi)
    · rw [e] at hi; injection hi with hi; omega
  · rw [g2, flat_append]; simp [flat]
  · intro q hq
    rcases List.mem_append.1 hq with hq | hq
    · exact h.ok q hq
    · simp only [List.mem_singleton] at hq
      subst hq
      exact ⟨by simp only [ByteArray.size_extract]; omega, hok.2⟩
  · rw [List.length_append]; have := h.len; simp; omega

theorem RDrain.whole {w wr w1 w2 : World} {s : St} {sv v v' : Value} {ps qs : List Part} {n : Int} {j : Nat} {out : ByteArray} (h : RDrain w s sv ps n j out qs v wr) (hj : j < ps.length) (hk : 0 = min (n.toNat - (flat (ps.take j)).length) ps[j].text.size) (hok : okPart ps[j])
    (h1 : Below wr.heap.size wr w1) (hrow : Row w2 64 3 v' (qs.length + 1) (itemsOf qs ++ itemCells ps[j])) (hmod : Mod (fun k => v.ownBlock = some k) w1 w2) (hown : v'.ownBlock = v.ownBlock ∨ v'.ownBlock = some w1.heap.size) :
    RDrain w s sv ps n (j + 1) out (qs ++ [ps[j]]) v' w2 := by
  have hx : { ps[j] with text := ps[j].text.extract 0 ps[j].text.size } = ps[j] := by simp
  have hy : out ++ ps[j].text.extract 0 0 = out := by simp
  have := h.part (k := 0) hj hk hok.1 hok h1 (by rw [hx]; exact hrow) hmod hown
  rw [hx, hy] at this
  exact this

theorem mod3 (w : World) (b : Nat) (u0 u1 u2 : Value) : Mod (fun k => k = b) w (((w.setCell ⟨b, 0, none⟩ u0).setCell ⟨b, 1, none⟩ u1).setCell ⟨b, 2, none⟩ u2) :=
  (((Mod.refl (fun k => k = b) w).setCell (a := ⟨b, 0, none⟩) (.inl rfl) u0).setCell (a := ⟨b, 1, none⟩) (.inl rfl) u1).setCell (a := ⟨b, 2, none⟩) (.inl rfl) u2

theorem RDrain.fin {w wr w2 : World} {s : St} {sv v : Value} {ps qs : List Part} {n : Int} {out : ByteArray} (h : RDrain w s sv ps n ps.length out qs v wr) (hfl : flat ps = s.fl) (hm : Mod (fun k => k = w.heap.size + 1) wr w2) :
    ∃ (t : ByteArray) (v' : Value) (r' : Option Nat), Ending.returned (.tuple #[.string out, .agg #[.int .i64 s.limit, v, .bool s.closed]]) = .returned (.tuple #[.string t, v']) ∧ QP.bytes t = drained s n ∧ RSt w2 r' v' (drainSt s n) ∧ (∀ k, r' = some k → w.heap.size ≤ k) ∧ Below w.heap.size w w2 := by
  have h1 := h.got
  have h2 := h.rest
  rw [List.take_length, hfl] at h1 h2
  refine ⟨_, _, v.ownBlock, rfl, h1, ⟨v, qs, rfl, ?_, rfl, ?_, h2, h.ok⟩, fun k hk => by have := h.own k hk; omega, below_mod h.two.bel hm h.two.bel.size fun i hi e => by omega⟩
  · exact (h.row.mod hm fun k hk e => by have := h.own k hk; omega).rd
  · intro k hk
    exact Nat.lt_of_lt_of_le (h.row.lt k hk) hm.size

set_option maxHeartbeats 4000000 in
set_option maxRecDepth 100000 in
theorem rdrain_c (r : Option Nat) (v : Value) (s : St) (n : Int) (w : World) (h : RSt w r v s) (hs : s.fl.length ≤ 1000000) (hn0 : -9223372036854775808 ≤ n) (hn1 : n ≤ 9223372036854775807) :
    Calls Try.prog 14 #[v, .int .i64 n] w fun e w' =>
      ∃ (t : ByteArray) (v' : Value) (r' : Option Nat), e = .returned (.tuple #[.string t, v']) ∧ QP.bytes t = drained s n ∧ RSt w' r' v' (drainSt s n) ∧ (∀ k, r' = some k → w.heap.size ≤ k) ∧ Below w.heap.size w w' := by
  obtain ⟨sv, ps, rfl, hR, -, hrl, hfl, hok⟩ := h
  obtain ⟨bo, bcap, rfl⟩ := hR.shape
  obtain ⟨i0, hi, hz0, hz1, hz2⟩ := info_parts info64
  have hpl := parts_le hok
  rw [hfl] at hpl
  have HR := Lib.hid hR
  have HF := Lib.hid hfl
  have HO := Lib.hid hok
  have HT := Lib.hid (Two.start w s.limit s.closed (.slice bo ps.length bcap))
  have hinv : RDrain w s (.slice bo ps.length bcap) ps n 0 ⟨#[]⟩ [] (.slice none 0 0) ((w.alloc (.cells #[.int .i64 s.limit, .slice bo ps.length bcap, .bool s.closed] 29)).alloc (.cells #[.int .i64 0, .slice none 0 0, .bool false] 29)) :=
    ⟨HT.out, Row.nil _ _ _, by simp [Value.ownBlock], by simp [QP.bytes, flat, lett], by simp [flat], by simp [okParts], Nat.le_refl _⟩
  have HI := Lib.hid hinv
  clear hR hfl hok hinv
  go_enter Try.func14, Try.ntmps14
  go_wp2
  go_loopw [6, 7, 8] (fun t v i wr => ∃ (j : Nat) (out : ByteArray) (qs : List Part) , j ≤ ps.length ∧ t = .string out ∧ i = .int .i64 j ∧ Hid (RDrain w s (.slice bo ps.length bcap) ps n j out qs v wr)) (fun _ _ i _ => ps.length - (intOf i).toNat)
  case atStart => exact ⟨0, _, _, Nat.zero_le _, rfl, rfl, HI⟩
  case round =>
    obtain ⟨j, out, qs, hj, rfl, rfl, HV⟩ := hrel
    clear HI
    obtain ⟨d0, d1, d2, -⟩ := HV.out.two.cells
    by_cases hlt : j < ps.length
    · have hR1 := (HR.out.kept (by decide) HV.out.two.bel)
      obtain ⟨gg, off, cap', hv, hnc, hc⟩ := hR1.at_ (by omega)
      cases hv
      have c0 := hc (j * 3 + 0) _ ((itemsOf_get ps j hlt 0 (by decide)).trans rfl)
      have c1 := hc (j * 3 + 1) _ ((itemsOf_get ps j hlt 1 (by decide)).trans rfl)
      have c2 := hc (j * 3 + 2) _ ((itemsOf_get ps j hlt 2 (by decide)).trans rfl)
      simp only [Nat.add_zero, ← Nat.add_assoc] at c0 c1 c2
      have hlen : (flat (ps.take (j + 1))).length ≤ s.fl.length := by
        rw [← HF.out]
        conv => rhs; rw [← List.take_append_drop (j + 1) ps]
        rw [flat_append, List.length_append]; omega
      rw [flat_take_succ ps j hlt, List.length_append, tagged_length] at hlen
      have hsz := HV.out.size
      have hql := HV.out.len
      have HK := Lib.hid (HO.out ps[j] (List.getElem_mem hlt))
      have hpos := HK.out.1
      obtain ⟨k, hk⟩ : ∃ k, k = min (n.toNat - (flat (ps.take j)).length) ps[j].text.size := ⟨_, rfl⟩
      have HKK := Lib.hid hk
      obtain ⟨L, hL⟩ : ∃ L, (flat (ps.take j)).length = L := ⟨_, rfl⟩
      rw [hL] at hlen hsz hk
      have hos : out.size ≤ 1000000 := by omega
      have hps : ps[j].text.size ≤ 1000000 := by omega
      clear hc hR1
      by_cases hnn : (out.size : Int) < n
      · have hd : decide ((out.size : Int) < n) = true := by simpa using hnn
        have hkm : min (n - (out.size : Int)) (ps[j].text.size : Int) = (k : Int) := by omega
        have hks : k ≤ ps[j].text.size := by omega
        clear hk hsz hlen
        by_cases he : k < ps[j].text.size
        · have hd2 : decide (((k : Nat) : Int) < (ps[j].text.size : Int)) = true := by simp; omega
          go_wp2
          go_region_law (refine step_append_row (v := u7) rfl (.tmp 46) (.tmp 56) 27 rfl 64 i0 (.agg #[.string ⟨#[]⟩, .int .i64 0, .int .i64 0]) 3 32 Try.underlying27 hi hz0 hz1 hz2 rfl (by decide) rfl (((HV.out.row.alloc _).drewN _).alloc _) rfl (Rd.box _ _ 3 1 _ (by simp) rfl) (by simp [Value.oneCell']) (by simp [maxLen]; omega) (by omega) ?_; intro v' w1 hrow hmod hown; have HR1 := Lib.hid hrow; have HM1 := Lib.hid hmod; have HO1 := Lib.hid hown; clear hrow hmod hown)
          all_goals
            go_wp2
            go_roundw
            case rel => exact ⟨j + 1, _, _, by omega, rfl, by go_num, Lib.hid (HV.out.part hlt HKK.out he HK.out ((below_drewN ((Below.refl _ _).alloc (Nat.le_refl _) _) _).alloc (by simp) _) HR1.out HM1.out HO1.out)⟩
            case measure => simp [intOf]; omega
        · have hd2 : decide (((k : Nat) : Int) < (ps[j].text.size : Int)) = false := by simp; omega
          go_wp2
          go_roundw
          case rel => exact ⟨j + 1, _, _, by omega, rfl, by go_num, Lib.hid (HV.out.all hlt HKK.out he _)⟩
          case measure => simp [intOf]; omega
      · have hd : decide ((out.size : Int) < n) = false := by simpa using hnn
        have hk0 : k = 0 := by omega
        subst hk0
        clear hk hsz hlen
        have hd2 : decide ((0 : Int) < (ps[j].text.size : Int)) = true := by simp; omega
        go_wp2
        go_region_law (refine step_append_row (v := u7) rfl (.tmp 46) (.tmp 56) 27 rfl 64 i0 (.agg #[.string ⟨#[]⟩, .int .i64 0, .int .i64 0]) 3 32 Try.underlying27 hi hz0 hz1 hz2 rfl (by decide) rfl (((HV.out.row.alloc _).drewN _).alloc _) rfl (Rd.box _ _ 3 1 _ (by simp) rfl) (by simp [Value.oneCell']) (by simp [maxLen]; omega) (by omega) ?_; intro v' w1 hrow hmod hown; have HR1 := Lib.hid hrow; have HM1 := Lib.hid hmod; have HO1 := Lib.hid hown; clear hrow hmod hown)
        all_goals
          go_wp2
          go_roundw
          case rel => exact ⟨j + 1, _, _, by omega, rfl, by go_num, Lib.hid (HV.out.whole hlt HKK.out HK.out ((below_drewN ((Below.refl _ _).alloc (Nat.le_refl _) _) _).alloc (by simp) _) HR1.out HM1.out HO1.out)⟩
          case measure => simp [intOf]; omega
    · have hke : j = ps.length := by omega
      subst hke
      obtain ⟨ao7, cap7, hu7, _⟩ := id HV.out.row
      subst hu7
      obtain ⟨e0, e1, e2, f0, f1, f2⟩ := HV.out.two.res
      go_wp2
      go_region
      all_goals
        go_wp2
        refine bodyPost_ret (v := .tuple #[.string out, .agg #[.int .i64 s.limit, .slice ao7 qs.length cap7, .bool s.closed]]) (by simp [results, Try.results14, go_sem, e0, e1, e2]) rfl ?_
        first | exact HV.out.fin HF.out (mod3 wr (w.heap.size + 1) _ _ _) | exact HV.out.fin HF.out (mod3 wr (w.heap.size + 1) _ _ _).drew
end Go.Proofs.Ytbfmfliknhcoeaa
