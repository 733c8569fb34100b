/- The document's queue: laid. -/
import Derived.Test.YtbfmfliknhcoeaaJ
import Derived.Deep.RegionHeld3
import Derived.IntWalk
namespace Go.Proofs.Ytbfmfliknhcoeaa
open Go.RowKit QP

theorem info64 : (Try.prog.info? 64).map (fun i => (i.zero, i.size, i.bytes)) = some (some (.agg #[.string ⟨#[]⟩, .int .i64 0, .int .i64 0]), 3, 32) := by kernel_rfl

theorem itemsOf_one (ps : List Part) : ∀ x ∈ itemsOf ps, x.oneCell' = true := by
  intro x hx
  simp only [itemsOf, List.mem_flatMap, itemCells] at hx
  obtain ⟨p, -, hx⟩ := hx
  simp only [List.mem_cons, List.not_mem_nil, or_false] at hx
  rcases hx with rfl | rfl | rfl <;> rfl

def lineParts (pane tick : Int) (ls : List ByteArray) : List Part := ls.map fun l => ⟨pane, tick, l ++ (⟨#[10]⟩ : ByteArray)⟩
theorem flat_lineParts (pane tick : Int) (ls : List ByteArray) : flat (lineParts pane tick ls) = tag pane tick (lineBytes ls) := by
  induction ls with
  | nil => rfl
  | cons l ls ih =>
    rw [lineParts, List.map_cons, flat_cons, lineBytes_cons, tag_append]
    refine congr (congrArg _ ?_) ih
    simp [tagged, tag, bytes_append]; rfl
theorem ok_lineParts (pane tick : Int) (ls : List ByteArray) (hp : pane = 0 → tick = 0) (hp0 : 0 ≤ pane) : okParts (lineParts pane tick ls) := by
  intro p h
  simp only [lineParts, List.mem_map] at h
  obtain ⟨l, -, rfl⟩ := h
  refine ⟨?_, hp, hp0⟩
  have : (l ++ (⟨#[10]⟩ : ByteArray)).size = l.size + 1 := by simp; rfl
  dsimp only
  omega
theorem lineParts_take_succ (pane tick : Int) (ls : List ByteArray) (i : Nat) (h : i < ls.length) : lineParts pane tick (ls.take (i + 1)) = lineParts pane tick (ls.take i) ++ [⟨pane, tick, ls[i] ++ (⟨#[10]⟩ : ByteArray)⟩] := by
  simp only [lineParts, List.take_succ_eq_append_getElem h, List.map_append, List.map_cons, List.map_nil]

theorem line_le (ls : List ByteArray) (k : Nat) (h : k < ls.length) : ls[k].size + 1 ≤ (lineBytes ls).length := by
  have h1 := lineBytes_take_succ ls k h
  have h2 : (lineBytes (ls.take (k + 1))).length ≤ (lineBytes ls).length := by
    conv => rhs; rw [← List.take_append_drop (k + 1) ls]
    rw [lineBytes_append, List.length_append]; omega
  rw [h1, List.length_append, List.length_append, bytes_length] at h2
  simp at h2; omega

theorem Rd.lt {w : World} {sz n : Nat} {v : Value} {xs : List Value} (h : Rd w sz v n xs) (hn : 0 < n) (hs : 0 < sz) : ∀ k, v.ownBlock = some k → k < w.heap.size := by
  intro k hk
  obtain ⟨ao, cap, rfl, hl, -, hc⟩ := h
  obtain ⟨g, off, rfl, hx⟩ := hc hn
  have hpos : 0 < xs.length := by rw [hl]; exact Nat.mul_pos hn hs
  have := hx 0 xs[0] (by simp)
  have hlt : g < w.heap.size := World.block_lt_of_cell? w _ this
  simp [Value.ownBlock] at hk
  omega

/-- the items' block is the old one or a new one, or there is none -/
def NewR (w : World) (r r' : Option Nat) : Prop := r' = r ∨ ∀ k, r' = some k → w.heap.size ≤ k

/-- behind some rounds of laid's loop -/
structure LaidInv (w : World) (s : St) (sv : Value) (ps : List Part) (qs : List Part) (v : Value) (wr : World) : Prop where
  row : Row wr 64 3 v (ps.length + qs.length) (itemsOf (ps ++ qs))
  own : ∀ k, v.ownBlock = some k → w.heap.size + 2 ≤ k
  bel : Below w.heap.size w wr
  box : Blk wr w.heap.size 29 #[.int .i64 s.limit, sv, .bool s.closed]
  res : Blk wr (w.heap.size + 1) 29 #[.int .i64 0, .slice none 0 0, .bool false]

theorem LaidInv.step {w wr w1 : World} {s : St} {sv v v' : Value} {ps qs rs : List Part} (h : LaidInv w s sv ps qs v wr) (o : Obj) (hrow : Row w1 64 3 v' (ps.length + qs.length + rs.length) (itemsOf (ps ++ qs) ++ itemsOf rs))
    (hmod : Mod (fun k => v.ownBlock = some k) (wr.alloc o) w1) (hown : v'.ownBlock = v.ownBlock ∨ v'.ownBlock = some (wr.alloc o).heap.size) : LaidInv w s sv ps (qs ++ rs) v' w1 := by
  have h1 := h.box.lt
  have h2 := h.res.lt
  have h3 := h.bel.size
  refine ⟨?_, ?_, ?_, ?_, ?_⟩
  · rw [List.length_append, ← Nat.add_assoc, ← List.append_assoc, itemsOf_append (ps ++ qs)]; exact hrow
  · intro k hk
    rcases hown with e | e
    · exact h.own k (e.symm.trans hk)
    · rw [e] at hk; injection hk with hk; simp at hk; omega
  · exact below_mod (h.bel.alloc h.bel.size _) hmod (by simp; omega) (fun i hi e => by have := h.own i e; omega)
  · exact (h.box.alloc o).keep hmod fun e => by have := h.own _ e; omega
  · exact (h.res.alloc o).keep hmod fun e => by have := h.own _ e; omega

theorem laid_fin {w wr w2 : World} {s : St} {sv v : Value} {ps : List Part} {pane tick : Int} {ls : List ByteArray} (h : LaidInv w s sv ps (lineParts pane tick ls) v wr) (hok : okParts ps) (hfl : flat ps = s.fl) (hp : pane = 0 → tick = 0) (hp0 : 0 ≤ pane)
    (hm : Mod (fun k => k = w.heap.size + 1) wr w2) :
    ∃ r', RSt w2 r' (.agg #[.int .i64 s.limit, v, .bool s.closed]) { s with fl := s.fl ++ tag pane tick (lineBytes ls) } ∧ (∀ k, r' = some k → w.heap.size ≤ k) ∧ Below w.heap.size w w2 := by
  have hrow := h.row.mod hm fun k hk e => by have := h.own k hk; omega
  rw [← List.length_append] at hrow
  refine ⟨v.ownBlock, ⟨v, ps ++ lineParts pane tick ls, rfl, hrow.rd, rfl, hrow.lt, ?_, ?_⟩, ?_, below_mod h.bel hm h.bel.size fun i hi e => by omega⟩
  · rw [flat_append, flat_lineParts, hfl]
  · intro p hp'
    rcases List.mem_append.1 hp' with h' | h'
    · exact hok p h'
    · exact ok_lineParts _ _ _ hp hp0 p h'
  · intro k hk; have := h.own k hk; omega

set_option maxHeartbeats 2000000 in
set_option maxRecDepth 100000 in
theorem laid_c (r : Option Nat) (v : Value) (s : St) (pane tick : Int) (ls : List ByteArray) (ao : Option Addr) (cap : Nat) (w : World) (h : RSt w r v s) (hr : Rd w 1 (.slice ao ls.length cap) ls.length (strs ls))
    (hp : pane = 0 → tick = 0) (hp0 : 0 ≤ pane) (hl : s.fl.length ≤ 900000) (hn : ls.length ≤ 4000000) (hb : (lineBytes ls).length ≤ 4000000) :
    Calls Try.prog 47 #[v, .slice ao ls.length cap, .int .i64 pane, .int .i64 tick] w fun e w' =>
      ∃ v' r', e = .returned v' ∧ RSt w' r' v' { s with fl := s.fl ++ tag pane tick (lineBytes ls) } ∧ (∀ k, r' = some k → w.heap.size ≤ k) ∧ Below w.heap.size w w' := by
  obtain ⟨sv, ps, rfl, hR, -, hrl, hfl, hok⟩ := h
  obtain ⟨bo, bcap, rfl⟩ := hR.shape
  obtain ⟨i0, hi, hz0, hz1, hz2⟩ := info_parts info64
  have hpl := parts_le hok
  rw [hfl] at hpl
  have HR := Lib.hid hR
  have HL := Lib.hid hr
  have HF := Lib.hid hfl
  have HO := Lib.hid hok
  clear hR hr hfl hok
  have c1 := (((Blk.new w 29 #[.int .i64 s.limit, .slice bo ps.length bcap, .bool s.closed]).alloc (.cells #[.int .i64 0, .slice none 0 0, .bool false] 29))).cell 1
  simp only [List.getElem?_toArray, List.getElem?_cons_succ, List.getElem?_cons_zero] at c1
  go_enter Try.func47, Try.ntmps47
  go_wp2_with (at_builtin; refine wpList_append_row (v := .slice none 0 0) rfl (.tmp 11) (.tmp 13) 27 rfl 64 i0 (.agg #[.string ⟨#[]⟩, .int .i64 0, .int .i64 0]) 3 32 Try.underlying27 hi hz0 hz1 hz2 rfl (by decide) rfl (Row.nil _ _ _) rfl ((HR.out.alloc _).alloc _) (itemsOf_one ps) (by simp [maxLen]; omega) (by omega) ?_; intro v' w1 hrow hmod hown; have HR1 := Lib.hid hrow; have HM1 := Lib.hid hmod; have HO1 := Lib.hid hown; clear hrow hmod hown)
  have hinv : LaidInv w s (.slice bo ps.length bcap) ps (lineParts pane tick (ls.take 0)) v' w1 := by
    have hm := HM1.out
    have hno : ∀ i, ¬ ((Value.slice none 0 0).ownBlock = some i) := fun i e => by simp [Value.ownBlock] at e
    refine ⟨?_, ?_, ?_, ?_, ?_⟩
    · have := HR1.out
      rw [Nat.zero_add, List.nil_append] at this
      simpa [lineParts] using this
    · intro k hk
      rcases HO1.out with e | e
      · exact absurd (e.symm.trans hk) (hno k)
      · rw [e] at hk; injection hk with hk; simp at hk; omega
    · exact below_mod (((Below.refl _ _).alloc (Nat.le_refl _) _).alloc (by simp) _) hm (by simp; omega) (fun i _ e => hno i e)
    · exact ((Blk.new w 29 _).alloc _).keep hm (hno _)
    · have := (Blk.new (w.alloc (.cells #[.int .i64 s.limit, .slice bo ps.length bcap, .bool s.closed] 29)) 29 #[.int .i64 0, .slice none 0 0, .bool false]).keep hm (hno _)
      simpa using this
  have HI := Lib.hid hinv
  clear hinv HR1 HM1 HO1
  go_loopw [9, 10] (fun v i wr => ∃ k : Nat, k ≤ ls.length ∧ i = .int .i64 k ∧ Hid (LaidInv w s (.slice bo ps.length bcap) ps (lineParts pane tick (ls.take k)) v wr)) (fun v i _ => ls.length - (intOf i).toNat)
  case atStart => exact ⟨0, Nat.zero_le _, rfl, HI⟩
  case round =>
    obtain ⟨k, hk, rfl, HV⟩ := hrel
    clear HI c1
    by_cases hlt : k < ls.length
    · have hls := HL.out.below HV.out.bel (HL.out.lt (by omega) (by decide))
      · obtain ⟨g, off, cap', hv, hnc, hc⟩ := hls.at_ (by omega)
        cases hv
        have hck := hc k _ (strs_get ls k hlt)
        have hks : ls[k].size + 1 ≤ 4000000 := Nat.le_trans (line_le ls k hlt) hb
        clear hc hls
        go_wp2_with (at_builtin; refine wpList_append_row (v := u9) rfl (.tmp 21) (.tmp 30) 27 rfl 64 i0 (.agg #[.string ⟨#[]⟩, .int .i64 0, .int .i64 0]) 3 32 Try.underlying27 hi hz0 hz1 hz2 rfl (by decide) rfl (HV.out.row.alloc _) rfl (Rd.box _ _ 3 1 _ (by simp) rfl) (by simp [Value.oneCell']) (by simp [maxLen, lineParts]; omega) (by simp [lineParts]; omega) ?_; intro v' w1 hrow hmod hown; have HR1 := Lib.hid hrow; have HM1 := Lib.hid hmod; have HO1 := Lib.hid hown; clear hrow hmod hown)
        go_roundw
        case rel =>
          refine ⟨k + 1, by omega, by go_num, Lib.hid ?_⟩
          rw [lineParts_take_succ _ _ _ _ hlt]
          exact HV.out.step _ HR1.out HM1.out HO1.out
        case measure => simp [intOf]; omega
    · have hke : k = ls.length := by omega
      subst hke
      rw [List.take_length] at HV
      obtain ⟨ao9, cap9, hu9, _⟩ := id HV.out.row
      subst hu9
      have d0 := HV.out.box.cell 0
      have d2 := HV.out.box.cell 2
      have e0 := HV.out.res.cell 0
      have e1 := HV.out.res.cell 1
      have e2 := HV.out.res.cell 2
      have f0 := HV.out.res.frozen 0
      have f1 := HV.out.res.frozen 1
      have f2 := HV.out.res.frozen 2
      simp only [List.getElem?_toArray, List.getElem?_cons_succ, List.getElem?_cons_zero] at d0 d2 e0 e1 e2
      go_wp2
      refine bodyPost_ret (v := .agg #[.int .i64 s.limit, .slice ao9 (ps.length + (lineParts pane tick ls).length) cap9, .bool s.closed]) (by simp [results, Try.results47, go_sem, e0, e1, e2]) rfl ?_
      obtain ⟨r', q1, q2, q3⟩ := laid_fin HV.out HO.out HF.out hp hp0 ((((Mod.refl (fun k => k = w.heap.size + 1) _).setCell (a := ⟨w.heap.size + 1, 0, none⟩) (.inl rfl) _).setCell (a := ⟨w.heap.size + 1, 1, none⟩) (.inl rfl) _).setCell (a := ⟨w.heap.size + 1, 2, none⟩) (.inl rfl) _)
      exact ⟨_, r', rfl, q1, q2, q3⟩

/-- a box for the queue that came in, a box for the one that goes out -/
theorem two_boxes (w : World) (x y z a b c : Value) : Blk ((w.alloc (.cells #[x, y, z] 29)).alloc (.cells #[a, b, c] 29)) w.heap.size 29 #[x, y, z] ∧ Blk ((w.alloc (.cells #[x, y, z] 29)).alloc (.cells #[a, b, c] 29)) (w.heap.size + 1) 29 #[a, b, c] := by
  refine ⟨(Blk.new w 29 _).alloc _, ?_⟩
  have := Blk.new (w.alloc (.cells #[x, y, z] 29)) 29 #[a, b, c]
  simpa using this

theorem sets3 {w w1 : World} {b : Nat} (h : Below w.heap.size w w1) (hb : w.heap.size ≤ b) (u0 u1 u2 : Value) : Below w.heap.size w (((w1.setCell ⟨b, 0, none⟩ u0).setCell ⟨b, 1, none⟩ u1).setCell ⟨b, 2, none⟩ u2) :=
  below_mod h ((((Mod.refl (fun k => k = b) _).setCell (a := ⟨b, 0, none⟩) (.inl rfl) _).setCell (a := ⟨b, 1, none⟩) (.inl rfl) _).setCell (a := ⟨b, 2, none⟩) (.inl rfl) _) h.size (fun i hi e => by omega)
theorem below_two (w : World) (o o' : Obj) : Below w.heap.size w ((w.alloc o).alloc o') := ((Below.refl _ _).alloc (Nat.le_refl _) _).alloc (by simp) _

theorem rsame {w w2 : World} {r : Option Nat} {v : Value} {s : St} (c : Int) (h : RSt w r v s) (hb : Below w.heap.size w w2) :
    ∃ v' r', Ending.returned (.tuple #[v, .int .i64 c]) = .returned (.tuple #[v', .int .i64 c]) ∧ RSt w2 r' v' s ∧ NewR w r r' ∧ Below w.heap.size w w2 :=
  ⟨v, r, rfl, h.below hb, .inl rfl, hb⟩

/-- the two boxes stand, and all that was -/
structure Two (w : World) (limit : Int) (closed : Bool) (sv : Value) (w1 : World) : Prop where
  bel : Below w.heap.size w w1
  size : w.heap.size + 2 ≤ w1.heap.size
  b1 : Blk w1 w.heap.size 29 #[.int .i64 limit, sv, .bool closed]
  b2 : Blk w1 (w.heap.size + 1) 29 #[.int .i64 0, .slice none 0 0, .bool false]

theorem Two.start (w : World) (limit : Int) (closed : Bool) (sv : Value) : Two w limit closed sv ((w.alloc (.cells #[.int .i64 limit, sv, .bool closed] 29)).alloc (.cells #[.int .i64 0, .slice none 0 0, .bool false] 29)) := by
  obtain ⟨h1, h2⟩ := two_boxes w (.int .i64 limit) sv (.bool closed) (.int .i64 0) (.slice none 0 0) (.bool false)
  exact ⟨below_two w _ _, by simp, h1, h2⟩
theorem Two.drew {w w1 : World} {limit : Int} {closed : Bool} {sv : Value} (h : Two w limit closed sv w1) : Two w limit closed sv w1.drew := ⟨h.bel.drew, h.size, h.b1, h.b2⟩
theorem Two.drewN {w w1 : World} {limit : Int} {closed : Bool} {sv : Value} (h : Two w limit closed sv w1) (n : Nat) : Two w limit closed sv (w1.drewN n) := ⟨⟨h.bel.os, h.bel.tape, h.bel.output, h.bel.size, h.bel.block⟩, h.size, h.b1, h.b2⟩
theorem Two.below {w w1 w2 : World} {limit : Int} {closed : Bool} {sv : Value} (h : Two w limit closed sv w1) (hb : Below w1.heap.size w1 w2) : Two w limit closed sv w2 := by
  have hs := h.size
  exact ⟨h.bel.trans (hb.mono h.bel.size), by have := hb.size; omega, (hb.block _ (by omega)).trans h.b1, (hb.block _ (by omega)).trans h.b2⟩
theorem Two.cells {w w1 : World} {limit : Int} {closed : Bool} {sv : Value} (h : Two w limit closed sv w1) : w1.cell? ⟨w.heap.size, 0, none⟩ = some (.int .i64 limit) ∧ w1.cell? ⟨w.heap.size, 1, none⟩ = some sv ∧ w1.cell? ⟨w.heap.size, 2, none⟩ = some (.bool closed) ∧ Hid (Two w limit closed sv w1) :=
  ⟨h.b1.cell 0, h.b1.cell 1, h.b1.cell 2, Lib.hid h⟩
theorem Two.res {w w1 : World} {limit : Int} {closed : Bool} {sv : Value} (h : Two w limit closed sv w1) : w1.cell? ⟨w.heap.size + 1, 0, none⟩ = some (.int .i64 0) ∧ w1.cell? ⟨w.heap.size + 1, 1, none⟩ = some (.slice none 0 0) ∧ w1.cell? ⟨w.heap.size + 1, 2, none⟩ = some (.bool false) ∧
    w1.frozen? ⟨w.heap.size + 1, 0, none⟩ = false ∧ w1.frozen? ⟨w.heap.size + 1, 1, none⟩ = false ∧ w1.frozen? ⟨w.heap.size + 1, 2, none⟩ = false :=
  ⟨h.b2.cell 0, h.b2.cell 1, h.b2.cell 2, h.b2.frozen 0, h.b2.frozen 1, h.b2.frozen 2⟩

theorem two_keep {w w1 w2 : World} {limit : Int} {closed : Bool} {sv : Value} (h : Hid (Two w limit closed sv w1)) (hb : Hid (Below w1.heap.size w1 w2)) :
    w2.cell? ⟨w.heap.size, 0, none⟩ = some (.int .i64 limit) ∧ w2.cell? ⟨w.heap.size, 1, none⟩ = some sv ∧ w2.cell? ⟨w.heap.size, 2, none⟩ = some (.bool closed) ∧ Hid (Two w limit closed sv w2) := (h.out.below hb.out).cells
theorem rsize_two {w w1 : World} {limit : Int} {closed : Bool} {sv v : Value} {r : Option Nat} {s : St} (h : Hid (Two w limit closed sv w1)) (hq : Hid (RSt w r v s)) (hs : s.fl.length ≤ 1000000) :
    Calls Try.prog 39 #[v] w1 fun e w' => e = .returned (.int .i64 s.fl.length) ∧ Hid (Below w1.heap.size w1 w') :=
  (rsize_c r v s w1 (hq.out.below h.out.bel) hs).mono fun _ _ h => ⟨h.1, Lib.hid h.2⟩

theorem Rd.kept {w w1 : World} {sz n : Nat} {v : Value} {xs : List Value} (h : Rd w sz v n xs) (hs : 0 < sz) (hb : Below w.heap.size w w1) : Rd w1 sz v n xs := by
  rcases Nat.eq_zero_or_pos n with h0 | h0
  · obtain ⟨ao, cap, h1, h2, h3, -⟩ := h
    exact ⟨ao, cap, h1, h2, h3, fun hh => by omega⟩
  · exact h.below hb (h.lt h0 hs)

theorem put_fin {w w1 w2 : World} {limit : Int} {closed : Bool} {sv v' : Value} {r r' : Option Nat} {s' : St} (u0 u1 u2 : Value) (h : Two w limit closed sv w1) (hb : Below w1.heap.size w1 w2) (hq : RSt w2 r' v' s') (hr : ∀ k, r' = some k → w1.heap.size ≤ k) :
    RSt (((w2.setCell ⟨w.heap.size + 1, 0, none⟩ u0).setCell ⟨w.heap.size + 1, 1, none⟩ u1).setCell ⟨w.heap.size + 1, 2, none⟩ u2) r' v' s' ∧ NewR w r r' ∧ Below w.heap.size w (((w2.setCell ⟨w.heap.size + 1, 0, none⟩ u0).setCell ⟨w.heap.size + 1, 1, none⟩ u1).setCell ⟨w.heap.size + 1, 2, none⟩ u2) := by
  have hm := (((Mod.refl (fun k => k = w.heap.size + 1) w2).setCell (a := ⟨w.heap.size + 1, 0, none⟩) (.inl rfl) u0).setCell (a := ⟨w.heap.size + 1, 1, none⟩) (.inl rfl) u1).setCell (a := ⟨w.heap.size + 1, 2, none⟩) (.inl rfl) u2
  have hs := h.size
  exact ⟨hq.mod hm fun k hk e => by have := hr k hk; omega, .inr fun k hk => by have := hr k hk; omega, sets3 (h.bel.trans (hb.mono h.bel.size)) (by omega) _ _ _⟩

end Go.Proofs.Ytbfmfliknhcoeaa
