/- QueueOwn, walked. -/
import Derived.Test.YtbfmfliknhcoeaaZ2
namespace Go.Proofs.Ytbfmfliknhcoeaa
open Go.RowKit QP

section
variable {P : Program} {w : World}
theorem run_append_row2 (t ty e : TypeId) (i : TypeInfo) (z : Value) (size bytes : Nat) (ht : P.underlying t = some (.slice e)) (hi : P.info? e = some i) (hz : i.zero = some z)
    (hsize : i.size = size) (hby : i.bytes = bytes) (hzs : z.cells.size = size) (hsz : 0 < size)
    {ao : Option Addr} {cap n : Nat} {xs : List Value} (h : Row w e size (.slice ao n cap) n xs)
    {u : Value} {m : Nat} {news : List Value} (hr : Rd w size u m news) (h1 : ∀ x ∈ news, x.oneCell' = true)
    (h63 : n + m ≤ maxLen) (hbytes : (n + m) * bytes ≤ 140737488355328) :
    ∃ v' w', (Builtin.append_ #[t, t] ty #[.slice ao n cap, u]).run P w = .ok v' w' ∧ Row w' e size v' (n + m) (xs ++ news) ∧ Mod (fun k => (Value.slice ao n cap).ownBlock = some k) w w' ∧
      (v' = .slice ao (n + m) cap ∨ (v'.ownBlock = some w.heap.size ∧ Below w.heap.size w w')) := by
  subst hsize
  subst hby
  have hsmall : n + m ≤ 9223372036854775807 := by simp only [maxLen] at h63; omega
  obtain ⟨ao', cap', hv0, hl, hnc, hcm, hcells, hlt⟩ := h
  cases hv0
  obtain ⟨bo, ucap, rfl, hnl, huc, hnews⟩ := hr
  have hlen : (xs ++ news).length = (n + m) * i.size := by rw [List.length_append, hl, hnl, Nat.add_mul]
  by_cases hm0 : m = 0
  · -- nothing is appended
    subst hm0
    have hn0 : news = [] := List.eq_nil_of_length_eq_zero (by simpa using hnl)
    subst hn0
    refine ⟨_, w, ?_, ⟨ao, cap, rfl, hlen, hnc, hcm, fun hc => ?_, hlt⟩, Mod.refl _ _, .inl (by simp)⟩
    · rcases bo with _ | b <;> rcases ao with _ | ad <;> simp [Builtin.append_, run_underlying ht, sizeOf, typeInfo, hi, Builtin.lenOf, Builtin.firstCells, hnc, storeCells, loadCells, loadCellsFrom]
    · obtain ⟨g, off, cur, hg, hb, hs, hx⟩ := hcells hc
      exact ⟨g, off, cur, hg, hb, hs, by simpa using hx⟩
  · obtain ⟨ug, uoff, rfl, huc'⟩ := hnews (by omega)
    have hnews' : ∀ (j : Nat) x, news[j]? = some x → w.cell? ((⟨ug, uoff, none⟩ : Addr).add j) = some x := fun j x hx => by rw [add_lit]; exact huc' j x hx
    have grown : ∀ (old : Nat), old < n + m →
        Row (w.drew.alloc (.cells (xs.toArray ++ news.toArray ++ Builtin.zeroCells z.cells (grownCap w (n + m) old e - (n + m))) e)) e i.size
          (.slice (some ⟨w.heap.size, 0, none⟩) (n + m) (grownCap w (n + m) old e)) (n + m) (xs ++ news) ∧
        Mod (fun k => (Value.slice ao n cap).ownBlock = some k) w (w.drew.alloc (.cells (xs.toArray ++ news.toArray ++ Builtin.zeroCells z.cells (grownCap w (n + m) old e - (n + m))) e)) := by
      intro old ho
      have hge := grownCap_ge w (n + m) old e
      have hcm' : grownCap w (n + m) old e ≤ maxLen := grownCap_le_maxLen w (n + m) old e h63
      refine ⟨⟨_, _, rfl, hlen, hge, hcm', fun _ => ⟨w.heap.size, 0, _, rfl, heap_alloc_new w.drew _, ?_, ?_⟩, fun k hk => ?_⟩, ((Mod.refl _ w).drew).alloc _⟩
      rotate_right
      · have : w.heap.size = k := by simpa [Value.ownBlock] using hk
        simp; omega
      · simp only [Array.size_append, List.size_toArray, size_zeroCells, hzs, hl, hnl]
        rw [← Nat.add_mul, ← Nat.add_mul, Nat.zero_add]
        exact Nat.mul_le_mul_right _ (by omega)
      · simp only [Array.toList_append, List.append_assoc, List.drop_zero]
        rw [← List.append_assoc, ← hlen]
        exact List.take_left
    by_cases hroom : n + m ≤ cap
    · obtain ⟨g, off, cur, rfl, hg, hfit, htake⟩ := hcells (by omega)
      have hcapm : (n + m) * i.size ≤ cap * i.size := Nat.mul_le_mul_right _ hroom
      rw [Nat.add_mul] at hcapm
      have hfit' : off + n * i.size + 0 + news.length ≤ cur.size := by rw [hnl]; omega
      have hf := run_firstCells_some (P := P) w i.size m ⟨ug, uoff, none⟩ m ucap news hnl hnews'
      have hst := run_storeCells_at P g (off + n * i.size) e news 0 cur w hg hfit' h1
      simp only [Nat.add_zero] at hst
      have hrun : (Builtin.append_ #[t, t] ty #[.slice (some ⟨g, off, none⟩) n cap, .slice (some ⟨ug, uoff, none⟩) m ucap]).run P w =
          .ok (.slice (some ⟨g, off, none⟩) (n + m) cap) (w.setRow g (cur.toList.take (off + n * i.size) ++ news ++ cur.toList.drop (off + n * i.size + news.length)).toArray) := by
        simp [Builtin.append_, run_underlying ht, sizeOf, typeInfo, hi, Builtin.lenOf, hroom, hf, add_lit, hst]
      refine ⟨_, _, hrun, ⟨_, _, rfl, hlen, hroom, hcm, fun _ => ⟨g, off, _, rfl, setRow_heap w g cur _ e _ hg, ?_, ?_⟩, fun k hk => ?_⟩, ?_, .inl rfl⟩
      · simp only [List.size_toArray, List.length_append, List.length_take, List.length_drop, Array.length_toList]
        omega
      · rw [← hlen, ← htake]
        have e1 : cur.toList.take (off + n * i.size) = cur.toList.take off ++ (cur.toList.drop off).take (n * i.size) := by
          rw [List.take_add]
        have e2 : (cur.toList.take off).length = off := by rw [List.length_take, Array.length_toList]; omega
        simp only
        rw [e1, List.append_assoc, List.append_assoc, List.drop_left' e2, ← List.append_assoc]
        exact List.take_left
      · simpa using hlt k hk
      · exact ⟨rfl, rfl, rfl, by simp, fun k _ hk => setRow_other w g k _ (fun e => hk (by simp [Value.ownBlock, e]))⟩
    · have h63' : ((n + m : Nat) : Int) ≤ 9223372036854775807 := by omega
      rcases ao with _ | ad
      · have hc0 : cap = 0 := by
          rcases Nat.eq_zero_or_pos cap with h0 | h0
          · exact h0
          · obtain ⟨g, off, cur, hh, _⟩ := hcells h0
            cases hh
        subst hc0
        obtain rfl : n = 0 := by omega
        have hx : xs = [] := List.eq_nil_of_length_eq_zero (by simpa using hl)
        subst hx
        have hr := run_append_nil (P := P) w t ty e i z ht hi hz ⟨ug, uoff, none⟩ m ucap news hnl hnews' (by omega) (by omega) (by have hb := hbytes; simp only [Nat.zero_add] at hb; omega)
        have hgr := grown 0 (by omega)
        simp only [Nat.zero_add, List.nil_append, Array.empty_append] at hgr ⊢
        exact ⟨_, _, hr, hgr.1, hgr.2, .inr ⟨rfl, ((Below.refl _ _).drew).alloc (Nat.le_refl _) _⟩⟩
      · have holds : ∀ (j : Nat) x, xs[j]? = some x → w.cell? (ad.add j) = some x := by
          intro j x hx
          have hj : j < xs.length := (List.getElem?_eq_some_iff.1 hx).1
          have hn : 0 < n := by
            rcases Nat.eq_zero_or_pos n with h0 | h0
            · subst h0; simp at hl; subst hl; simp at hj
            · exact h0
          obtain ⟨g, off, cur, he, hg, hfit, htake⟩ := hcells (by omega)
          cases he
          rw [add_lit, cell_of_row w g (off + j) cur e (0, 0) hg]
          rw [← htake, List.getElem?_take] at hx
          split at hx
          · simpa using hx
          · cases hx
        have hr := run_append_grow (P := P) w t ty e i z ht hi hz ad n cap xs hl holds ⟨ug, uoff, none⟩ m ucap news hnl hnews' (by omega) h63' (growslice_fits (by omega) hbytes)
        have hgr := grown cap (by omega)
        exact ⟨_, _, hr, hgr.1, hgr.2, .inr ⟨rfl, ((Below.refl _ _).drew).alloc (Nat.le_refl _) _⟩⟩

theorem wpList_append_row2 {ops : Array Oper} {rest : List Oper} {o : Oper} {act : Act} {Q : Exit → Act → World → Prop} (hgd : o.guard = none) (s x : Operand) (t : TypeId)
    (ho : o.op = .call { callee := .builtin .append, args := #[s, x], argTypes := #[t, t] })
    (e : TypeId) (i : TypeInfo) (z : Value) (size bytes : Nat) (ht : P.underlying t = some (.slice e)) (hi : P.info? e = some i) (hz : i.zero = some z)
    (hsize : i.size = size) (hby : i.bytes = bytes) (hzs : z.cells.size = size) (hsz : 0 < size)
    {ao : Option Addr} {cap n : Nat} {xs : List Value} (hs : act.eval s = .slice ao n cap) (h : Row w e size (.slice ao n cap) n xs)
    {u : Value} {m : Nat} {news : List Value} (hx : act.eval x = u) (hr : Rd w size u m news) (h1 : ∀ x ∈ news, x.oneCell' = true)
    (h63 : n + m ≤ maxLen) (hbytes : (n + m) * bytes ≤ 140737488355328)
    (hK : ∀ v' w', Row w' e size v' (n + m) (xs ++ news) → Mod (fun k => (Value.slice ao n cap).ownBlock = some k) w w' → (v' = .slice ao (n + m) cap ∨ (v'.ownBlock = some w.heap.size ∧ Below w.heap.size w w')) → wpList P ops Q rest (act.put o.dst v') w') : wpList P ops Q (o :: rest) act w :=
  wpList_plain hgd fun _ hk => by
    obtain ⟨v', w', hrun, h2, h3, h4⟩ := run_append_row2 (P := P) t o.type e i z size bytes ht hi hz hsize hby hzs hsz h hr h1 h63 hbytes
    unfold Oper.wp execOp
    simp only [ho, resolve, invoke, builtin, Sem.run_bind, Sem.run_pure, Result.andThen_ok, List.map_toArray, List.map_cons, List.map_nil, hs, hx, hrun]
    exact hk _ _ (hK v' w' h2 h3 h4)
end

/-- A list that was told, all x, and a list that was made out of it by append, m times y: they share memory or they do not. -/
structure Made (w0 wr : World) (ao : Option Addr) (cap n : Nat) (x y : Int) (m : Nat) (c : Value) : Prop where
  row : Row wr 3 1 c (n + m) (ints (List.replicate n x ++ List.replicate m y))
  far : ∀ k, c.ownBlock = some k → w0.heap.size ≤ k
  either : c = .slice ao (n + m) cap ∨ (Row wr 3 1 (.slice ao n cap) n (ints (List.replicate n x)) ∧ ∀ k, c.ownBlock = some k → (Value.slice ao n cap).ownBlock ≠ some k)

section
variable {w0 wr w1 : World} {ao : Option Addr} {cap n : Nat} {x y : Int} {m : Nat} {c : Value}
theorem Made.start (h : Row wr 3 1 (.slice ao n cap) n (ints (List.replicate n x))) (hf : ∀ k, (Value.slice ao n cap).ownBlock = some k → w0.heap.size ≤ k) : Made w0 wr ao cap n x y 0 (.slice ao n cap) :=
  ⟨by simpa using h, hf, .inl rfl⟩
/-- the list itself, read -/
theorem Made.old (h : Made w0 wr ao cap n x y m c) : Rd wr 1 (.slice ao n cap) n (ints (List.replicate n x)) := by
  rcases h.either with rfl | ⟨h, -⟩
  · obtain ⟨ao', cap', hv, hl, hnc, hc⟩ := h.row.rd
    cases hv
    refine ⟨ao, cap, rfl, by simp [ints], by omega, fun hn => ?_⟩
    obtain ⟨g, off, hg, hx⟩ := hc (by omega)
    refine ⟨g, off, hg, fun j u hu => hx j u ?_⟩
    have hj : j < n := by
      have := (List.getElem?_eq_some_iff.1 hu).1
      simpa [ints] using this
    rw [← hu]
    simp [ints, List.getElem?_append, hj]
  · exact h.rd
theorem Made.mod {F : Nat → Prop} (h : Made w0 wr ao cap n x y m c) (hm : Mod F wr w1) (h1 : ∀ k, c.ownBlock = some k → ¬ F k) (h2 : ∀ k, (Value.slice ao n cap).ownBlock = some k → ¬ F k) : Made w0 w1 ao cap n x y m c :=
  ⟨h.row.mod hm h1, h.far, h.either.imp id fun e => ⟨e.1.mod hm h2, e.2⟩⟩
theorem Made.next {c' : Value} {co : Option Addr} {ccap : Nat} {o : Obj} (h : Made w0 wr ao cap n x y m (.slice co (n + m) ccap)) (hrow : Row w1 3 1 c' (n + m + 1) (ints (List.replicate n x ++ List.replicate m y) ++ [.int .i64 y]))
    (hmod : Mod (fun k => (Value.slice co (n + m) ccap).ownBlock = some k) (wr.alloc o) w1) (he : c' = .slice co (n + m + 1) ccap ∨ (c'.ownBlock = some (wr.alloc o).heap.size ∧ Below (wr.alloc o).heap.size (wr.alloc o) w1)) (hw : w0.heap.size ≤ wr.heap.size) : Made w0 w1 ao cap n x y (m + 1) c' := by
  refine ⟨?_, fun k hk => ?_, ?_⟩
  · rw [← Nat.add_assoc]
    have e : ints (List.replicate n x ++ List.replicate (m + 1) y) = ints (List.replicate n x ++ List.replicate m y) ++ [.int .i64 y] := by
      rw [List.replicate_succ', ← List.append_assoc]; simp [ints]
    rw [e]; exact hrow
  · rcases he with rfl | ⟨e, -⟩
    · exact h.far k (by rw [← hk]; cases co <;> rfl)
    · rw [e] at hk; injection hk with hk; simp at hk; omega
  · rcases he with rfl | ⟨e, hb⟩
    · rcases h.either with e2 | ⟨e2, e3⟩
      · cases e2
        exact .inl rfl
      · refine .inr ⟨(e2.alloc o).mod hmod fun k hk e4 => e3 k e4 hk, fun k hk => e3 k (by rw [← hk]; cases co <;> rfl)⟩
    · right
      have hold : Row (wr.alloc o) 3 1 (.slice ao n cap) n (ints (List.replicate n x)) := by
        rcases h.either with e2 | ⟨e2, -⟩
        · cases e2
          have h5 := (h.row.alloc o).take (m := n) (by omega)
          have e5 : (ints (List.replicate n x ++ List.replicate m y)).take (n * 1) = ints (List.replicate n x) := by
            simp [ints]
          rw [e5] at h5
          exact h5
        · exact e2.alloc o
      refine ⟨hold.below hb hold.lt, fun k hk e4 => ?_⟩
      rw [e] at hk; injection hk with hk
      have := hold.lt k e4
      omega
end
theorem h22r {w : World} {b : Nat} {g : Option Nat} {s : St} (h : Hid (QSt w b g s)) (hl : s.fl.length ≤ 900000) :
    Calls Try.prog 22 #[.pointer (some ⟨b, 0, none⟩)] w fun e w' => ∃ (xs : List Int) (ao : Option Addr) (cap : Nat), e = .returned (.slice ao xs.length cap) ∧ Hid (IsPanes s.fl xs) ∧ Hid (Row w' 3 1 (.slice ao xs.length cap) xs.length (ints xs)) ∧
      Hid (∀ k, (Value.slice ao xs.length cap).ownBlock = some k → w.heap.size ≤ k) ∧ Hid (Below w.heap.size w w') := by
  refine (panes_c b g s w h.out (by omega)).mono ?_
  rintro e w' ⟨v, xs, rfl, h1, h2, h3, h4, h5⟩
  obtain ⟨ao, cap, rfl, _⟩ := id h2
  exact ⟨xs, ao, cap, rfl, Lib.hid h1, Lib.hid h2, Lib.hid h3, Lib.hid h5⟩
theorem h23r {w : World} {r : Option Nat} {v : Value} {s : St} (h : Hid (RSt w r v s)) (hl : s.fl.length ≤ 900000) :
    Calls Try.prog 23 #[v] w fun e w' => ∃ (ao : Option Addr) (n cap : Nat), e = .returned (.slice ao n cap) ∧ Hid (Told s (.slice ao n cap) n w') ∧ Hid (Below w.heap.size w w') := by
  refine (rpanes_c r v s w h.out (by omega)).mono ?_
  rintro e w' ⟨v, xs, rfl, h1, h2, h3, h5⟩
  obtain ⟨ao, cap, rfl, _⟩ := id h2
  exact ⟨ao, _, cap, rfl, Lib.hid ⟨xs, h1, rfl, h2.rd⟩, Lib.hid h5⟩

/-- the two lists, written over so far -/
structure Over (w2 wr : World) (ao bo : Option Addr) (ca cb n k : Nat) : Prop where
  a : ∃ ys : List Int, ys.length = n ∧ Row wr 3 1 (.slice ao n ca) n (ints ys) ∧ ∀ j, j < k → ys[j]? = some (-1)
  b : ∃ ys : List Int, ys.length = n ∧ Row wr 3 1 (.slice bo n cb) n (ints ys) ∧ ∀ j, j < k → ys[j]? = some (-2)
  bel : Below w2.heap.size w2 wr
  a0 : ∀ k, (Value.slice ao n ca).ownBlock = some k → w2.heap.size ≤ k
  b0 : ∀ k, (Value.slice bo n cb).ownBlock = some k → w2.heap.size ≤ k
  ne : ∀ k, (Value.slice ao n ca).ownBlock = some k → (Value.slice bo n cb).ownBlock ≠ some k

theorem ints_set (ys : List Int) (k : Nat) (x : Int) : (ints ys).set k (.int .i64 x) = ints (ys.set k x) := by simp [ints, List.map_set]

theorem Over.next {w2 wr : World} {ga oa gb ob ca cb n k : Nat} (h : Over w2 wr (some ⟨ga, oa, none⟩) (some ⟨gb, ob, none⟩) ca cb n k) (hk : k < n) :
    Over w2 ((wr.setCell ⟨ga, oa + k, none⟩ (.int .i64 (-1))).setCell ⟨gb, ob + k, none⟩ (.int .i64 (-2))) (some ⟨ga, oa, none⟩) (some ⟨gb, ob, none⟩) ca cb n (k + 1) := by
  obtain ⟨ys, hy1, hy2, hy3⟩ := h.a
  obtain ⟨zs, hz1, hz2, hz3⟩ := h.b
  have hne : ga ≠ gb := fun e => h.ne ga rfl (by rw [e]; rfl)
  refine ⟨⟨ys.set k (-1), by simpa using hy1, ?_, fun j hj => ?_⟩, ⟨zs.set k (-2), by simpa using hz1, ?_, fun j hj => ?_⟩, ?_, h.a0, h.b0, h.ne⟩
  · rw [← ints_set]
    exact (hy2.set_ _).far (p := ⟨gb, ob + k, none⟩) (by simp [Value.ownBlock]; exact hne) _
  · by_cases e : j = k
    · subst e; rw [List.getElem?_set_self (by omega)]
    · rw [List.getElem?_set_ne (fun h => e h.symm)]; exact hy3 j (by omega)
  · rw [← ints_set]
    exact (hz2.far (p := ⟨ga, oa + k, none⟩) (by simp [Value.ownBlock]; exact fun e => hne e.symm) _).set_ _
  · by_cases e : j = k
    · subst e; rw [List.getElem?_set_self (by omega)]
    · rw [List.getElem?_set_ne (fun h => e h.symm)]; exact hz3 j (by omega)
  · exact (h.bel.setCell (p := ⟨ga, oa + k, none⟩) (h.a0 ga rfl) _).setCell (p := ⟨gb, ob + k, none⟩) (h.b0 gb rfl) _

theorem all_is {ys : List Int} {n : Nat} {x : Int} (hl : ys.length = n) (h : ∀ j, j < n → ys[j]? = some x) : ys = List.replicate n x := by
  apply List.ext_getElem?
  intro j
  by_cases hj : j < n
  · rw [h j hj]; simp [hj]
  · rw [List.getElem?_eq_none (by omega), List.getElem?_eq_none (by simp; omega)]
end Go.Proofs.Ytbfmfliknhcoeaa
