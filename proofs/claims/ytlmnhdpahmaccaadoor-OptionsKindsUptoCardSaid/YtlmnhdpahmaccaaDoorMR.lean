/- Ranging over a map that is a list of entries, while entries are dropped. -/
import Derived.Test.YtlmnhdpahmaccaaDoorMX
import Derived.Maps.RangeWalk
namespace Go.Proofs.YtlmnhdpahmaccaaDoor
open Go.RowKit Go.MapKept Go.ChangeMaps

section
variable {P : Program} {k : TypeId} {α β : Type}

/-! ### dropping all that a test tells -/
/-- what is there while the test is still to come at 'left' -/
def sift (E : List (α × β)) (pd : α → Bool) (left : α → Bool) : List (α × β) := E.filter fun p => left p.1 || !pd p.1
theorem sift_start (E : List (α × β)) (pd : α → Bool) : sift E pd (fun _ => true) = E := List.filter_eq_self.2 fun _ _ => rfl
theorem sift_end {E : List (α × β)} {pd left : α → Bool} (h : ∀ p ∈ sift E pd left, left p.1 = false) : sift E pd left = E.filter fun p => !pd p.1 := by
  unfold sift at h ⊢
  refine List.filter_congr fun p hp => ?_
  cases hl : left p.1 with
  | false => rfl
  | true =>
    have := h p (List.mem_filter.2 ⟨hp, by rw [hl]; rfl⟩)
    rw [hl] at this
    cases this
/-- block r goes through the map b, which has the entries E; left: which keys are still to come -/
structure Rng (C : Enc P k α β) (w : World) (b r : Nat) (E : List (α × β)) (left : α → Bool) (cnt : Nat) : Prop where
  ex : ∃ es clock since seen c0, w.heap[b]? = some (.map es clock) ∧ es.toList.map (fun x => (x.key, x.val)) = E.map (fun p => (C.key p.1, C.val p.2)) ∧ Stamped es clock ∧
    w.heap[r]? = some (.mapIter (some b) since seen c0) ∧ (∀ x ∈ es.toList, x.born < since) ∧ (leftOf es seen).size = cnt ∧
    (∀ x ∈ es.toList, ∀ p ∈ E, x.key = C.key p.1 → left p.1 = !seen.contains x.born) ∧ since ≤ c0 ∧ since ≤ clock
  keys : ∀ p ∈ E, ∃ l, keyOf P k (C.key p.1) = some l
  nodup : (E.map (·.1)).Nodup

variable {C : Enc P k α β} {w w' : World} {b r : Nat} {E : List (α × β)} {left : α → Bool} {cnt : Nat}
theorem Rng.map (h : Rng C w b r E left cnt) : MapIs C w b E := by
  obtain ⟨es, clock, _, _, _, hb, he, hst, _⟩ := h.ex
  exact ⟨⟨es, clock, hb, he, hst⟩, h.keys, h.nodup⟩
theorem Rng.lt (h : Rng C w b r E left cnt) : r < w.heap.size := by
  obtain ⟨_, _, _, _, _, _, _, _, hr, _⟩ := h.ex
  exact lt_of_heap hr
theorem Rng.ne (h : Rng C w b r E left cnt) : r ≠ b := by
  obtain ⟨_, _, _, _, _, hb, _, _, hr, _⟩ := h.ex
  intro e
  rw [e, hb] at hr
  cases hr
theorem Rng.left_eq (h : Rng C w b r E left cnt) : w.rangeLeft b r = cnt := by
  obtain ⟨_, _, _, _, _, hb, _, _, hr, _, hc, _⟩ := h.ex
  simp only [World.rangeLeft, hb, hr]
  exact hc
theorem Rng.keep (h : Rng C w b r E left cnt) (hb : w'.heap[b]? = w.heap[b]?) (hr : w'.heap[r]? = w.heap[r]?) : Rng C w' b r E left cnt := by
  obtain ⟨es, clock, since, seen, c0, h1, h2, h3, h4, rest⟩ := h.ex
  exact ⟨⟨es, clock, since, seen, c0, hb.trans h1, h2, h3, hr.trans h4, rest⟩, h.keys, h.nodup⟩
theorem Rng.below {B : Nat} (h : Rng C w b r E left cnt) (hb : Below B w w') (h1 : b < B) (h2 : r < B) : Rng C w' b r E left cnt := h.keep (hb.block b h1) (hb.block r h2)
theorem Rng.mod {F : Nat → Prop} (h : Rng C w b r E left cnt) (hm : Mod F w w') (h1 : ¬ F b) (h2 : ¬ F r) : Rng C w' b r E left cnt := h.keep (hm.block b h.map.lt h1) (hm.block r h.lt h2)
theorem Rng.alloc (h : Rng C w b r E left cnt) (o : Obj) : Rng C (w.alloc o) b r E left cnt := h.keep (Below.heap_alloc w o b h.map.lt) (Below.heap_alloc w o r h.lt)
theorem Rng.drew (h : Rng C w b r E left cnt) : Rng C w.drew b r E left cnt := h.keep rfl rfl
theorem Rng.far (h : Rng C w b r E left cnt) {p : Addr} (hb : b ≠ p.block) (hr : r ≠ p.block) (u : Value) : Rng C (w.setCell p u) b r E left cnt := h.keep (Below.heap_setCell w p u b hb) (Below.heap_setCell w p u r hr)

/-- 'range m' -/
theorem MapIs.run_range (h : MapIs C w b E) {t e : TypeId} (ht : P.underlying t = some (.map k e)) :
    ∃ w', (Instr.range t (.map (some b))).run P w = .ok (.pointer (some ⟨w.heap.size, 0, none⟩)) w' ∧ Rng C w' b w.heap.size E (fun _ => true) E.length ∧ Below w.heap.size w w' ∧ w'.heap.size = w.heap.size + 1 := by
  have hlt := h.lt
  obtain ⟨es, clock, hb, he, hst⟩ := h.ex
  refine ⟨_, run_range_map w t k e b es clock ht hb, ⟨⟨es, clock, clock, #[], clock, (Below.heap_alloc w _ b hlt).trans hb, he, hst, heap_alloc_new w _, ((stamped_iff es clock).1 hst).1, ?_, ?_, Nat.le_refl _, Nat.le_refl _⟩, h.keys, h.nodup⟩, (Below.refl _ _).alloc (Nat.le_refl _) _, by simp⟩
  · have := congrArg List.length he
    unfold leftOf
    rw [Array.filter_eq_self.2 (fun x _ => by simp)]
    simpa using this
  · intro x _ p _ _
    simp

variable [DecidableEq α]
/-- the step -/
theorem Rng.run_next (h : Rng C w b r E left cnt) (ty : TypeId) :
    (cnt = 0 ∧ (∀ p ∈ E, left p.1 = false) ∧ (Instr.next (.pointer (some ⟨r, 0, none⟩)) false ty).run P w = .ok (.tuple #[.bool false]) w) ∨
    ∃ p w' cnt', p ∈ E ∧ left p.1 = true ∧ (Instr.next (.pointer (some ⟨r, 0, none⟩)) false ty).run P w = .ok (.tuple #[.bool true, C.key p.1, C.val p.2]) w' ∧
      Rng C w' b r E (fun a => left a && !decide (a = p.1)) cnt' ∧ cnt' < cnt ∧ Mod (fun j => j = r) w w' ∧ w'.heap.size = w.heap.size ∧
      (Instr.entry (.pointer (some ⟨r, 0, none⟩))).run P w' = .ok (.tuple #[C.key p.1, C.val p.2]) w' := by
  have hne := h.ne
  obtain ⟨es, clock, since, seen, c0, hb, he, hst, hr, hold, rfl, hl, hsc, hsk⟩ := h.ex
  have hstamp := (stamped_iff es clock).1 hst
  rcases run_next_at (P := P) w ty r b since c0 seen es clock hr hb hold hsc with ⟨h0, hrun⟩ | ⟨x, hx, w1, hal, hrun⟩
  · refine .inl ⟨h0, fun p hp => ?_, hrun⟩
    obtain ⟨x, hx, e1, -⟩ := MapIs.entry' he hp
    rw [hl x hx p hp e1, all_seen es seen h0 x hx]
    rfl
  · obtain ⟨hxm, hxs⟩ := mem_left hx
    obtain ⟨p, hp, e1, e2⟩ := MapIs.entry he hxm
    have hr1 : w1.heap[r]? = some (.mapIter (some b) since seen c0) := by rcases hal with rfl | rfl <;> exact hr
    have hb1 : w1.heap[b]? = some (.map es clock) := by rcases hal with rfl | rfl <;> exact hb
    have hset := heap_set (o' := .mapIter (some b) since (seen.push x.born) clock) hr1
    have hb' : (setBlock w1 r (.mapIter (some b) since (seen.push x.born) clock)).heap[b]? = some (.map es clock) := (hset.2 b (fun e1 => hne e1.symm)).trans hb1
    refine .inr ⟨p, _, _, hp, by rw [hl x hxm p hp e1, hxs]; rfl, by rw [← e1, ← e2]; exact hrun,
      ⟨⟨es, clock, since, seen.push x.born, clock, hb', he, hst, hset.1, hold, rfl, fun y hy q hq ey => ?_, hsk, hsk⟩, h.keys, h.nodup⟩, left_shrinks es seen x hx, ?_, ?_,
      by rw [← e1, ← e2]; exact run_entry_at _ r b since seen es clock x hset.1 hb' hxm hstamp.2.1⟩
    · rw [hl y hy q hq ey, contains_push]
      by_cases hq1 : q.1 = p.1
      · have hyx : y = x := entry_eq_of_key hstamp.2.2 hy hxm (by rw [ey, e1, hq1])
        rw [hyx, decide_eq_true hq1]
        simp
      · have hyx : y.born ≠ x.born := fun e => by
          have := born_inj hstamp.2.1 hy hxm e
          rw [this, e1] at ey
          exact hq1 (C.inj _ _ ey).symm
        rw [decide_eq_false hq1, show (y.born == x.born) = false by simpa using hyx]
        simp
    · rcases hal with rfl | rfl <;> exact ⟨rfl, rfl, rfl, by simp [setBlock], fun i _ hi => hset.2 i hi⟩
    · rcases hal with rfl | rfl <;> simp [setBlock]

/-- 'delete(m, k)' in the round -/
theorem Rng.run_drop (h : Rng C w b r E left cnt) (K : Maps.Keyed P k) {t e : TypeId} (ht : P.underlying t = some (.map k e)) (ty : TypeId) (a : α) {l : Lit} (ha : keyOf P k (C.key a) = some l) :
    ∃ w1 cnt', (Builtin.delete_ #[t, k] ty #[.map (some b), C.key a]).run P w = .ok (.tuple #[]) w1 ∧ Rng C w1 b r (drop E a) left cnt' ∧ cnt' ≤ cnt ∧ Mod (fun j => j = b) w w1 ∧ w1.heap.size = w.heap.size := by
  have hne := h.ne
  have hM := h.map
  obtain ⟨es, clock, since, seen, c0, hb, he, hst, hr, hold, rfl, hl, hsc, hsk⟩ := h.ex
  have hmod : ∀ o, Mod (fun j => j = b) w (setBlock w b o) := fun o => ⟨rfl, rfl, rfl, by simp [setBlock], fun i _ hi => (heap_set hb).2 i hi⟩
  have hkeys : ∀ p ∈ drop E a, ∃ l, keyOf P k (C.key p.1) = some l := fun p hp => h.keys p (List.mem_filter.1 hp).1
  have hnd : ((drop E a).map (·.1)).Nodup := (List.filter_sublist.map _).nodup h.nodup
  rcases hM.find K he a ha with ⟨h1, h2, h3⟩ | ⟨j, x, u, h1, h2, h3, h4, h5⟩
  · have hd : drop E a = E := List.filter_eq_self.2 fun p hp => by simpa using h2 p hp
    refine ⟨setBlock w b (.map es clock), _, ?_, ⟨⟨es, clock, since, seen, c0, heap_setBlock_same hb _, by rw [hd]; exact he, hst, (heap_setBlock_other hb _ hne).trans hr, hold, rfl, by rw [hd]; exact hl, hsc, hsk⟩, hkeys, hnd⟩, Nat.le_refl _, hmod _, by simp [setBlock]⟩
    simp [Builtin.delete_, Go.run_underlying ht, MapKept.run_getObj_map hb, K.check w _ ha, h1, MapKept.run_setObj_map _ hb, Result.andThen, setBlock]
  · have hjl : j < es.toList.length := (List.getElem?_eq_some_iff.1 h2).1
    have hjs : j < es.size := by simpa using hjl
    have hsub : (es.eraseIdxIfInBounds j).toList = es.toList.eraseIdx j := by
      unfold Array.eraseIdxIfInBounds
      rw [dif_pos hjs]
      simp
    have hsl : (es.eraseIdxIfInBounds j).toList.Sublist es.toList := by rw [hsub]; exact List.eraseIdx_sublist _ _
    have hEj : ∃ u', E[j]? = some (a, u') := by
      have h6 := congrArg (fun l => l[j]?) he
      simp only [List.getElem?_map, h2, Option.map_some] at h6
      cases hE : E[j]? with
      | none => rw [hE] at h6; cases h6
      | some p =>
        rw [hE] at h6
        simp only [Option.map_some, Option.some.injEq, Prod.mk.injEq] at h6
        have : p.1 = a := C.inj _ _ (h6.1.symm.trans h3)
        exact ⟨p.2, by rw [← this]⟩
    have hdr : drop E a = E.eraseIdx j := drop_eq h.nodup hEj
    refine ⟨setBlock w b (.map (es.eraseIdxIfInBounds j) clock), _, ?_, ⟨⟨_, clock, since, seen, c0, heap_setBlock_same hb _, ?_, stamped_erase hst j, (heap_setBlock_other hb _ hne).trans hr, fun x hx => hold x (hsl.subset hx), rfl, fun y hy q hq ey => ?_, hsc, hsk⟩, hkeys, hnd⟩, ?_, hmod _, by simp [setBlock]⟩
    · simp [Builtin.delete_, Go.run_underlying ht, MapKept.run_getObj_map hb, K.check w _ ha, h1, MapKept.run_setObj_map _ hb, Result.andThen, setBlock]
    · rw [hsub, hdr, map_eraseIdx, map_eraseIdx, he]
    · exact hl y (hsl.subset hy) q (List.mem_filter.1 hq).1 ey
    · have e1 : ∀ a : Array MapEntry, (leftOf a seen).size = (a.toList.filter fun e => !seen.contains e.born).length := fun a => by
        unfold leftOf
        rw [← Array.toList_filter, Array.length_toList]
      rw [e1, e1]
      exact (hsl.filter _).length_le

/-! ### at the operations -/
variable {ops : Array Oper} {rest : List Oper} {o : Oper} {ac : Act} {Q : Exit → Act → World → Prop}
omit [DecidableEq α] in
theorem wpList_range_is (C : Enc P k α β) (hg : o.guard = none) (m : Operand) (t : TypeId) (hop : o.op = Op.range t m) (e : TypeId) (ht : P.underlying t = some (.map k e)) (b : Nat) (E : List (α × β))
    (hm : ac.eval m = .map (some b)) (h : MapIs C w b E)
    (hK : ∀ w', Rng C w' b w.heap.size E (fun _ => true) E.length → Below w.heap.size w w' → w'.heap.size = w.heap.size + 1 → wpList P ops Q rest (ac.put o.dst (.pointer (some ⟨w.heap.size, 0, none⟩))) w') :
    wpList P ops Q (o :: rest) ac w := by
  refine wpList_plain hg fun K' hK' => ?_
  obtain ⟨w', hrun, r1, r2, r3⟩ := h.run_range ht
  unfold Oper.wp
  simp [execOp, hop, hm, hrun, Result.andThen]
  exact hK' _ _ (hK w' r1 r2 r3)
theorem wpList_next_is (C : Enc P k α β) (hg : o.guard = none) (it : Operand) (hop : o.op = Op.next it false) (b r : Nat) (E : List (α × β)) (left : α → Bool) (cnt : Nat)
    (hit : ac.eval it = .pointer (some ⟨r, 0, none⟩)) (h : Rng C w b r E left cnt)
    (hDone : cnt = 0 → (∀ p ∈ E, left p.1 = false) → wpList P ops Q rest (ac.put o.dst (.tuple #[.bool false])) w)
    (hMore : ∀ (p : α × β) (w' : World) (cnt' : Nat), p ∈ E → left p.1 = true → Rng C w' b r E (fun a => left a && !decide (a = p.1)) cnt' → cnt' < cnt → Mod (fun j => j = r) w w' → w'.heap.size = w.heap.size →
      (Instr.entry (.pointer (some ⟨r, 0, none⟩))).run P w' = .ok (.tuple #[C.key p.1, C.val p.2]) w' → wpList P ops Q rest (ac.put o.dst (.tuple #[.bool true, C.key p.1, C.val p.2])) w') :
    wpList P ops Q (o :: rest) ac w := by
  refine wpList_plain hg fun K' hK' => ?_
  unfold Oper.wp
  rcases h.run_next o.type with ⟨h0, hl, hrun⟩ | ⟨p, w', cnt', hp, hlk, hrun, hrg, hlt, hgr, hsz, hen⟩
  · simp [execOp, hop, hit, hrun, Result.andThen]
    exact hK' _ _ (hDone h0 hl)
  · simp [execOp, hop, hit, hrun, Result.andThen]
    exact hK' _ _ (hMore p w' cnt' hp hlk hrg hlt hgr hsz hen)
theorem wpList_drop_is (C : Enc P k α β) (hg : o.guard = none) (m x : Operand) (t : TypeId) (hop : o.op = Op.call { callee := Callee.builtin Builtin.delete, args := #[m, x], argTypes := #[t, k] }) (K : Maps.Keyed P k) (e : TypeId) (ht : P.underlying t = some (.map k e))
    (b r : Nat) (E : List (α × β)) (left : α → Bool) (cnt : Nat) (hm : ac.eval m = .map (some b)) (h : Rng C w b r E left cnt) (a : α) {l : Lit} (hx : ac.eval x = C.key a) (ha : keyOf P k (C.key a) = some l)
    (hK : ∀ w1 cnt', Rng C w1 b r (drop E a) left cnt' → cnt' ≤ cnt → Mod (fun j => j = b) w w1 → w1.heap.size = w.heap.size → wpList P ops Q rest (ac.put o.dst (.tuple #[])) w1) : wpList P ops Q (o :: rest) ac w := by
  refine wpList_plain hg fun K' hK' => ?_
  obtain ⟨w1, cnt', hrun, r1, r2, r3, r4⟩ := h.run_drop K ht o.type a ha
  unfold Oper.wp
  simp [execOp, hop, resolve, invoke, builtin, hm, hx, hrun, Result.andThen]
  exact hK' _ _ (hK w1 cnt' r1 r2 r3 r4)

theorem sift_stays {E : List (α × β)} {pd left : α → Bool} {a : α} (h : pd a = false) : sift E pd (fun x => left x && !decide (x = a)) = sift E pd left := by
  unfold sift
  refine List.filter_congr fun p _ => ?_
  by_cases e : p.1 = a
  · simp only [e, h]; simp
  · simp only [decide_eq_false e]; simp
theorem sift_struck {E : List (α × β)} {pd left : α → Bool} {a : α} (h : pd a = true) : sift E pd (fun x => left x && !decide (x = a)) = drop (sift E pd left) a := by
  unfold sift drop
  rw [List.filter_filter]
  refine List.filter_congr fun p _ => ?_
  by_cases e : p.1 = a
  · simp only [e, h]; simp
  · simp only [decide_eq_false e]; simp
end
end Go.Proofs.YtlmnhdpahmaccaaDoor
