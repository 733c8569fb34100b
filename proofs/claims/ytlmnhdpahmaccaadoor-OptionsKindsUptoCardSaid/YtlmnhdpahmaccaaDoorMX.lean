/- Maps as lists of entries: what the operations on a map come to. -/
import Derived.Test.YtlmnhdpahmaccaaDoorM
import Derived.Maps.OwnSet
import Derived.Maps.Range
import Derived.Carry
namespace Go.Proofs.YtlmnhdpahmaccaaDoor
open Go.RowKit Go.MapKept Go.ChangeMaps

/-- how keys and elements of a map are written as values -/
structure Enc (P : Program) (k : TypeId) (α β : Type) where
  key : α → Value
  val : β → Value
  inj : ∀ a b, key a = key b → a = b

section
variable {P : Program} {k : TypeId} {α β : Type}

/-- block b is a map with these entries -/
structure MapIs (C : Enc P k α β) (w : World) (b : Nat) (E : List (α × β)) : Prop where
  ex : ∃ es clock, w.heap[b]? = some (.map es clock) ∧ es.toList.map (fun x => (x.key, x.val)) = E.map (fun p => (C.key p.1, C.val p.2)) ∧ Stamped es clock
  keys : ∀ p ∈ E, ∃ l, keyOf P k (C.key p.1) = some l
  nodup : (E.map (·.1)).Nodup

variable {C : Enc P k α β} {w w' : World} {b : Nat} {E : List (α × β)}
theorem MapIs.lt (h : MapIs C w b E) : b < w.heap.size := by
  obtain ⟨es, clock, hb, -⟩ := h.ex
  exact lt_of_heap hb
theorem MapIs.keep (h : MapIs C w b E) (hk : w'.heap[b]? = w.heap[b]?) : MapIs C w' b E := by
  obtain ⟨es, clock, hb, h2, h3⟩ := h.ex
  exact ⟨⟨es, clock, hk.trans hb, h2, h3⟩, h.keys, h.nodup⟩
theorem MapIs.mod {F : Nat → Prop} (h : MapIs C w b E) (hm : Mod F w w') (hn : ¬ F b) : MapIs C w' b E := h.keep (hm.block b h.lt hn)
theorem MapIs.below {B : Nat} (h : MapIs C w b E) (hb : Below B w w') (hB : b < B) : MapIs C w' b E := h.keep (hb.block b hB)
theorem MapIs.alloc (h : MapIs C w b E) (o : Obj) : MapIs C (w.alloc o) b E := h.keep (Below.heap_alloc w o b h.lt)
theorem MapIs.drew (h : MapIs C w b E) : MapIs C w.drew b E := h.keep rfl
theorem MapIs.far (h : MapIs C w b E) {p : Addr} (hp : b ≠ p.block) (u : Value) : MapIs C (w.setCell p u) b E := h.keep (Below.heap_setCell w p u b hp)
theorem MapIs.new (w : World) (clock : Nat) : MapIs C (w.alloc (.map #[] clock)) w.heap.size [] :=
  ⟨⟨#[], clock, heap_alloc_new w _, rfl, (stamped_iff _ _).2 ⟨by simp, by simp, by simp⟩⟩, by simp, by simp⟩

/-- entries and values -/
theorem MapIs.entry {es : Array MapEntry} (he : es.toList.map (fun x => (x.key, x.val)) = E.map (fun p => (C.key p.1, C.val p.2))) {x : MapEntry} (hx : x ∈ es.toList) : ∃ p ∈ E, x.key = C.key p.1 ∧ x.val = C.val p.2 := by
  have h1 : (x.key, x.val) ∈ E.map (fun p => (C.key p.1, C.val p.2)) := by rw [← he]; exact List.mem_map.2 ⟨x, hx, rfl⟩
  obtain ⟨p, hp, e⟩ := List.mem_map.1 h1
  injection e with e1 e2
  exact ⟨p, hp, e1.symm, e2.symm⟩
theorem MapIs.entry' {es : Array MapEntry} (he : es.toList.map (fun x => (x.key, x.val)) = E.map (fun p => (C.key p.1, C.val p.2))) {p : α × β} (hp : p ∈ E) : ∃ x ∈ es.toList, x.key = C.key p.1 ∧ x.val = C.val p.2 := by
  have h1 : (C.key p.1, C.val p.2) ∈ es.toList.map (fun x => (x.key, x.val)) := by rw [he]; exact List.mem_map.2 ⟨p, hp, rfl⟩
  obtain ⟨x, hx, e⟩ := List.mem_map.1 h1
  injection e with e1 e2
  exact ⟨x, hx, e1, e2⟩

theorem MapIs.run_len (h : MapIs C w b E) {t e : TypeId} (ht : P.underlying t = some (.map k e)) (ty : TypeId) : (Builtin.len_ #[t] ty #[.map (some b)]).run P w = .ok (.int .i64 E.length) w := by
  obtain ⟨es, clock, hb, he, hst⟩ := h.ex
  have hl : es.size = E.length := by
    have := congrArg List.length he
    simpa using this
  simp [Builtin.len_, Go.run_underlying ht, MapKept.run_getObj_map hb, goInt, Result.andThen, hl]

theorem map_set_of {γ δ : Type} (f : γ → δ) (l : List γ) (j : Nat) (x : γ) : (l.set j x).map f = (l.map f).set j (f x) := by rw [List.map_set]
end

section
variable {P : Program} {k : TypeId} {α β : Type} [DecidableEq α]
def look (E : List (α × β)) (a : α) : Option β := (E.find? fun p => decide (p.1 = a)).map (·.2)
def put (E : List (α × β)) (a : α) (v : β) : List (α × β) := if E.any (fun p => decide (p.1 = a)) then E.map (fun p => if p.1 = a then (a, v) else p) else E ++ [(a, v)]
def drop (E : List (α × β)) (a : α) : List (α × β) := E.filter fun p => !decide (p.1 = a)

theorem look_none {E : List (α × β)} {a : α} (h : ∀ p ∈ E, p.1 ≠ a) : look E a = none := by
  unfold look
  rw [List.find?_eq_none.2 fun p hp => by simpa using h p hp]
  rfl
theorem look_mem {E : List (α × β)} (hd : (E.map (·.1)).Nodup) {p : α × β} (hp : p ∈ E) : look E p.1 = some p.2 := by
  induction E with
  | nil => cases hp
  | cons x r ih =>
    rw [List.map_cons, List.nodup_cons] at hd
    unfold look
    rw [List.find?_cons]
    rcases List.mem_cons.1 hp with e | e
    · subst e; simp
    · have hne : x.1 ≠ p.1 := fun h => hd.1 (List.mem_map.2 ⟨p, e, h.symm⟩)
      rw [show decide (x.1 = p.1) = false from decide_eq_false hne]
      exact ih hd.2 e
theorem look_some {E : List (α × β)} {a : α} {v : β} (h : look E a = some v) : (a, v) ∈ E := by
  unfold look at h
  cases hf : E.find? fun p => decide (p.1 = a) with
  | none => rw [hf] at h; cases h
  | some p =>
    rw [hf] at h
    have h1 := List.find?_some hf
    have h2 := List.mem_of_find?_eq_some hf
    simp at h1 h
    obtain ⟨x, y⟩ := p
    simp at h1 h
    subst h1 h
    exact h2

variable {C : Enc P k α β} {w w' : World} {b : Nat} {E : List (α × β)}
/-- the search for a key -/
theorem MapIs.find (h : MapIs C w b E) (K : Maps.Keyed P k) {es : Array MapEntry} (he : es.toList.map (fun x => (x.key, x.val)) = E.map (fun p => (C.key p.1, C.val p.2))) (a : α) {l : Lit} (ha : keyOf P k (C.key a) = some l) :
    ((Instr.findKey k (C.key a) es.toList).run P w = .ok none w ∧ (∀ p ∈ E, p.1 ≠ a) ∧ ∀ x ∈ es.toList, x.key ≠ C.key a) ∨
    ∃ j x v, (Instr.findKey k (C.key a) es.toList).run P w = .ok (some (j, C.val v)) w ∧ es.toList[j]? = some x ∧ x.key = C.key a ∧ (a, v) ∈ E ∧ look E a = some v := by
  rcases K.find w ha es.toList (fun x hx => by obtain ⟨p, hp, e1, -⟩ := MapIs.entry he hx; rw [e1]; exact h.keys p hp) with ⟨h1, h2⟩ | ⟨j, x, h1, h2, h3⟩
  · refine .inl ⟨h1, fun p hp e => ?_, h2⟩
    obtain ⟨x, hx, e1, -⟩ := MapIs.entry' he hp
    exact h2 x hx (by rw [e1, e])
  · obtain ⟨p, hp, e1, e2⟩ := MapIs.entry he (List.mem_of_getElem? h2)
    have hpa : p.1 = a := C.inj _ _ (e1.symm.trans h3)
    obtain ⟨pa, v⟩ := p
    simp only at hpa e1 e2
    subst hpa
    exact .inr ⟨j, x, v, by rw [← e2]; exact h1, h2, h3, hp, look_mem h.nodup hp⟩

theorem MapIs.run_look (h : MapIs C w b E) (K : Maps.Keyed P k) {t e : TypeId} (ht : P.underlying t = some (.map k e)) {z : Value} (hz : (zeroValue e).run P w = .ok z w) (a : α) {l : Lit} (ha : keyOf P k (C.key a) = some l) :
    (Instr.lookup t (.map (some b)) (C.key a) true).run P w = .ok (.tuple #[((look E a).map C.val).getD z, .bool (look E a).isSome]) w := by
  obtain ⟨es, clock, hb, he, hst⟩ := h.ex
  rcases h.find K he a ha with ⟨h1, h2, -⟩ | ⟨j, x, v, h1, -, -, -, h5⟩
  · rw [look_none h2]
    simp [Instr.lookup, Go.run_underlying ht, MapKept.run_getObj_map hb, K.check w _ ha, h1, hz, Result.andThen]
  · rw [h5]
    simp [Instr.lookup, Go.run_underlying ht, MapKept.run_getObj_map hb, K.check w _ ha, h1, Result.andThen]

theorem set_eq_map {E : List (α × β)} (hd : (E.map (·.1)).Nodup) {a : α} {v : β} {j : Nat} (hj : ∃ u, E[j]? = some (a, u)) : E.set j (a, v) = E.map (fun p => if p.1 = a then (a, v) else p) := by
  induction E generalizing j with
  | nil => obtain ⟨u, hu⟩ := hj; simp at hu
  | cons x r ih =>
    rw [List.map_cons, List.nodup_cons] at hd
    obtain ⟨u, hu⟩ := hj
    cases j with
    | zero =>
      simp at hu
      subst hu
      simp only [List.set_cons_zero, List.map_cons, if_true]
      congr 1
      have : ∀ p ∈ r, (if p.1 = a then (a, v) else p) = p := fun p hp => by
        rw [if_neg]
        intro e
        exact hd.1 (List.mem_map.2 ⟨p, hp, e⟩)
      rw [List.map_congr_left this, List.map_id']
    | succ j =>
      simp at hu
      have hx : x.1 ≠ a := fun e => hd.1 (List.mem_map.2 ⟨(a, u), List.mem_of_getElem? hu, e.symm⟩)
      rw [List.set_cons_succ, List.map_cons, if_neg hx, ih hd.2 ⟨u, hu⟩]

theorem put_keys {E : List (α × β)} (hd : (E.map (·.1)).Nodup) (a : α) (v : β) : ((put E a v).map (·.1)).Nodup := by
  unfold put
  split
  · have : (E.map (fun p => if p.1 = a then (a, v) else p)).map (·.1) = E.map (·.1) := by
      rw [List.map_map]
      refine List.map_congr_left fun p _ => ?_
      by_cases h : p.1 = a <;> simp [h]
    rw [this]; exact hd
  · rename_i h
    rw [List.map_append, List.map_singleton, List.nodup_append]
    refine ⟨hd, by simp, fun x hx y hy e => ?_⟩
    simp at hy
    subst hy
    subst e
    obtain ⟨p, hp, e⟩ := List.mem_map.1 hx
    exact h (List.any_eq_true.2 ⟨p, hp, by simpa using e⟩)
theorem put_mem {E : List (α × β)} {a : α} {v : β} {p : α × β} (h : p ∈ put E a v) : p ∈ E ∨ p = (a, v) := by
  unfold put at h
  split at h
  · obtain ⟨q, hq, e⟩ := List.mem_map.1 h
    by_cases hh : q.1 = a
    · rw [if_pos hh] at e; exact .inr e.symm
    · rw [if_neg hh] at e; exact .inl (e ▸ hq)
  · rcases List.mem_append.1 h with h | h
    · exact .inl h
    · exact .inr (by simpa using h)

theorem MapIs.run_put (h : MapIs C w b E) (K : Maps.Keyed P k) {t e : TypeId} (ht : P.underlying t = some (.map k e)) (a : α) {l : Lit} (ha : keyOf P k (C.key a) = some l) (v : β) :
    ∃ w1, (Instr.mapUpdate t (.map (some b)) (C.key a) (C.val v)).run P w = .ok () w1 ∧ MapIs C w1 b (put E a v) ∧ Mod (fun j => j = b) w w1 := by
  obtain ⟨es, clock, hb, he, hst⟩ := h.ex
  have hmod : ∀ o, Mod (fun j => j = b) w (setBlock w b o) := fun o => ⟨rfl, rfl, rfl, by simp [setBlock], fun i _ hi => (heap_set hb).2 i hi⟩
  have hkeys : ∀ p ∈ put E a v, ∃ l, keyOf P k (C.key p.1) = some l := fun p hp => by
    rcases put_mem hp with hp | hp
    · exact h.keys p hp
    · rw [hp]; exact ⟨l, ha⟩
  rcases h.find K he a ha with ⟨h1, h2, h3⟩ | ⟨j, x, u, h1, h2, h3, h4, h5⟩
  · have hput : put E a v = E ++ [(a, v)] := by
      unfold put
      rw [if_neg]
      intro hh
      obtain ⟨p, hp, e⟩ := List.any_eq_true.1 hh
      exact h2 p hp (by simpa using e)
    refine ⟨setBlock w b (.map (es.push ⟨C.key a, C.val v, clock⟩) (clock + 1)), ?_, ⟨⟨_, _, heap_setBlock_same hb _, ?_, stamped_push hst h3⟩, hkeys, put_keys h.nodup a v⟩, hmod _⟩
    · simp [Instr.mapUpdate, Go.run_underlying ht, MapKept.run_getObj_map hb, K.check w false ha, h1, MapKept.run_setObj_map _ hb, Result.andThen, setBlock]
    · rw [hput, Array.toList_push, List.map_append, List.map_append, he]; rfl
  · have hany : E.any (fun p => decide (p.1 = a)) = true := List.any_eq_true.2 ⟨(a, u), h4, by simp⟩
    have hput : put E a v = E.map (fun p => if p.1 = a then (a, v) else p) := by unfold put; rw [if_pos hany]
    have hj : es[j]? = some x := by simpa using h2
    have hlist : (es.modify j (fun e' => { e' with key := C.key a, val := C.val v })).toList = es.toList.set j { x with key := C.key a, val := C.val v } := by rw [Array.toList_modify, modify_eq_set _ _ _ _ h2]
    have hEj : ∃ u', E[j]? = some (a, u') := by
      have h6 := congrArg (fun l => l[j]?) he
      simp only [List.getElem?_map, h2, Option.map_some] at h6
      cases hE : E[j]? with
      | none => rw [hE] at h6; cases h6
      | some p =>
        rw [hE] at h6
        simp only [Option.map_some, Option.some.injEq, Prod.mk.injEq] at h6
        have : p.1 = a := C.inj _ _ (h6.1.symm.trans h3)
        exact ⟨p.2, by rw [← this]⟩
    refine ⟨setBlock w b (.map (es.modify j (fun e' => { e' with key := C.key a, val := C.val v })) clock), ?_, ⟨⟨_, _, heap_setBlock_same hb _, ?_, stamped_modify hst _ _ (fun _ _ => rfl) (fun e' _ he' => by rw [hj] at he'; cases he'; exact h3.symm)⟩, hkeys, put_keys h.nodup a v⟩, hmod _⟩
    · simp [Instr.mapUpdate, Go.run_underlying ht, MapKept.run_getObj_map hb, K.check w false ha, h1, hj, h3, K.stays w ha, MapKept.run_setObj_map _ hb, Result.andThen, setBlock]
    · rw [hlist, map_set_of, he, hput, ← set_eq_map h.nodup hEj, map_set_of]

theorem drop_eq {E : List (α × β)} (hn : (E.map (·.1)).Nodup) {a : α} {j : Nat} (hj : ∃ u, E[j]? = some (a, u)) : drop E a = E.eraseIdx j := by
  induction E generalizing j with
  | nil => rfl
  | cons y r ih =>
    rw [List.map_cons, List.nodup_cons] at hn
    obtain ⟨u', hu⟩ := hj
    cases j with
    | zero =>
      simp at hu
      subst hu
      unfold drop
      rw [List.filter_cons]
      simp only [decide_true, Bool.not_true, Bool.false_eq_true, if_false, List.eraseIdx_cons_zero]
      refine List.filter_eq_self.2 fun p hp => ?_
      have : p.1 ≠ a := fun e => hn.1 (List.mem_map.2 ⟨p, hp, e⟩)
      simpa using this
    | succ j =>
      simp at hu
      have hy : y.1 ≠ a := fun e => hn.1 (List.mem_map.2 ⟨(a, u'), List.mem_of_getElem? hu, e.symm⟩)
      have := ih hn.2 (j := j) ⟨u', hu⟩
      unfold drop at this ⊢
      rw [List.filter_cons, if_pos (by simpa using hy), List.eraseIdx_cons_succ, this]

theorem MapIs.run_drop (h : MapIs C w b E) (K : Maps.Keyed P k) {t e : TypeId} (ht : P.underlying t = some (.map k e)) (ty : TypeId) (a : α) {l : Lit} (ha : keyOf P k (C.key a) = some l) :
    ∃ w1, (Builtin.delete_ #[t, k] ty #[.map (some b), C.key a]).run P w = .ok (.tuple #[]) w1 ∧ MapIs C w1 b (drop E a) ∧ Mod (fun j => j = b) w w1 := by
  obtain ⟨es, clock, hb, he, hst⟩ := h.ex
  have hmod : ∀ o, Mod (fun j => j = b) w (setBlock w b o) := fun o => ⟨rfl, rfl, rfl, by simp [setBlock], fun i _ hi => (heap_set hb).2 i hi⟩
  have hkeys : ∀ p ∈ drop E a, ∃ l, keyOf P k (C.key p.1) = some l := fun p hp => h.keys p (List.mem_filter.1 hp).1
  have hnd : ((drop E a).map (·.1)).Nodup := (List.filter_sublist.map _).nodup h.nodup
  rcases h.find K he a ha with ⟨h1, h2, h3⟩ | ⟨j, x, u, h1, h2, h3, h4, h5⟩
  · have hd : drop E a = E := List.filter_eq_self.2 fun p hp => by simpa using h2 p hp
    refine ⟨setBlock w b (.map es clock), ?_, ⟨⟨_, _, heap_setBlock_same hb _, by rw [hd]; exact he, hst⟩, hkeys, hnd⟩, hmod _⟩
    simp [Builtin.delete_, Go.run_underlying ht, MapKept.run_getObj_map hb, K.check w _ ha, h1, MapKept.run_setObj_map _ hb, Result.andThen, setBlock]
  · have hjl : j < es.toList.length := (List.getElem?_eq_some_iff.1 h2).1
    have hjs : j < es.size := by simpa using hjl
    have hsub : (es.eraseIdxIfInBounds j).toList = es.toList.eraseIdx j := by
      unfold Array.eraseIdxIfInBounds
      rw [dif_pos hjs]
      simp
    have hEj : ∃ u', E[j]? = some (a, u') := by
      have h6 := congrArg (fun l => l[j]?) he
      simp only [List.getElem?_map, h2, Option.map_some] at h6
      cases hE : E[j]? with
      | none => rw [hE] at h6; cases h6
      | some p =>
        rw [hE] at h6
        simp only [Option.map_some, Option.some.injEq, Prod.mk.injEq] at h6
        have : p.1 = a := C.inj _ _ (h6.1.symm.trans h3)
        exact ⟨p.2, by rw [← this]⟩
    have hdr : drop E a = E.eraseIdx j := drop_eq h.nodup hEj
    refine ⟨setBlock w b (.map (es.eraseIdxIfInBounds j) clock), ?_, ⟨⟨_, _, heap_setBlock_same hb _, ?_, stamped_erase hst j⟩, hkeys, hnd⟩, hmod _⟩
    · simp [Builtin.delete_, Go.run_underlying ht, MapKept.run_getObj_map hb, K.check w _ ha, h1, MapKept.run_setObj_map _ hb, Result.andThen, setBlock]
    · rw [hsub, hdr, map_eraseIdx, map_eraseIdx, he]
/-! ### at the operation -/
variable {ops : Array Oper} {rest : List Oper} {o : Oper} {ac : Act} {Q : Exit → Act → World → Prop}
theorem wpList_map_look (C : Enc P k α β) (hg : o.guard = none) (m x : Operand) (t : TypeId) (hop : o.op = Op.lookup t m x true) (K : Maps.Keyed P k) (e : TypeId) (ht : P.underlying t = some (.map k e)) {z : Value} (hz : (zeroValue e).run P w = .ok z w)
    (hm : ac.eval m = .map (some b)) (h : MapIs C w b E) (a : α) {l : Lit} (hx : ac.eval x = C.key a) (ha : keyOf P k (C.key a) = some l)
    (hK : wpList P ops Q rest (ac.put o.dst (.tuple #[((look E a).map C.val).getD z, .bool (look E a).isSome])) w) : wpList P ops Q (o :: rest) ac w := by
  refine wpList_plain hg fun K' hK' => ?_
  unfold Oper.wp
  simp [execOp, hop, hm, hx, h.run_look K ht hz a ha, Result.andThen]
  exact hK' _ _ hK
theorem wpList_map_put (C : Enc P k α β) (hg : o.guard = none) (m x y : Operand) (t : TypeId) (hop : o.op = Op.mapUpdate t m x y) (K : Maps.Keyed P k) (e : TypeId) (ht : P.underlying t = some (.map k e))
    (hm : ac.eval m = .map (some b)) (h : MapIs C w b E) (a : α) {l : Lit} (hx : ac.eval x = C.key a) (ha : keyOf P k (C.key a) = some l) (v : β) (hy : ac.eval y = C.val v)
    (hK : ∀ w1, MapIs C w1 b (put E a v) → Mod (fun j => j = b) w w1 → wpList P ops Q rest (ac.put o.dst undef) w1) : wpList P ops Q (o :: rest) ac w := by
  refine wpList_plain hg fun K' hK' => ?_
  obtain ⟨w1, hrun, r1, r2⟩ := h.run_put K ht a ha v
  unfold Oper.wp
  simp [execOp, hop, hm, hx, hy, hrun, Result.andThen]
  exact hK' _ _ (hK w1 r1 r2)
theorem wpList_map_drop (C : Enc P k α β) (hg : o.guard = none) (m x : Operand) (t : TypeId) (hop : o.op = Op.call { callee := Callee.builtin Builtin.delete, args := #[m, x], argTypes := #[t, k] }) (K : Maps.Keyed P k) (e : TypeId) (ht : P.underlying t = some (.map k e))
    (hm : ac.eval m = .map (some b)) (h : MapIs C w b E) (a : α) {l : Lit} (hx : ac.eval x = C.key a) (ha : keyOf P k (C.key a) = some l)
    (hK : ∀ w1, MapIs C w1 b (drop E a) → Mod (fun j => j = b) w w1 → wpList P ops Q rest (ac.put o.dst (.tuple #[])) w1) : wpList P ops Q (o :: rest) ac w := by
  refine wpList_plain hg fun K' hK' => ?_
  obtain ⟨w1, hrun, r1, r2⟩ := h.run_drop K ht o.type a ha
  unfold Oper.wp
  simp [execOp, hop, resolve, invoke, builtin, hm, hx, hrun, Result.andThen]
  exact hK' _ _ (hK w1 r1 r2)
theorem wpList_map_make (t : TypeId) (hg : o.guard = none) (hop : o.op = Op.makeMap t none) (hK : wpList P ops Q rest (ac.put o.dst (.map (some w.heap.size))) (w.alloc (.map #[] 0))) : wpList P ops Q (o :: rest) ac w := by
  refine wpList_plain hg fun K' hK' => ?_
  unfold Oper.wp
  simp [execOp, hop, run_makeMap, Result.andThen]
  exact hK' _ _ hK
end

section
variable {P : Program} {k : TypeId} {α β : Type} {w : World} {b : Nat} {E : List (α × β)} {ops : Array Oper} {rest : List Oper} {o : Oper} {ac : Act} {Q : Exit → Act → World → Prop}
theorem wpList_map_len (C : Enc P k α β) (hg : o.guard = none) (m : Operand) (t : TypeId) (hop : o.op = Op.call { callee := Callee.builtin Builtin.len, args := #[m], argTypes := #[t] }) (e : TypeId) (ht : P.underlying t = some (.map k e))
    (hm : ac.eval m = .map (some b)) (h : MapIs C w b E) (hK : wpList P ops Q rest (ac.put o.dst (.int .i64 E.length)) w) : wpList P ops Q (o :: rest) ac w := by
  refine wpList_plain hg fun K' hK' => ?_
  unfold Oper.wp
  simp [execOp, hop, resolve, invoke, builtin, hm, h.run_len ht o.type, Result.andThen]
  exact hK' _ _ hK
end
end Go.Proofs.YtlmnhdpahmaccaaDoor
