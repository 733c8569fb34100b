/- What comes in, opened: a list of Ops, an Op. What goes out. -/
import Derived.Test.YtlmnhdpahmaccaaDoorLB
import Derived.Test.YtlmnhdpahmaccaaDoorPB
import Derived.Test.YtlmnhdpahmaccaaDoorRows
import Derived.Deep.Slices
import Derived.Deep.Fields
import Derived.SliceStrings
import Derived.ReadAgain
import Derived.JoinedCond
import Derived.ChangeMaps5
import Derived.Lib.SmallJoins
namespace Go.Proofs.YtlmnhdpahmaccaaDoor
open Go.Joins Go.RowKit Go.WideShapes Go.ChangeShapes Go.Deep QP

theorem kids_ : Kids Tryd.prog (fun t => t < Tryd.prog.types.size) := kids_rows (by kernel_rfl) (by kernel_rfl)
theorem full_ : ∀ t e, t < Tryd.prog.types.size → Tryd.prog.underlying t = some (.slice e) → 0 < Tryd.prog.cellsOf e := slices_full_of Tryd.prog (by kernel_rfl)

section
variable {H : Type} {enc : TypeId × Value → H} {P : Program} {w : World} {base : Nat} {spare : Nat → Bool} {held : Bool}
theorem open_slice_fields {t e : TypeId} {fs : Array Field} {fuel : Nat} {cs : List Value} {x : DataW H × List MemPlace} (ht : P.underlying t = some (.slice e)) (he : P.underlying e = some (.struct fs))
    (hone : oneCellFields P fs = true) (hC : P.cellsOf e = fs.size) (h : DataW.trod enc P w base spare held fuel t cs = some x) :
    (cs = [.slice none 0 0] ∧ x = (.nil, [])) ∨
    ∃ (a : Addr) (len cap m : Nat) (D : Nat → DataW H) (Pl : Nat → List MemPlace), cs = [.slice (some a) len cap] ∧ base ≤ a.block ∧ len ≤ cap ∧ cap ≤ maxLen ∧ m = (if spare a.block then cap else len) ∧
      x = (.slice ((List.range len).map D) ((List.range (m - len)).map fun j => D (len + j)), MemPlace.row a (m * fs.size) ++ (List.range m).flatMap Pl) ∧
      ∀ i, i < m → ∃ (ys : List (DataW H × List MemPlace)) (n : Nat), D i = .agg (ys.map (·.1)) ∧ Pl i = ys.flatMap (·.2) ∧ ys.length = fs.size ∧
        ∀ (j : Nat) (f : Field), fs[j]? = some f → ∃ (v : Value) (y : DataW H × List MemPlace), w.cell? (a.add (i * fs.size + j)) = some v ∧ ys[j]? = some y ∧ DataW.trod enc P w base spare held n f.type [v] = some y := by
  rcases open_slice ht h with h0 | ⟨a, len, cap, m, n, D, Pl, hcs, hb, hl, hm, hmm, hx, hi⟩
  · exact .inl h0
  · refine .inr ⟨a, len, cap, m, D, Pl, hcs, hb, hl, hm, hmm, by rw [hC] at hx; exact hx, fun i him => ?_⟩
    obtain ⟨cs', hc, ht'⟩ := hi i him
    rw [hC] at hc
    obtain ⟨ys, n', hn', hy, hlen, hyl, hf⟩ := DataW.trod_struct he ht'
    obtain ⟨_, hcl, hat⟩ := World.cells?_some hc
    simp only [Prod.mk.injEq] at hy
    refine ⟨ys, n', hy.1, hy.2, hyl, fun j f hj => ?_⟩
    obtain ⟨ho, hk⟩ := hone_of hone j f hj
    have hjl : j < fs.size := (Array.getElem?_eq_some_iff.1 hj).1
    have hcell := hat j hjl
    have hv : cs'[j]? = some (cs'[j]'(by omega)) := List.getElem?_eq_getElem (by omega)
    have h1 := hf j f hj
    rw [ho, hk] at h1
    have hone' : (cs'.drop j).take 1 = [cs'[j]'(by omega)] := by
      rw [List.drop_eq_getElem_cons (by omega)]
      rfl
    rw [hone'] at h1
    have hys : ys[j]? = some (ys[j]'(by omega)) := List.getElem?_eq_getElem (by omega)
    refine ⟨_, _, ?_, hys, h1.trans hys⟩
    rw [← Go.Deep.add_add, hcell, hv]

end

section
variable {H : Type} {enc : TypeId × Value → H} {W W' : World}

theorem trod_over {P : Program} {sp : Nat → Bool} : ∀ {ts : List TypeId} {vs : List Value} {ds : List (DataW H)} {ps : List MemPlace}, DataW.TrodAll enc P W 0 sp true ts vs ds ps → (∀ p ∈ ps, W.sameAt W' p) → DataW.TrodAll enc P W' 0 sp true ts vs ds ps
  | [], [], [], _, h, _ => h
  | _ :: _, _ :: _, _ :: _, _, ⟨p, q, ⟨n, h1⟩, h2, e⟩, hs => ⟨p, q, ⟨n, DataW.trod_carry n _ _ _ h1 fun x hx => hs x (by rw [e]; exact List.mem_append_left _ hx)⟩, trod_over h2 (fun x hx => hs x (by rw [e]; exact List.mem_append_right _ hx)), e⟩

set_option maxRecDepth 100000 in
/-- the arguments read as they did, and true is handed back -/
theorem law_post {f : Func} {s : ChangeSpec} {args : Array Value} {ds gs : List (DataW H)} {before : List MemPlace}
    (hW : DataW.Whole enc Tryd.prog f.params.toList s.vars false W args.toList ds gs before) (hv : s.vars = []) (ht : ∀ t ∈ f.params.toList, t < Tryd.prog.types.size)
    (hr : f.resultTypes = #[4]) (hres : (s.fn H (ds ++ gs)).results = [.lit (.bool true)]) (hargs : (s.fn H (ds ++ gs)).args = ds) (hvars : (s.fn H (ds ++ gs)).vars = []) (hb : Below W.heap.size W W') :
    s.post enc Tryd.prog f false true false false W args (.bool true) W' := by
  have hlt : ∀ p ∈ before, p.block < W.heap.size := fun p hp => hW.lt p hp
  have hW' := hW
  obtain ⟨p, q, hA, hV, hpq, hfz, hnd⟩ := hW
  rw [hv] at hV
  obtain ⟨hgs, hq⟩ := trodVars_none hV
  subst hq
  rw [List.append_nil] at hpq
  subst hpq
  refine post_of_below (pa := before) (pv := []) hW' ?_ ?_ ?_ (List.append_nil before).symm hb ?_
  · intro b sp hd
    rw [hres, hr]
    exact trodAll_cons_mk (shut_bool Tryd.underlying4 _) trodAll_mk0
  · intro sp hsp
    rw [hargs]
    exact trod_over (DataW.TrodAll.respare kids_ full_ ht hA hsp) fun p hp => hb.same (hlt p hp)
  · intro sp hsp
    rw [hvars, hv]
    rfl
  · exact ok_one hr rfl (okWide_bool_mk Tryd.underlying4 _)

theorem bulk_one (d : DataW H) : 1 ≤ Rows.uptoBulk d := by
  cases d with
  | lit l => cases l <;> simp [Rows.uptoBulk]
  | nil => simp [Rows.uptoBulk]
  | ptr d => simp [Rows.uptoBulk]
  | slice elems spare => simp [Rows.uptoBulk]
  | agg parts => simp [Rows.uptoBulk]
  | iface t d => simp [Rows.uptoBulk]
  | map entries => simp [Rows.uptoBulk]
  | held h => simp [Rows.uptoBulk]
theorem bulk_mem {d : DataW H} {l : List (DataW H)} (h : d ∈ l) : Rows.uptoBulk d ≤ Rows.uptoBulkAll l := by
  induction l with
  | nil => cases h
  | cons x r ih =>
    simp only [Rows.uptoBulkAll]
    rcases List.mem_cons.1 h with e | e
    · subst e; omega
    · have := ih e; omega
theorem bulk_len (l : List (DataW H)) : l.length ≤ Rows.uptoBulkAll l := by
  induction l with
  | nil => simp [Rows.uptoBulkAll]
  | cons x r ih => have := bulk_one x; simp only [Rows.uptoBulkAll, List.length_cons]; omega


theorem one_op : oneCellFields Tryd.prog #[{ name := "Kind", type := 3, offset := 0, embedded := false, tag := "", pkgPath := "", byteOffset := 0 }, { name := "Scope", type := 3, offset := 1, embedded := false, tag := "", pkgPath := "", byteOffset := 8 }, { name := "A", type := 3, offset := 2, embedded := false, tag := "", pkgPath := "", byteOffset := 16 }, { name := "B", type := 3, offset := 3, embedded := false, tag := "", pkgPath := "", byteOffset := 24 }, { name := "C", type := 3, offset := 4, embedded := false, tag := "", pkgPath := "", byteOffset := 32 }, { name := "Name", type := 9, offset := 5, embedded := false, tag := "", pkgPath := "", byteOffset := 40 }, { name := "Value", type := 9, offset := 6, embedded := false, tag := "", pkgPath := "", byteOffset := 56 }] = true := by kernel_rfl
theorem ci_ : Tryd.prog.cellsOf 3 = 1 := by kernel_rfl
theorem cs_ : Tryd.prog.cellsOf 9 = 1 := by kernel_rfl
theorem cells_op : Tryd.prog.cellsOf 41 = 7 := by kernel_rfl
set_option maxRecDepth 100000 in
/-- the seven fields of an Op -/
theorem open_seven {n : Nat} {v0 v1 v2 v3 v4 v5 v6 : Value} {y0 y1 y2 y3 y4 y5 y6 : DataW H × List MemPlace}
    (h0 : DataW.trod enc Tryd.prog W 0 (fun _ => true) true n 3 [v0] = some y0) (h1 : DataW.trod enc Tryd.prog W 0 (fun _ => true) true n 3 [v1] = some y1) (h2 : DataW.trod enc Tryd.prog W 0 (fun _ => true) true n 3 [v2] = some y2)
    (h3 : DataW.trod enc Tryd.prog W 0 (fun _ => true) true n 3 [v3] = some y3) (h4 : DataW.trod enc Tryd.prog W 0 (fun _ => true) true n 3 [v4] = some y4) (h5 : DataW.trod enc Tryd.prog W 0 (fun _ => true) true n 9 [v5] = some y5)
    (h6 : DataW.trod enc Tryd.prog W 0 (fun _ => true) true n 9 [v6] = some y6)
    (hb : Rows.uptoBulk (DataW.agg [y0.1, y1.1, y2.1, y3.1, y4.1, y5.1, y6.1]) ≤ 1048576) :
    ∃ x : KOp, [v0, v1, v2, v3, v4, v5, v6] = opCells x ∧ OkOp x := by
  obtain ⟨a0, e0, -, -⟩ := DataW.trod_int Tryd.underlying3 h0
  obtain ⟨a1, e1, -, w1⟩ := DataW.trod_int Tryd.underlying3 h1
  obtain ⟨a2, e2, -, w2⟩ := DataW.trod_int Tryd.underlying3 h2
  obtain ⟨a3, e3, -, w3⟩ := DataW.trod_int Tryd.underlying3 h3
  obtain ⟨a4, e4, -, w4⟩ := DataW.trod_int Tryd.underlying3 h4
  obtain ⟨a5, e5, x5, -⟩ := DataW.trod_string Tryd.underlying9 h5
  obtain ⟨a6, e6, x6, -⟩ := DataW.trod_string Tryd.underlying9 h6
  simp only [List.cons.injEq, and_true] at e0 e1 e2 e3 e4 e5 e6
  subst e0 e1 e2 e3 e4 e5 e6
  simp only [Rows.uptoBulk, Rows.uptoBulkAll] at hb
  have b5 := congrArg (fun z => Rows.uptoBulk z.1) x5
  have b6 := congrArg (fun z => Rows.uptoBulk z.1) x6
  simp [Rows.uptoBulk] at b5 b6
  refine ⟨⟨a0, a1, a2, a3, a4, a5, a6⟩, rfl, bounds_i64 w1, bounds_i64 w2, bounds_i64 w3, bounds_i64 w4, ?_, ?_⟩
  · show a5.size ≤ 1048576
    have : a5.size = a5.data.size := rfl
    omega
  · show a6.size ≤ 1048576
    have : a6.size = a6.data.size := rfl
    omega
set_option maxRecDepth 100000 in
theorem open_op {v : Value} {d : DataW H} {p : List MemPlace} (hv : Value.okWide Tryd.prog W .any 0 41 v) (h : DataW.Trod enc Tryd.prog W 0 (fun _ => true) true 41 v d p) (hb : Rows.uptoBulk d ≤ 1048576) :
    ∃ x : KOp, v = .agg #[.int .i64 x.kind, .int .i64 x.sc, .int .i64 x.a, .int .i64 x.b, .int .i64 x.c, .string x.name, .string x.value] ∧ OkOp x := by
  obtain ⟨cs, rfl, hsz⟩ := okWide_struct Tryd.underlying41 hv
  obtain ⟨l⟩ := cs
  match l, hsz.trans cells_op with
  | [c0, c1, c2, c3, c4, c5, c6], _ =>
    obtain ⟨fuel, hf⟩ := h
    obtain ⟨xs, n, _, hx, _, hlen, hg⟩ := DataW.trod_struct Tryd.underlying41 hf
    match xs, hlen with
    | [y0, y1, y2, y3, y4, y5, y6], _ =>
      simp only [Prod.mk.injEq] at hx
      have hd : d = .agg [y0.1, y1.1, y2.1, y3.1, y4.1, y5.1, y6.1] := by simpa using hx.1
      rw [hd] at hb
      obtain ⟨x, e, ok⟩ := open_seven (W := W) (enc := enc) (n := n) (by simpa [Value.cells, ci_] using hg 0 _ rfl) (by simpa [Value.cells, ci_] using hg 1 _ rfl) (by simpa [Value.cells, ci_] using hg 2 _ rfl) (by simpa [Value.cells, ci_] using hg 3 _ rfl)
        (by simpa [Value.cells, ci_] using hg 4 _ rfl) (by simpa [Value.cells, cs_] using hg 5 _ rfl) (by simpa [Value.cells, cs_] using hg 6 _ rfl) hb
      simp only [opCells, List.cons.injEq, and_true] at e
      obtain ⟨rfl, rfl, rfl, rfl, rfl, rfl, rfl⟩ := e
      exact ⟨x, rfl, ok⟩
theorem opsCells_len (l : List KOp) : (opsCells l).length = l.length * 7 := by
  induction l with
  | nil => rfl
  | cons p ps ih =>
    have hc : opsCells (p :: ps) = opCells p ++ opsCells ps := by simp [opsCells]
    rw [hc, List.length_append, ih, List.length_cons]
    simp [opCells]
    omega

set_option maxRecDepth 100000 in
/-- a list of Ops that came in -/
theorem open_ops {v : Value} {d : DataW H} {p : List MemPlace} (hv : Value.okWide Tryd.prog W .any 0 39 v) (h : DataW.Trod enc Tryd.prog W 0 (fun _ => true) true 39 v d p) (hb : Rows.uptoBulk d ≤ 1048576) :
    ∃ (so : Option Addr) (cap : Nat) (ops : List KOp), v = .slice so ops.length cap ∧ (∀ o ∈ ops, OkOp o) ∧ ops.length ≤ 1048576 ∧ Rd W 7 (.slice so ops.length cap) ops.length (opsCells ops) := by
  obtain ⟨a0, len0, cap0, rfl⟩ := okWide_slice Tryd.underlying39 hv
  obtain ⟨fuel, hf⟩ := h
  rcases open_slice_fields Tryd.underlying39 Tryd.underlying41 one_op cells_op hf with ⟨hcs, hx⟩ | ⟨a, len, cap, m, D, Pl, hcs, -, hl, hm, hz, hx, hi⟩
  · simp only [Value.cells, List.cons.injEq, and_true, Value.slice.injEq] at hcs
    obtain ⟨rfl, rfl, rfl⟩ := hcs
    exact ⟨none, 0, [], rfl, by simp, by simp, Rd.nil _ _⟩
  · simp only [Value.cells, List.cons.injEq, and_true, Value.slice.injEq] at hcs
    obtain ⟨rfl, rfl, rfl⟩ := hcs
    simp only [if_true] at hz
    simp only [Prod.mk.injEq] at hx
    obtain ⟨rfl, -⟩ := hx
    have hbl : len0 ≤ 1048576 := by
      have := bulk_len ((List.range len0).map D)
      rw [Rows.uptoBulk] at hb
      simp at this
      omega
    have key : ∀ i, i < len0 → ∃ x : KOp, (∀ j u, (opCells x)[j]? = some u → W.cell? (a.add (i * 7 + j)) = some u) ∧ OkOp x := by
      intro i hil
      obtain ⟨ys, n, hD, -, hyl, hf⟩ := hi i (by omega)
      have hbi : Rows.uptoBulk (D i) ≤ 1048576 := by
        have h1 : Rows.uptoBulk (D i) ≤ Rows.uptoBulkAll ((List.range len0).map D) := bulk_mem (List.mem_map.2 ⟨i, by simpa using hil, rfl⟩)
        rw [Rows.uptoBulk] at hb
        omega
      obtain ⟨v0, y0, c0, g0, t0⟩ := hf 0 _ rfl
      obtain ⟨v1, y1, c1, g1, t1⟩ := hf 1 _ rfl
      obtain ⟨v2, y2, c2, g2, t2⟩ := hf 2 _ rfl
      obtain ⟨v3, y3, c3, g3, t3⟩ := hf 3 _ rfl
      obtain ⟨v4, y4, c4, g4, t4⟩ := hf 4 _ rfl
      obtain ⟨v5, y5, c5, g5, t5⟩ := hf 5 _ rfl
      obtain ⟨v6, y6, c6, g6, t6⟩ := hf 6 _ rfl
      match ys, hyl with
      | [z0, z1, z2, z3, z4, z5, z6], _ =>
        simp only [List.getElem?_cons_succ, List.getElem?_cons_zero, Option.some.injEq] at g0 g1 g2 g3 g4 g5 g6
        subst g0 g1 g2 g3 g4 g5 g6
        rw [hD] at hbi
        obtain ⟨x, hx, ho⟩ := open_seven t0 t1 t2 t3 t4 t5 t6 hbi
        refine ⟨x, fun j u hu => ?_, ho⟩
        rw [← hx] at hu
        match j, hu with
        | 0, hu => simp at hu; subst hu; exact c0
        | 1, hu => simp at hu; subst hu; exact c1
        | 2, hu => simp at hu; subst hu; exact c2
        | 3, hu => simp at hu; subst hu; exact c3
        | 4, hu => simp at hu; subst hu; exact c4
        | 5, hu => simp at hu; subst hu; exact c5
        | 6, hu => simp at hu; subst hu; exact c6
        | j + 7, hu => simp at hu
    have all : ∀ k, k ≤ len0 → ∃ xs : List KOp, xs.length = k ∧ (∀ i (h : i < xs.length), ∀ j u, (opCells xs[i])[j]? = some u → W.cell? (a.add (i * 7 + j)) = some u) ∧ ∀ x ∈ xs, OkOp x := by
      intro k
      induction k with
      | zero => intro _; exact ⟨[], rfl, by simp, by simp⟩
      | succ k ih =>
        intro hk
        obtain ⟨xs, h1, h2, h3⟩ := ih (by omega)
        obtain ⟨x, k1, k2⟩ := key k (by omega)
        refine ⟨xs ++ [x], by simp [h1], fun i h j u hu => ?_, fun y hy => ?_⟩
        · rcases Nat.lt_or_ge i xs.length with hlt | hge
          · rw [List.getElem_append_left hlt] at hu
            exact h2 i hlt j u hu
          · have : i = k := by simp at h; omega
            subst this
            rw [List.getElem_append_right (by omega)] at hu
            simp only [h1, Nat.sub_self, List.getElem_cons_zero] at hu
            exact k1 j u hu
        · rcases List.mem_append.1 hy with hy | hy
          · exact h3 y hy
          · simp at hy; subst hy; exact k2
    obtain ⟨xs, h1, h2, h3⟩ := all len0 (Nat.le_refl _)
    refine ⟨some a, cap0, xs, by rw [h1], h3, by omega, some a, cap0, rfl, opsCells_len xs, by omega, fun hn => ?_⟩
    have h0 := h2 0 hn 0 _ rfl
    obtain ⟨g, off, spot⟩ := a
    have hspot : spot = none := by simpa [Addr.add] using World.cell?_spot h0
    subst hspot
    refine ⟨g, off, rfl, fun j u hu => ?_⟩
    have hj : j < xs.length * 7 := by
      have h5 := (List.getElem?_eq_some_iff.1 hu).1
      rwa [opsCells_len] at h5
    have hq : j / 7 < xs.length := by omega
    have h6 := opsCells_get xs (j / 7) hq (j % 7) (Nat.mod_lt _ (by decide))
    rw [show j / 7 * 7 + j % 7 = j by omega, hu] at h6
    have h7 := h2 (j / 7) hq (j % 7) u h6.symm
    rw [add_lit, show j / 7 * 7 + j % 7 = j by omega] at h7
    exact h7
end
end Go.Proofs.YtlmnhdpahmaccaaDoor
