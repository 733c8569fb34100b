/- What comes in, opened: a script, a call. What goes out. -/
import Derived.Test.YtbfmfliknhcoeaaPB
import Derived.Test.YtbfmfliknhcoeaaZ1
import Derived.Test.YtbfmfliknhcoeaaRows
import Derived.Deep.Slices
import Derived.Deep.Fields
import Derived.SliceStrings
import Derived.ReadAgain
import Derived.JoinedCond
import Derived.ChangeMaps5
import Derived.Lib.SmallJoins
namespace Go.Proofs.Ytbfmfliknhcoeaa
open Go.Joins Go.RowKit Go.WideShapes Go.ChangeShapes Go.Deep QP

theorem kids_ : Kids Try.prog (fun t => t < Try.prog.types.size) := kids_rows (by kernel_rfl) (by kernel_rfl)
theorem full_ : ∀ t e, t < Try.prog.types.size → Try.prog.underlying t = some (.slice e) → 0 < Try.prog.cellsOf e := slices_full_of Try.prog (by kernel_rfl)

section
variable {H : Type} {enc : TypeId × Value → H} {P : Program} {w : World} {base : Nat} {spare : Nat → Bool} {held : Bool}
theorem open_slice_fields {t e : TypeId} {fs : Array Field} {fuel : Nat} {cs : List Value} {x : DataW H × List MemPlace} (ht : P.underlying t = some (.slice e)) (he : P.underlying e = some (.struct fs))
    (hone : oneCellFields P fs = true) (hC : P.cellsOf e = fs.size) (h : DataW.trod enc P w base spare held fuel t cs = some x) :
    (cs = [.slice none 0 0] ∧ x = (.nil, [])) ∨
    ∃ (a : Addr) (len cap m : Nat) (D : Nat → DataW H) (Pl : Nat → List MemPlace), cs = [.slice (some a) len cap] ∧ base ≤ a.block ∧ len ≤ cap ∧ cap ≤ maxLen ∧ m = (if spare a.block then cap else len) ∧
      x = (.slice ((List.range len).map D) ((List.range (m - len)).map fun j => D (len + j)), MemPlace.row a (m * fs.size) ++ (List.range m).flatMap Pl) ∧
      ∀ i, i < m → ∃ (ys : List (DataW H × List MemPlace)) (n : Nat), D i = .agg (ys.map (·.1)) ∧ Pl i = ys.flatMap (·.2) ∧ ys.length = fs.size ∧
        ∀ (j : Nat) (f : Field), fs[j]? = some f → ∃ (v : Value) (y : DataW H × List MemPlace), w.cell? (a.add (i * fs.size + j)) = some v ∧ ys[j]? = some y ∧ DataW.trod enc P w base spare held n f.type [v] = some y := by
  rcases open_slice ht h with h0 | ⟨a, len, cap, m, n, D, Pl, hcs, hb, hl, hm, hmm, hx, hi⟩
  · exact .inl h0
  · refine .inr ⟨a, len, cap, m, D, Pl, hcs, hb, hl, hm, hmm, by rw [hC] at hx; exact hx, fun i him => ?_⟩
    obtain ⟨cs', hc, ht'⟩ := hi i him
    rw [hC] at hc
    obtain ⟨ys, n', hn', hy, hlen, hyl, hf⟩ := DataW.trod_struct he ht'
    obtain ⟨_, hcl, hat⟩ := World.cells?_some hc
    simp only [Prod.mk.injEq] at hy
    refine ⟨ys, n', hy.1, hy.2, hyl, fun j f hj => ?_⟩
    obtain ⟨ho, hk⟩ := hone_of hone j f hj
    have hjl : j < fs.size := (Array.getElem?_eq_some_iff.1 hj).1
    have hcell := hat j hjl
    have hv : cs'[j]? = some (cs'[j]'(by omega)) := List.getElem?_eq_getElem (by omega)
    have h1 := hf j f hj
    rw [ho, hk] at h1
    have hone' : (cs'.drop j).take 1 = [cs'[j]'(by omega)] := by
      rw [List.drop_eq_getElem_cons (by omega)]
      rfl
    rw [hone'] at h1
    have hys : ys[j]? = some (ys[j]'(by omega)) := List.getElem?_eq_getElem (by omega)
    refine ⟨_, _, ?_, hys, h1.trans hys⟩
    rw [← Go.Deep.add_add, hcell, hv]

theorem open_agg6 {r : Reach} {b0 : Nat} {t : TypeId} {f0 f1 f2 f3 f4 f5 : Field} {v : Value} {d : DataW H} {p : List MemPlace} (hs : P.underlying t = some (.struct #[f0, f1, f2, f3, f4, f5])) (hone : oneCellFields P #[f0, f1, f2, f3, f4, f5] = true) (hC : P.cellsOf t = 6)
    (hv : Value.okWide P w r b0 t v) (h : DataW.Trod enc P w base spare held t v d p) :
    ∃ (v0 v1 v2 v3 v4 v5 : Value) (y0 y1 y2 y3 y4 y5 : DataW H × List MemPlace) (n : Nat), v = .agg #[v0, v1, v2, v3, v4, v5] ∧ d = .agg [y0.1, y1.1, y2.1, y3.1, y4.1, y5.1] ∧ p = y0.2 ++ (y1.2 ++ (y2.2 ++ (y3.2 ++ (y4.2 ++ y5.2)))) ∧
      DataW.trod enc P w base spare held n f0.type [v0] = some y0 ∧ DataW.trod enc P w base spare held n f1.type [v1] = some y1 ∧ DataW.trod enc P w base spare held n f2.type [v2] = some y2 ∧ DataW.trod enc P w base spare held n f3.type [v3] = some y3 ∧ DataW.trod enc P w base spare held n f4.type [v4] = some y4 ∧ DataW.trod enc P w base spare held n f5.type [v5] = some y5 := by
  obtain ⟨cs, rfl, hsz⟩ := okWide_struct hs hv
  obtain ⟨l⟩ := cs
  match l, hsz.trans hC with
  | [c0, c1, c2, c3, c4, c5], _ =>
    obtain ⟨fuel, hf⟩ := h
    obtain ⟨xs, n, _, hx, _, hlen, hg⟩ := DataW.trod_struct hs hf
    obtain ⟨o0, k0⟩ := hone_of hone 0 f0 rfl
    obtain ⟨o1, k1⟩ := hone_of hone 1 f1 rfl
    obtain ⟨o2, k2⟩ := hone_of hone 2 f2 rfl
    obtain ⟨o3, k3⟩ := hone_of hone 3 f3 rfl
    obtain ⟨o4, k4⟩ := hone_of hone 4 f4 rfl
    obtain ⟨o5, k5⟩ := hone_of hone 5 f5 rfl
    match xs, hlen with
    | [y0, y1, y2, y3, y4, y5], _ =>
      simp only [Prod.mk.injEq] at hx
      exact ⟨c0, c1, c2, c3, c4, c5, y0, y1, y2, y3, y4, y5, n, rfl, by simpa using hx.1, by simpa using hx.2, by simpa [Value.cells, o0, k0] using hg 0 f0 rfl, by simpa [Value.cells, o1, k1] using hg 1 f1 rfl, by simpa [Value.cells, o2, k2] using hg 2 f2 rfl, by simpa [Value.cells, o3, k3] using hg 3 f3 rfl, by simpa [Value.cells, o4, k4] using hg 4 f4 rfl, by simpa [Value.cells, o5, k5] using hg 5 f5 rfl⟩
end

section
variable {H : Type} {enc : TypeId × Value → H} {W W' : World}

theorem trod_over {P : Program} {sp : Nat → Bool} : ∀ {ts : List TypeId} {vs : List Value} {ds : List (DataW H)} {ps : List MemPlace}, DataW.TrodAll enc P W 0 sp true ts vs ds ps → (∀ p ∈ ps, W.sameAt W' p) → DataW.TrodAll enc P W' 0 sp true ts vs ds ps
  | [], [], [], _, h, _ => h
  | _ :: _, _ :: _, _ :: _, _, ⟨p, q, ⟨n, h1⟩, h2, e⟩, hs => ⟨p, q, ⟨n, DataW.trod_carry n _ _ _ h1 fun x hx => hs x (by rw [e]; exact List.mem_append_left _ hx)⟩, trod_over h2 (fun x hx => hs x (by rw [e]; exact List.mem_append_right _ hx)), e⟩

set_option maxRecDepth 100000 in
/-- the arguments read as they did, and true is handed back -/
theorem law_post {f : Func} {s : ChangeSpec} {args : Array Value} {ds gs : List (DataW H)} {before : List MemPlace}
    (hW : DataW.Whole enc Try.prog f.params.toList s.vars false W args.toList ds gs before) (hv : s.vars = []) (ht : ∀ t ∈ f.params.toList, t < Try.prog.types.size)
    (hr : f.resultTypes = #[4]) (hres : (s.fn H (ds ++ gs)).results = [.lit (.bool true)]) (hargs : (s.fn H (ds ++ gs)).args = ds) (hvars : (s.fn H (ds ++ gs)).vars = []) (hb : Below W.heap.size W W') :
    s.post enc Try.prog f false true false false W args (.bool true) W' := by
  have hlt : ∀ p ∈ before, p.block < W.heap.size := fun p hp => hW.lt p hp
  have hW' := hW
  obtain ⟨p, q, hA, hV, hpq, hfz, hnd⟩ := hW
  rw [hv] at hV
  obtain ⟨hgs, hq⟩ := trodVars_none hV
  subst hq
  rw [List.append_nil] at hpq
  subst hpq
  refine post_of_below (pa := before) (pv := []) hW' ?_ ?_ ?_ (List.append_nil before).symm hb ?_
  · intro b sp hd
    rw [hres, hr]
    exact trodAll_cons_mk (shut_bool Try.underlying4 _) trodAll_mk0
  · intro sp hsp
    rw [hargs]
    exact trod_over (DataW.TrodAll.respare kids_ full_ ht hA hsp) fun p hp => hb.same (hlt p hp)
  · intro sp hsp
    rw [hvars, hv]
    rfl
  · exact ok_one hr rfl (okWide_bool_mk Try.underlying4 _)

/-! ### bulk -/
theorem bulk_strs (l : List ByteArray) : Rows.uptoBulkAll (Go.ChangeShapes.strs (H := H) l) = (lineBytes l).length := by
  induction l with
  | nil => rfl
  | cons a l ih =>
    have h : Go.ChangeShapes.strs (H := H) (a :: l) = .lit (.string a.data.toList) :: Go.ChangeShapes.strs l := rfl
    rw [h, lineBytes_cons, Rows.uptoBulkAll, ih, Rows.uptoBulk, List.length_append, List.length_append]
    simp [QP.bytes]
theorem bulk_one (d : DataW H) : 1 ≤ Rows.uptoBulk d := by
  cases d with
  | lit l => cases l <;> simp [Rows.uptoBulk]
  | nil => simp [Rows.uptoBulk]
  | ptr d => simp [Rows.uptoBulk]
  | slice elems spare => simp [Rows.uptoBulk]
  | agg parts => simp [Rows.uptoBulk]
  | iface t d => simp [Rows.uptoBulk]
  | map entries => simp [Rows.uptoBulk]
  | held h => simp [Rows.uptoBulk]
theorem bulk_mem {d : DataW H} {l : List (DataW H)} (h : d ∈ l) : Rows.uptoBulk d ≤ Rows.uptoBulkAll l := by
  induction l with
  | nil => cases h
  | cons x r ih =>
    simp only [Rows.uptoBulkAll]
    rcases List.mem_cons.1 h with e | e
    · subst e; omega
    · have := ih e; omega
theorem bulk_len (l : List (DataW H)) : l.length ≤ Rows.uptoBulkAll l := by
  induction l with
  | nil => simp [Rows.uptoBulkAll]
  | cons x r ih => have := bulk_one x; simp only [Rows.uptoBulkAll, List.length_cons]; omega

/-- a list of texts that came in -/
theorem open_lines {n : Nat} {v : Value} {y : DataW H × List MemPlace} (h : DataW.trod enc Try.prog W 0 (fun _ => true) true n 23 [v] = some y) :
    ∃ (ao : Option Addr) (ls : List ByteArray) (cap : Nat), v = .slice ao ls.length cap ∧ Rd W 1 (.slice ao ls.length cap) ls.length (strs ls) ∧ (lineBytes ls).length ≤ Rows.uptoBulk y.1 ∧ ls.length ≤ Rows.uptoBulk y.1 := by
  rcases open_strings Try.underlying23 Try.underlying9 (by kernel_rfl) h with ⟨hcs, hx⟩ | ⟨a, len, cap, ss, hcs, -, hl, hm, hz, hx, hcell, hsz⟩
  · simp only [List.cons.injEq, and_true] at hcs
    subst hcs
    subst hx
    exact ⟨none, [], 0, rfl, Rd.nil _ _, by simp [lineBytes], by simp⟩
  · simp only [List.cons.injEq, and_true] at hcs
    subst hcs
    subst hx
    simp only [if_true] at hz
    have hlen : (ss.take len).length = len := by rw [List.length_take]; omega
    have hbl : (lineBytes (ss.take len)).length ≤ Rows.uptoBulk (DataW.slice (H := H) (Go.ChangeShapes.strs (ss.take len)) (Go.ChangeShapes.strs (ss.drop len))) := by
      rw [Rows.uptoBulk, bulk_strs]; omega
    refine ⟨some a, ss.take len, cap, by rw [hlen], ?_, hbl, ?_⟩
    · rw [hlen]
      refine ⟨some a, cap, rfl, by rw [strs_length, hlen]; omega, hl, fun hn => ?_⟩
      have h0 := hcell 0 (by omega)
      obtain ⟨g, off, spot⟩ := a
      have hspot : spot = none := by simpa [Addr.add] using World.cell?_spot h0
      subst hspot
      refine ⟨g, off, rfl, fun j u hu => ?_⟩
      have hj : j < (ss.take len).length := by
        have := (List.getElem?_eq_some_iff.1 hu).1
        rwa [strs_length] at this
      rw [strs_get _ _ hj] at hu
      injection hu with hu
      subst hu
      have := hcell j (by omega)
      rw [add_lit] at this
      rw [this]
      have hj2 : j < ss.length := by omega
      simp [List.getD, List.getElem?_eq_getElem hj2]
    · refine Nat.le_trans ?_ hbl
      have : ∀ l : List ByteArray, l.length ≤ (lineBytes l).length := by
        intro l
        induction l with
        | nil => simp
        | cons a l ih => rw [lineBytes_cons, List.length_append, List.length_append]; simp; omega
      exact this _

/-- the six fields of a call -/
theorem open_six {n : Nat} {v0 v1 v2 v3 v4 v5 : Value} {y0 y1 y2 y3 y4 y5 : DataW H × List MemPlace}
    (h0 : DataW.trod enc Try.prog W 0 (fun _ => true) true n 3 [v0] = some y0) (h1 : DataW.trod enc Try.prog W 0 (fun _ => true) true n 9 [v1] = some y1) (h2 : DataW.trod enc Try.prog W 0 (fun _ => true) true n 23 [v2] = some y2)
    (h3 : DataW.trod enc Try.prog W 0 (fun _ => true) true n 3 [v3] = some y3) (h4 : DataW.trod enc Try.prog W 0 (fun _ => true) true n 3 [v4] = some y4) (h5 : DataW.trod enc Try.prog W 0 (fun _ => true) true n 3 [v5] = some y5)
    (hb : Rows.uptoBulk (DataW.agg [y0.1, y1.1, y2.1, y3.1, y4.1, y5.1]) ≤ 1048576) :
    ∃ x : OpAt, [v0, v1, v2, v3, v4, v5] = opCells x ∧ OkOp x.o ∧ Rd W 1 (.slice x.ao x.o.lines.length x.cap) x.o.lines.length (strs x.o.lines) := by
  obtain ⟨a0, e0, -, -⟩ := DataW.trod_int Try.underlying3 h0
  obtain ⟨a1, e1, x1, -⟩ := DataW.trod_string Try.underlying9 h1
  obtain ⟨ao, ls, cap, rfl, hr, hl1, hl2⟩ := open_lines h2
  obtain ⟨a3, e3, -, -⟩ := DataW.trod_int Try.underlying3 h3
  obtain ⟨a4, e4, -, -⟩ := DataW.trod_int Try.underlying3 h4
  obtain ⟨a5, e5, -, w5⟩ := DataW.trod_int Try.underlying3 h5
  simp only [List.cons.injEq, and_true] at e0 e1 e3 e4 e5
  subst e0 e1 e3 e4 e5
  subst x1
  simp only [Rows.uptoBulk, Rows.uptoBulkAll] at hb
  have hsz : a1.data.toList.length = a1.size := by rw [Array.length_toList]; rfl
  have hw := bounds_i64 w5
  exact ⟨⟨⟨a0, a1, ls, a3, a4, a5⟩, ao, cap⟩, rfl, ⟨by dsimp only; omega, by dsimp only; omega, by dsimp only; omega, hw.1, hw.2⟩, hr⟩

theorem one25 : oneCellFields Try.prog #[{ name := "Kind", type := 3, offset := 0, embedded := false, tag := "", pkgPath := "", byteOffset := 0 }, { name := "Line", type := 9, offset := 1, embedded := false, tag := "", pkgPath := "", byteOffset := 8 },
    { name := "Lines", type := 23, offset := 2, embedded := false, tag := "", pkgPath := "", byteOffset := 24 }, { name := "Pane", type := 3, offset := 3, embedded := false, tag := "", pkgPath := "", byteOffset := 48 },
    { name := "Tick", type := 3, offset := 4, embedded := false, tag := "", pkgPath := "", byteOffset := 56 }, { name := "N", type := 3, offset := 5, embedded := false, tag := "", pkgPath := "", byteOffset := 64 }] = true := by kernel_rfl
theorem cells25 : Try.prog.cellsOf 25 = 6 := by kernel_rfl

set_option maxRecDepth 100000 in
/-- a call that came in -/
theorem open_call {v : Value} {d : DataW H} {p : List MemPlace} (hv : Value.okWide Try.prog W .any 0 25 v) (h : DataW.Trod enc Try.prog W 0 (fun _ => true) true 25 v d p) (hb : Rows.uptoBulk d ≤ 1048576) :
    ∃ (o : Opn) (ao : Option Addr) (cap : Nat), v = opVal o ao cap ∧ OkOp o ∧ Rd W 1 (.slice ao o.lines.length cap) o.lines.length (strs o.lines) := by
  obtain ⟨v0, v1, v2, v3, v4, v5, y0, y1, y2, y3, y4, y5, n, rfl, rfl, -, h0, h1, h2, h3, h4, h5⟩ := open_agg6 Try.underlying25 one25 cells25 hv h
  obtain ⟨x, hx, ho, hr⟩ := open_six h0 h1 h2 h3 h4 h5 hb
  simp only [opCells, List.cons.injEq, and_true] at hx
  obtain ⟨rfl, rfl, rfl, rfl, rfl, rfl⟩ := hx
  exact ⟨x.o, x.ao, x.cap, rfl, ho, hr⟩

set_option maxRecDepth 100000 in
/-- a script that came in -/
theorem open_script {v : Value} {d : DataW H} {p : List MemPlace} (hv : Value.okWide Try.prog W .any 0 22 v) (h : DataW.Trod enc Try.prog W 0 (fun _ => true) true 22 v d p) (hb : Rows.uptoBulk d ≤ 1048576) :
    ∃ (so : Option Addr) (scap : Nat) (xs : List OpAt), v = .slice so xs.length scap ∧ Script W so scap xs := by
  obtain ⟨a0, len0, cap0, rfl⟩ := okWide_slice Try.underlying22 hv
  obtain ⟨fuel, hf⟩ := h
  rcases open_slice_fields Try.underlying22 Try.underlying25 one25 cells25 hf with ⟨hcs, hx⟩ | ⟨a, len, cap, m, D, Pl, hcs, -, hl, hm, hz, hx, hi⟩
  · simp only [Value.cells, List.cons.injEq, and_true, Value.slice.injEq] at hcs
    obtain ⟨rfl, rfl, rfl⟩ := hcs
    exact ⟨none, 0, [], rfl, Rd.nil _ _, by simp, by simp, by simp⟩
  · simp only [Value.cells, List.cons.injEq, and_true, Value.slice.injEq] at hcs
    obtain ⟨rfl, rfl, rfl⟩ := hcs
    simp only [if_true] at hz
    simp only [Prod.mk.injEq] at hx
    obtain ⟨rfl, -⟩ := hx
    have hbl : len0 ≤ 1048576 := by
      have := bulk_len ((List.range len0).map D)
      rw [Rows.uptoBulk] at hb
      simp at this
      omega
    have key : ∀ i, i < len0 → ∃ x : OpAt, (∀ j u, (opCells x)[j]? = some u → W.cell? (a.add (i * 6 + j)) = some u) ∧ OkOp x.o ∧ Rd W 1 (.slice x.ao x.o.lines.length x.cap) x.o.lines.length (strs x.o.lines) := by
      intro i hil
      obtain ⟨ys, n, hD, -, hyl, hf⟩ := hi i (by omega)
      have hbi : Rows.uptoBulk (D i) ≤ 1048576 := by
        have h1 : Rows.uptoBulk (D i) ≤ Rows.uptoBulkAll ((List.range len0).map D) := bulk_mem (List.mem_map.2 ⟨i, by simpa using hil, rfl⟩)
        rw [Rows.uptoBulk] at hb
        omega
      obtain ⟨v0, y0, c0, g0, t0⟩ := hf 0 _ rfl
      obtain ⟨v1, y1, c1, g1, t1⟩ := hf 1 _ rfl
      obtain ⟨v2, y2, c2, g2, t2⟩ := hf 2 _ rfl
      obtain ⟨v3, y3, c3, g3, t3⟩ := hf 3 _ rfl
      obtain ⟨v4, y4, c4, g4, t4⟩ := hf 4 _ rfl
      obtain ⟨v5, y5, c5, g5, t5⟩ := hf 5 _ rfl
      match ys, hyl with
      | [z0, z1, z2, z3, z4, z5], _ =>
        simp only [List.getElem?_cons_succ, List.getElem?_cons_zero, Option.some.injEq] at g0 g1 g2 g3 g4 g5
        subst g0 g1 g2 g3 g4 g5
        rw [hD] at hbi
        obtain ⟨x, hx, ho, hr⟩ := open_six t0 t1 t2 t3 t4 t5 hbi
        refine ⟨x, fun j u hu => ?_, ho, hr⟩
        rw [← hx] at hu
        match j, hu with
        | 0, hu => simp at hu; subst hu; exact c0
        | 1, hu => simp at hu; subst hu; exact c1
        | 2, hu => simp at hu; subst hu; exact c2
        | 3, hu => simp at hu; subst hu; exact c3
        | 4, hu => simp at hu; subst hu; exact c4
        | 5, hu => simp at hu; subst hu; exact c5
        | j + 6, hu => simp at hu
    have all : ∀ k, k ≤ len0 → ∃ xs : List OpAt, xs.length = k ∧ (∀ i (h : i < xs.length), ∀ j u, (opCells xs[i])[j]? = some u → W.cell? (a.add (i * 6 + j)) = some u) ∧ ∀ x ∈ xs, OkOp x.o ∧ Rd W 1 (.slice x.ao x.o.lines.length x.cap) x.o.lines.length (strs x.o.lines) := by
      intro k
      induction k with
      | zero => intro _; exact ⟨[], rfl, by simp, by simp⟩
      | succ k ih =>
        intro hk
        obtain ⟨xs, h1, h2, h3⟩ := ih (by omega)
        obtain ⟨x, k1, k2, k3⟩ := key k (by omega)
        refine ⟨xs ++ [x], by simp [h1], fun i h j u hu => ?_, fun y hy => ?_⟩
        · rcases Nat.lt_or_ge i xs.length with hlt | hge
          · rw [List.getElem_append_left hlt] at hu
            exact h2 i hlt j u hu
          · have : i = k := by simp at h; omega
            subst this
            rw [List.getElem_append_right (by omega)] at hu
            simp only [h1, Nat.sub_self, List.getElem_cons_zero] at hu
            exact k1 j u hu
        · rcases List.mem_append.1 hy with hy | hy
          · exact h3 y hy
          · simp at hy; subst hy; exact ⟨k2, k3⟩
    obtain ⟨xs, h1, h2, h3⟩ := all len0 (Nat.le_refl _)
    refine ⟨some a, cap0, xs, by rw [h1], ?_, fun x hx => (h3 x hx).1, fun x hx => (h3 x hx).2, by omega⟩
    refine ⟨some a, cap0, rfl, ?_, by omega, fun hn => ?_⟩
    · have : ∀ l : List OpAt, (opsOf l).length = l.length * 6 := by
        intro l
        induction l with
        | nil => rfl
        | cons x l ih => rw [opsOf_cons, List.length_append, ih, List.length_cons]; simp [opCells]; omega
      exact this xs
    · have h0 := h2 0 hn 0 _ rfl
      obtain ⟨g, off, spot⟩ := a
      have hspot : spot = none := by simpa [Addr.add] using World.cell?_spot h0
      subst hspot
      refine ⟨g, off, rfl, fun j u hu => ?_⟩
      have hj : j < xs.length * 6 := by
        have h5 := (List.getElem?_eq_some_iff.1 hu).1
        have : ∀ l : List OpAt, (opsOf l).length = l.length * 6 := by
          intro l
          induction l with
          | nil => rfl
          | cons x l ih => rw [opsOf_cons, List.length_append, ih, List.length_cons]; simp [opCells]; omega
        rwa [this xs] at h5
      have hq : j / 6 < xs.length := by omega
      have hr : j % 6 < 6 := Nat.mod_lt _ (by decide)
      have hjd : j / 6 * 6 + j % 6 = j := by omega
      have h6 := opsOf_get xs (j / 6) hq (j % 6) hr
      rw [hjd] at h6
      have h7 := h2 (j / 6) hq (j % 6) u (h6.symm.trans hu)
      rw [hjd, add_lit] at h7
      exact h7
end
end Go.Proofs.Ytbfmfliknhcoeaa
