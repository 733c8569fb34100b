/- OptionsKinds: one step of a script. -/
import Derived.Test.YtlmnhdpahmaccaaDoorVT
import Derived.Test.YtlmnhdpahmaccaaDoorDR
import Derived.Test.YtlmnhdpahmaccaaDoorSD
import Derived.Test.YtlmnhdpahmaccaaDoorKW
namespace Go.Proofs.YtlmnhdpahmaccaaDoor
open Go.RowKit QP

/-- an Op -/
structure KOp where
  kind : Int
  sc : Int
  a : Int
  b : Int
  c : Int
  name : ByteArray
  value : ByteArray
def opCells (o : KOp) : List Value := [.int .i64 o.kind, .int .i64 o.sc, .int .i64 o.a, .int .i64 o.b, .int .i64 o.c, .string o.name, .string o.value]
def opsCells (l : List KOp) : List Value := l.flatMap opCells
theorem opsCells_get (l : List KOp) (i : Nat) (h : i < l.length) (j : Nat) (hj : j < 7) : (opsCells l)[i * 7 + j]? = (opCells l[i])[j]? := by
  induction l generalizing i with
  | nil => simp at h
  | cons p ps ih =>
    have hc : opsCells (p :: ps) = opCells p ++ opsCells ps := by simp [opsCells]
    have hl : (opCells p).length = 7 := rfl
    rw [hc]
    cases i with
    | zero => rw [Nat.zero_mul, Nat.zero_add, List.getElem?_append_left (by omega)]; rfl
    | succ i => rw [List.getElem?_append_right (by omega), hl, show (i + 1) * 7 + j - 7 = i * 7 + j by omega, ih i (by simpa using h)]; rfl
def I64 (x : Int) : Prop := -9223372036854775808 ≤ x ∧ x ≤ 9223372036854775807
structure OkOp (o : KOp) : Prop where
  sc : I64 o.sc
  a : I64 o.a
  b : I64 o.b
  c : I64 o.c
  name : o.name.size ≤ 1048576
  value : o.value.size ≤ 1048576
theorem OkPk.mk' {x y : Int} {s : ByteArray} (hx : I64 x) (hy : I64 y) (hs : s.size ≤ 1048576) : OkPk (x, y, s) := ⟨hx.1, hx.2, hy.1, hy.2, by show s.size ≤ maxLen; simp only [maxLen]; omega⟩

/-- a law's options while its script runs: last's box is block kx -/
structure KindAt (W w : World) (k b kx : Nat) (E : List (PK × ByteArray)) (last : KOp) : Prop where
  bel : Below W.heap.size W w
  o : OptIs w k b E
  good : Good E
  box : Blk w kx 41 (opCells last).toArray
  kb : k ≠ b
  xb : kx ≠ b
  bl : W.heap.size ≤ b
theorem KindAt.below {W w w1 : World} {k b kx : Nat} {E : List (PK × ByteArray)} {last : KOp} (h : KindAt W w k b kx E last) (hb : Below w.heap.size w w1) : KindAt W w1 k b kx E last :=
  ⟨below_of h.bel hb, h.o.below hb, h.good, h.box.below_ hb, h.kb, h.xb, h.bl⟩
theorem KindAt.alloc {W w : World} {k b kx : Nat} {E : List (PK × ByteArray)} {last : KOp} (h : KindAt W w k b kx E last) (o : Obj) : KindAt W (w.alloc o) k b kx E last := h.below ((Below.refl _ _).alloc (Nat.le_refl _) _)
theorem KindAt.post {W w w1 : World} {k b kx : Nat} {E E' : List (PK × ByteArray)} {last : KOp} (h : KindAt W w k b kx E last) (hp : SetPost w k b E' w1) (hg : Good E') : KindAt W w1 k b kx E' last :=
  ⟨below_mod h.bel hp.mod h.bel.size fun i hi e => by have := h.bl; omega, hp.o, hg, h.box.keep hp.mod h.xb, h.kb, h.xb, h.bl⟩

theorem takes_at {W w : World} (hV : VarsAt W) (hb : Below W.heap.size W w) {name value : ByteArray} (hs : value.size ≤ 281474976710656) :
    ∀ r, rowOf name = some r → ∀ w', Hid (Below w.heap.size w w') → Calls Tryd.prog 27 #[.agg #[.string r.name, .int .i64 r.scope, .int .i64 r.kind, .int .i64 r.lo, .int .i64 r.hi, .string r.words, .string r.first], .string value] w' fun e w'' => e = .returned (.bool (tkOf name value)) ∧ Hid (Below w'.heap.size w' w'') := by
  intro r hr w' hb'
  have ho : ofRow name = r := by unfold ofRow; rw [hr]; rfl
  unfold tkOf
  rw [ho]
  exact takes_c r (rowOf_mem hr).1 value hs w' (hV.below (below_of hb hb'.out))

section
variable {W w : World} {k b kx : Nat} {E : List (PK × ByteArray)} {last : KOp}
theorem KindAt.set_c (h : KindAt W w k b kx E last) (hV : VarsAt W) (sc id : Int) (name value : ByteArray) (h1 : I64 sc) (h2 : I64 id) (h3 : name.size ≤ 1048576) (h4 : value.size ≤ 1048576) :
    Calls Tryd.prog 15 #[.pointer (some ⟨k, 0, none⟩), .int .i64 sc, .int .i64 id, .string name, .string value] w fun e w' =>
      e = .returned (.int .i64 (setCode E sc id name value (tkOf name value))) ∧ Hid (KindAt W w' k b kx (setE E sc id name value (tkOf name value)) last) := by
  refine (Go.Proofs.YtlmnhdpahmaccaaDoor.set_c k b E sc id name value (tkOf name value) w h.o h.kb (OkPk.mk' h1 h2 h3) (by have := h.good.len; omega) (takes_at hV h.bel (by omega))).mono ?_
  rintro e w' ⟨rfl, hp⟩
  exact ⟨rfl, Lib.hid (h.post hp.out (h.good.set _ _ _ _ (.inl h4)))⟩
theorem KindAt.add_c (h : KindAt W w k b kx E last) (hV : VarsAt W) (sc id : Int) (name value : ByteArray) (h1 : I64 sc) (h2 : I64 id) (h3 : name.size ≤ 1048576) (h4 : value.size ≤ 1048576) :
    Calls Tryd.prog 16 #[.pointer (some ⟨k, 0, none⟩), .int .i64 sc, .int .i64 id, .string name, .string value] w fun e w' =>
      (∃ c, e = .returned (.int .i64 c)) ∧ ∃ E', Hid (KindAt W w' k b kx E' last) := by
  have hn := h.good.now sc id name
  refine (Go.Proofs.YtlmnhdpahmaccaaDoor.add_c k b E sc id name value (tkOf name (nowVal E sc id name ++ value)) w h.o h.kb (OkPk.mk' h1 h2 h3) (by have := h.good.len; omega) (by omega) (takes_at hV h.bel (by rw [ByteArray.size_append]; omega))).mono ?_
  rintro e w' ⟨rfl, hp⟩
  exact ⟨⟨_, rfl⟩, _, Lib.hid (h.post hp.out (h.good.add _ _ _ _))⟩
theorem KindAt.turn_c (h : KindAt W w k b kx E last) (hV : VarsAt W) (sc id : Int) (name : ByteArray) (h1 : I64 sc) (h2 : I64 id) (h3 : name.size ≤ 1048576) :
    Calls Tryd.prog 17 #[.pointer (some ⟨k, 0, none⟩), .int .i64 sc, .int .i64 id, .string name] w fun e w' =>
      (∃ c, e = .returned (.int .i64 c)) ∧ ∃ E', Hid (KindAt W w' k b kx E' last) := by
  refine (Go.Proofs.YtlmnhdpahmaccaaDoor.turn_c k b E sc id name (tkOf name (turnVal E sc id name)) w h.o h.kb (OkPk.mk' h1 h2 h3) (by have := h.good.len; omega) (takes_at hV h.bel (by have := turn_size E sc id name; omega))).mono ?_
  rintro e w' ⟨rfl, hp⟩
  exact ⟨⟨_, rfl⟩, _, Lib.hid (h.post hp.out (h.good.turn _ _ _))⟩
theorem KindAt.unset_c (h : KindAt W w k b kx E last) (sc id : Int) (name : ByteArray) (h1 : I64 sc) (h2 : I64 id) (h3 : name.size ≤ 1048576) :
    Calls Tryd.prog 18 #[.pointer (some ⟨k, 0, none⟩), .int .i64 sc, .int .i64 id, .string name] w fun e w' =>
      (∃ c, e = .returned (.int .i64 c)) ∧ ∃ E', Hid (KindAt W w' k b kx E' last) := by
  refine (Go.Proofs.YtlmnhdpahmaccaaDoor.unset_c k b E sc id name w h.o h.kb (OkPk.mk' h1 h2 h3)).mono ?_
  rintro e w' ⟨rfl, hp⟩
  exact ⟨⟨_, rfl⟩, _, Lib.hid (h.post hp.out (h.good.unset _ _ _))⟩
theorem KindAt.drop_c (h : KindAt W w k b kx E last) (sc id : Int) :
    Calls Tryd.prog 19 #[.pointer (some ⟨k, 0, none⟩), .int .i64 sc, .int .i64 id] w fun e w' =>
      e = .returned (.tuple #[]) ∧ Hid (KindAt W w' k b kx (dropE E sc id) last) := by
  refine (Go.Proofs.YtlmnhdpahmaccaaDoor.drop_c k b E sc id w h.o h.kb).mono ?_
  rintro e w' ⟨rfl, hp⟩
  exact ⟨rfl, Lib.hid (h.post hp.out (h.good.drop _ _))⟩
theorem KindAt.get_c (h : KindAt W w k b kx E last) (name : ByteArray) (s wi p : Int) (h1 : I64 s) (h2 : I64 wi) (h3 : I64 p) (h4 : name.size ≤ 1048576) :
    Calls Tryd.prog 9 #[.pointer (some ⟨k, 0, none⟩), .string name, .int .i64 s, .int .i64 wi, .int .i64 p] w fun e w' =>
      e = .returned (.tuple #[.string (getVal (look E) name s wi p).1, .int .i64 (getVal (look E) name s wi p).2]) ∧ Hid (KindAt W w' k b kx E last) := by
  have h0 : I64 1 := ⟨by decide, by decide⟩
  refine (Go.Proofs.YtlmnhdpahmaccaaDoor.get_c k b E name s wi p w h.o (OkPk.mk' h0 h1 h4) (OkPk.mk' h0 h2 h4) (OkPk.mk' h0 h3 h4)).mono ?_
  rintro e w' ⟨rfl, hb⟩
  exact ⟨rfl, Lib.hid (h.below hb.out)⟩
end
end Go.Proofs.YtlmnhdpahmaccaaDoor
