/- the document's answer: Rows. -/
import Derived.Test.YtlmnhdpahmaccaaDoorTB
namespace Go.Proofs.YtlmnhdpahmaccaaDoor
open Go.RowKit QP

def rkind (k : Int) : Int := if k = 1 then 110 else if k = 2 then 99 else if k = 3 then 102 else if k = 4 then 107 else if k = 5 then 116 else 0
def words1 : ByteArray := ⟨#[112, 108, 97, 105, 110, 32, 114, 101, 118, 101, 114, 115, 101, 32, 98, 111, 108, 100]⟩
def words2 : ByteArray := ⟨#[108, 105, 110, 101, 32, 100, 111, 117, 98, 108, 101, 32, 98, 108, 97, 110, 107]⟩
def words3 : ByteArray := ⟨#[98, 111, 116, 116, 111, 109, 32, 116, 111, 112]⟩
def waOf (b : Nat) (words : ByteArray) : Option Addr := if sameS words words1 then some ⟨b, 0, none⟩ else if sameS words words2 then some ⟨b + 1, 0, none⟩ else if sameS words words3 then some ⟨b + 2, 0, none⟩ else none
def wnOf (words : ByteArray) : Nat := if sameS words words1 then 3 else if sameS words words2 then 3 else if sameS words words3 then 2 else 0
def rrowCells (b : Nat) (r : ORow) : List Value := [.string r.name, .int .i64 r.scope, .int .u8 (rkind r.kind), .int .i64 r.lo, .int .i64 r.hi, (.slice (waOf b r.words) (wnOf r.words) (wnOf r.words)), .string r.first]
def rrowsCells (b : Nat) (l : List ORow) : List Value := l.flatMap (rrowCells b)
theorem rrowsCells_get (b : Nat) (l : List ORow) (i : Nat) (h : i < l.length) (j : Nat) (hj : j < 7) : (rrowsCells b l)[i * 7 + j]? = (rrowCells b l[i])[j]? := by
  induction l generalizing i with
  | nil => simp at h
  | cons p ps ih =>
    have hc : rrowsCells b (p :: ps) = rrowCells b p ++ rrowsCells b ps := by simp [rrowsCells]
    have hl : (rrowCells b p).length = 7 := rfl
    rw [hc]
    cases i with
    | zero => rw [Nat.zero_mul, Nat.zero_add, List.getElem?_append_left (by omega)]; rfl
    | succ i => rw [List.getElem?_append_right (by omega), hl, show (i + 1) * 7 + j - 7 = i * 7 + j by omega, ih i (by simpa using h)]; rfl
/-- the words of the choices -/
structure WordsAt (w : World) (b : Nat) : Prop where
  w1 : Blk w b 9 #[.string ⟨#[112, 108, 97, 105, 110]⟩, .string ⟨#[114, 101, 118, 101, 114, 115, 101]⟩, .string ⟨#[98, 111, 108, 100]⟩]
  w2 : Blk w (b + 1) 9 #[.string ⟨#[108, 105, 110, 101]⟩, .string ⟨#[100, 111, 117, 98, 108, 101]⟩, .string ⟨#[98, 108, 97, 110, 107]⟩]
  w3 : Blk w (b + 2) 9 #[.string ⟨#[98, 111, 116, 116, 111, 109]⟩, .string ⟨#[116, 111, 112]⟩]
theorem WordsAt.below {w w1 : World} {b : Nat} (h : WordsAt w b) (hb : Below w.heap.size w w1) : WordsAt w1 b := ⟨h.w1.below_ hb, h.w2.below_ hb, h.w3.below_ hb⟩

set_option maxHeartbeats 4000000 in
set_option maxRecDepth 100000 in
theorem rrows_c (w : World) : Calls Tryd.prog 20 #[] w fun e w' => ∃ g, e = .returned (.slice (some ⟨g, 0, none⟩) 22 22) ∧ Rd w' 7 (.slice (some ⟨g, 0, none⟩) 22 22) 22 (rrowsCells w.heap.size table) ∧ WordsAt w' w.heap.size ∧ Below w.heap.size w w' := by
  go_enter Tryd.func20, Tryd.ntmps20
  go_wp2
  go_ret
  have b0 := Blk.new w 9 #[.string ⟨#[112, 108, 97, 105, 110]⟩, .string ⟨#[114, 101, 118, 101, 114, 115, 101]⟩, .string ⟨#[98, 111, 108, 100]⟩]
  have b1 := Blk.new (w.alloc (.cells #[.string ⟨#[112, 108, 97, 105, 110]⟩, .string ⟨#[114, 101, 118, 101, 114, 115, 101]⟩, .string ⟨#[98, 111, 108, 100]⟩] 9)) 9 #[.string ⟨#[108, 105, 110, 101]⟩, .string ⟨#[100, 111, 117, 98, 108, 101]⟩, .string ⟨#[98, 108, 97, 110, 107]⟩]
  have b2 := Blk.new ((w.alloc (.cells #[.string ⟨#[112, 108, 97, 105, 110]⟩, .string ⟨#[114, 101, 118, 101, 114, 115, 101]⟩, .string ⟨#[98, 111, 108, 100]⟩] 9)).alloc (.cells #[.string ⟨#[108, 105, 110, 101]⟩, .string ⟨#[100, 111, 117, 98, 108, 101]⟩, .string ⟨#[98, 108, 97, 110, 107]⟩] 9)) 9 #[.string ⟨#[98, 111, 116, 116, 111, 109]⟩, .string ⟨#[116, 111, 112]⟩]
  have e1 : ∀ (w : World) (o : Obj), (w.alloc o).heap.size = w.heap.size + 1 := fun _ _ => by simp
  simp only [e1] at b1 b2
  refine ⟨_, rfl, Rd.box _ _ 7 22 _ (by simp) rfl, ⟨((b0.alloc _).alloc _).alloc _, (b1.alloc _).alloc _, b2.alloc _⟩, ?_⟩
  exact ((((Below.refl _ _).alloc (Nat.le_refl _) _).alloc (by simp) _).alloc (by simp; omega) _).alloc (by simp; omega) _

end Go.Proofs.YtlmnhdpahmaccaaDoor
