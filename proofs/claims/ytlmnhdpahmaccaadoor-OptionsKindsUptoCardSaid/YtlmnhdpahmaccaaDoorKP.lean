/- Keys and their names, in plain Lean. -/
import Derived.Test.YtlmnhdpahmaccaaDoorOP
namespace Go.Proofs.YtlmnhdpahmaccaaDoor.QP

structure Shape where
  name : ByteArray
  letter : Int
  number : Int
  far : Bool
def shapes : List Shape := [
  ⟨⟨#[85, 112]⟩, 65, 0, false⟩,
  ⟨⟨#[68, 111, 119, 110]⟩, 66, 0, false⟩,
  ⟨⟨#[82, 105, 103, 104, 116]⟩, 67, 0, false⟩,
  ⟨⟨#[76, 101, 102, 116]⟩, 68, 0, false⟩,
  ⟨⟨#[72, 111, 109, 101]⟩, 72, 0, false⟩,
  ⟨⟨#[69, 110, 100]⟩, 70, 0, false⟩,
  ⟨⟨#[73, 110, 115, 101, 114, 116]⟩, 0, 2, false⟩,
  ⟨⟨#[68, 101, 108, 101, 116, 101]⟩, 0, 3, false⟩,
  ⟨⟨#[80, 97, 103, 101, 85, 112]⟩, 0, 5, false⟩,
  ⟨⟨#[80, 97, 103, 101, 68, 111, 119, 110]⟩, 0, 6, false⟩,
  ⟨⟨#[70, 49]⟩, 80, 0, true⟩,
  ⟨⟨#[70, 50]⟩, 81, 0, true⟩,
  ⟨⟨#[70, 51]⟩, 82, 0, true⟩,
  ⟨⟨#[70, 52]⟩, 83, 0, true⟩,
  ⟨⟨#[70, 53]⟩, 0, 15, false⟩,
  ⟨⟨#[70, 54]⟩, 0, 17, false⟩,
  ⟨⟨#[70, 55]⟩, 0, 18, false⟩,
  ⟨⟨#[70, 56]⟩, 0, 19, false⟩,
  ⟨⟨#[70, 57]⟩, 0, 20, false⟩,
  ⟨⟨#[70, 49, 48]⟩, 0, 21, false⟩,
  ⟨⟨#[70, 49, 49]⟩, 0, 23, false⟩,
  ⟨⟨#[70, 49, 50]⟩, 0, 24, false⟩]
theorem shapes_len : shapes.length = 22 := rfl
def special (c : Int) : Bool := decide (16777217 ≤ c) && decide (c ≤ 16777238)
def character (c : Int) : Bool := (decide (33 ≤ c) && decide (c ≤ 126)) || (decide (160 ≤ c) && decide (c ≤ 1114111) && (decide (c < 55296) || decide (57343 < c)))
def control (c : Int) : Bool := (decide (97 ≤ c) && decide (c ≤ 122) && !decide (c = 105) && !decide (c = 109)) || (decide (92 ≤ c) && decide (c ≤ 95))
def space : ByteArray := ⟨#[83, 112, 97, 99, 101]⟩
def enter : ByteArray := ⟨#[69, 110, 116, 101, 114]⟩
def tab : ByteArray := ⟨#[84, 97, 98]⟩
def escape : ByteArray := ⟨#[69, 115, 99, 97, 112, 101]⟩
def bspace : ByteArray := ⟨#[66, 83, 112, 97, 99, 101]⟩
def btab : ByteArray := ⟨#[66, 84, 97, 98]⟩
/-- the name of a key that is written by one -/
def named (c : Int) : ByteArray :=
  if c = 32 then space else if c = 13 then enter else if c = 9 then tab else if c = 27 then escape else if c = 127 then bspace else if c = 16777239 then btab else
  match shapes[(c - 16777217).toNat]? with
  | some s => if special c then s.name else ⟨#[]⟩
  | none => ⟨#[]⟩
def plainMods (m : Int) : Bool := decide (m = 0) || decide (m = 2)
def shifted (m : Int) : Bool := decide (m % 2 = 1)
def validKey (c m : Int) : Bool :=
  if m < 0 ∨ 7 < m then false else if special c then true else if c = 16777239 then decide (m = 0) else if c = 32 then !shifted m
  else if c = 13 ∨ c = 9 ∨ c = 27 ∨ c = 127 then plainMods m else if plainMods m then character c else !shifted m && control c
/-- what is held down -/
def marks (m : Int) : ByteArray :=
  (if 4 ≤ m % 8 then ⟨#[67, 45]⟩ else ⟨#[]⟩) ++ (if 2 ≤ m % 4 then ⟨#[77, 45]⟩ else ⟨#[]⟩) ++ (if m % 2 = 1 then ⟨#[83, 45]⟩ else ⟨#[]⟩)

end Go.Proofs.YtlmnhdpahmaccaaDoor.QP
