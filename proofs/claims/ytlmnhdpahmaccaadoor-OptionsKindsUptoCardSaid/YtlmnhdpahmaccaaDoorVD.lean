/- the document's Value: is it a value of the option's kind? -/
import Derived.Test.YtlmnhdpahmaccaaDoorNB
import Derived.Test.YtlmnhdpahmaccaaDoorDG
import Derived.Test.YtlmnhdpahmaccaaDoorKV
namespace Go.Proofs.YtlmnhdpahmaccaaDoor
open Go.RowKit QP

theorem kinds : ∀ r ∈ table, (r.kind = 1 ∨ r.kind = 2 ∨ r.kind = 3 ∨ r.kind = 4 ∨ r.kind = 5) ∧ (r.kind = 2 → sameS r.words words1 = true ∨ sameS r.words words2 = true ∨ sameS r.words words3 = true) := by decide +kernel
theorem words_apart : sameS words2 words1 = false ∧ sameS words3 words1 = false ∧ sameS words3 words2 = false := ⟨by decide, by decide, by decide⟩
theorem words_slice {r : ORow} (hr : r ∈ table) (hk : r.kind = 2) {w : World} {b : Nat} (h : WordsAt w b) :
    ∃ g, waOf b r.words = some ⟨g, 0, none⟩ ∧ wnOf r.words = (wordsOf r.words).length ∧ g < w.heap.size ∧ ∀ k, ∀ hk : k < (wordsOf r.words).length, w.cell? ⟨g, k, none⟩ = some (.string (wordsOf r.words)[k]) := by
  rcases (kinds r hr).2 hk with e | e | e
  all_goals
    rw [sameS_iff] at e
    rw [e]
  · refine ⟨b, rfl, rfl, h.w1.lt, fun k hk => ?_⟩
    have hc : k = 0 ∨ k = 1 ∨ k = 2 := by have : (wordsOf words1).length = 3 := rfl; omega
    rcases hc with rfl | rfl | rfl <;> exact h.w1.cell _
  · refine ⟨b + 1, rfl, rfl, h.w2.lt, fun k hk => ?_⟩
    have hc : k = 0 ∨ k = 1 ∨ k = 2 := by have : (wordsOf words2).length = 3 := rfl; omega
    rcases hc with rfl | rfl | rfl <;> exact h.w2.cell _
  · refine ⟨b + 2, rfl, rfl, h.w3.lt, fun k hk => ?_⟩
    have hc : k = 0 ∨ k = 1 := by have : (wordsOf words3).length = 2 := rfl; omega
    rcases hc with rfl | rfl <;> exact h.w3.cell _
theorem words_len (t : ByteArray) : (wordsOf t).length ≤ 3 := by
  unfold wordsOf
  repeat' split
  all_goals decide

theorem docVal_num {r : ORow} (h : r.kind = 1) (v : ByteArray) : docVal r v = isNum r.lo r.hi v := by unfold docVal; rw [if_pos h]
theorem docVal_word {r : ORow} (h : r.kind = 2) (v : ByteArray) : docVal r v = isWord r.words v := by unfold docVal; rw [if_neg (by omega), if_pos h]
theorem docVal_flag {r : ORow} (h : r.kind = 3) (v : ByteArray) : docVal r v = isFlag v := by unfold docVal; rw [if_neg (by omega), if_neg (by omega), if_pos h]
theorem docVal_key {r : ORow} (h : r.kind = 4) (v : ByteArray) : docVal r v = docRead v := by unfold docVal; rw [if_neg (by omega), if_neg (by omega), if_neg (by omega), if_pos h]
theorem docVal_text {r : ORow} (h : r.kind = 5) (v : ByteArray) : docVal r v = decide (v.size ≤ 1024) := by unfold docVal; rw [if_neg (by omega), if_neg (by omega), if_neg (by omega), if_neg (by omega)]
theorem onT_beq (v : ByteArray) : (v.toList == [111, 110]) = sameS v onT := by
  rw [show ([111, 110] : List UInt8) = onT.toList by rw [Go.ByteArray.toList_eq]; rfl]
  exact sameS_beq _ _
theorem offT_beq (v : ByteArray) : (v.toList == [111, 102, 102]) = sameS v offT := by
  rw [show ([111, 102, 102] : List UInt8) = offT.toList by rw [Go.ByteArray.toList_eq]; rfl]
  exact sameS_beq _ _

def numIn (lo hi : Int) : Option Nat → Bool
  | some n => decide (lo ≤ n) && decide ((n : Int) ≤ hi)
  | none => false
theorem isNum_eq (lo hi : Int) (s : ByteArray) : isNum lo hi s = numIn lo hi (rnum s.data.toList) := by
  unfold isNum
  cases rnum s.data.toList <;> rfl
structure ValIn (W w : World) (r : ORow) (k : Int) (wa : Option Addr) (wn : Nat) : Prop where
  bel : Below W.heap.size W w
  box : Blk w W.heap.size 48 #[.string r.name, .int .i64 r.scope, .int .u8 k, .int .i64 r.lo, .int .i64 r.hi, .slice wa wn wn, .string r.first]
theorem ValIn.below {W w w1 : World} {r : ORow} {k : Int} {wa : Option Addr} {wn : Nat} (h : ValIn W w r k wa wn) (hb : Below w.heap.size w w1) : ValIn W w1 r k wa wn := ⟨below_of h.bel hb, h.box.below_ hb⟩
theorem ValIn.new (w : World) (r : ORow) (k : Int) (wa : Option Addr) (wn : Nat) : ValIn w (w.alloc (.cells #[.string r.name, .int .i64 r.scope, .int .u8 k, .int .i64 r.lo, .int .i64 r.hi, .slice wa wn wn, .string r.first] 48)) r k wa wn :=
  ⟨(Below.refl _ _).alloc (Nat.le_refl _) _, Blk.new _ _ _⟩

set_option maxHeartbeats 4000000 in
set_option maxRecDepth 100000 in
theorem rvalue_num (r : ORow) (wa : Option Addr) (wn : Nat) (v : ByteArray) (hv : v.size ≤ 281474976710656) (w : World) :
    Calls Tryd.prog 21 #[.agg #[.string r.name, .int .i64 r.scope, .int .u8 110, .int .i64 r.lo, .int .i64 r.hi, .slice wa wn wn, .string r.first], .string v] w fun e w' => e = .returned (.bool (isNum r.lo r.hi v)) ∧ Hid (Below w.heap.size w w') := by
  have HI := Lib.hid (ValIn.new w r 110 wa wn)
  have hnum := rnumber_c v (by omega)
  obtain ⟨p, hp⟩ : ∃ p, rnum v.data.toList = p := ⟨_, rfl⟩
  have hx : isNum r.lo r.hi v = numIn r.lo r.hi p := by rw [← hp]; exact isNum_eq _ _ _
  obtain ⟨x, hxe⟩ : ∃ x, isNum r.lo r.hi v = x := ⟨_, rfl⟩
  rw [hxe] at hx ⊢
  rw [hp] at hnum
  clear hp hv hxe
  cases p with
  | none =>
    simp only [numIn] at hx
    subst hx
    go_enter Tryd.func21, Tryd.ntmps21
    go_wp2_with fail
    refine (hnum _).mono ?_
    rintro e w1 ⟨rfl, HB1⟩
    have HI1 := Lib.hid (HI.out.below HB1.out)
    go_wp2
    go_ret
    exact ⟨rfl, Lib.hid HI1.out.bel⟩
  | some n =>
    simp only [numIn] at hx
    simp only [Option.getD_some, Option.isSome_some] at hnum
    have HX := Lib.hid hx
    clear hx
    by_cases h1 : r.lo ≤ (n : Int)
    · have q1 : decide ((n : Int) ≥ r.lo) = true := by simpa using h1
      by_cases h2 : (n : Int) ≤ r.hi
      · have q2 : decide ((n : Int) ≤ r.hi) = true := by simpa using h2
        have hx : x = true := by rw [HX.out, decide_eq_true h1, decide_eq_true h2]; rfl
        subst hx
        clear HX
        go_enter Tryd.func21, Tryd.ntmps21
        go_wp2_with fail
        refine (hnum _).mono ?_
        rintro e w1 ⟨rfl, HB1⟩
        have HI1 := Lib.hid (HI.out.below HB1.out)
        obtain ⟨z0, z1, z2, z3, z4, z5, z6, -⟩ := seven HI1.out.box
        go_wp2
        go_ret
        exact ⟨rfl, Lib.hid HI1.out.bel⟩
      · have q2 : decide ((n : Int) ≤ r.hi) = false := by simpa using h2
        have hx : x = false := by rw [HX.out, decide_eq_true h1, decide_eq_false h2]; rfl
        subst hx
        clear HX
        go_enter Tryd.func21, Tryd.ntmps21
        go_wp2_with fail
        refine (hnum _).mono ?_
        rintro e w1 ⟨rfl, HB1⟩
        have HI1 := Lib.hid (HI.out.below HB1.out)
        obtain ⟨z0, z1, z2, z3, z4, z5, z6, -⟩ := seven HI1.out.box
        go_wp2
        go_ret
        exact ⟨rfl, Lib.hid HI1.out.bel⟩
    · have q1 : decide ((n : Int) ≥ r.lo) = false := by simpa using h1
      have hx : x = false := by rw [HX.out, decide_eq_false h1]; rfl
      subst hx
      clear HX
      go_enter Tryd.func21, Tryd.ntmps21
      go_wp2_with fail
      refine (hnum _).mono ?_
      rintro e w1 ⟨rfl, HB1⟩
      have HI1 := Lib.hid (HI.out.below HB1.out)
      obtain ⟨z0, z1, z2, z3, z4, z5, z6, -⟩ := seven HI1.out.box
      go_wp2
      go_ret
      exact ⟨rfl, Lib.hid HI1.out.bel⟩

set_option maxHeartbeats 4000000 in
set_option maxRecDepth 100000 in
theorem rvalue_flag (r : ORow) (wa : Option Addr) (wn : Nat) (v : ByteArray) (w : World) :
    Calls Tryd.prog 21 #[.agg #[.string r.name, .int .i64 r.scope, .int .u8 102, .int .i64 r.lo, .int .i64 r.hi, .slice wa wn wn, .string r.first], .string v] w fun e w' => e = .returned (.bool (isFlag v)) ∧ Hid (Below w.heap.size w w') := by
  have HI := Lib.hid (ValIn.new w r 102 wa wn)
  have h1 := onT_beq v
  have h2 := offT_beq v
  obtain ⟨x, hxe⟩ : ∃ x, isFlag v = x := ⟨_, rfl⟩
  have hx : x = (sameS v onT || sameS v offT) := by rw [← hxe]; rfl
  rw [hxe]
  clear hxe
  cases a : sameS v onT <;> cases b : sameS v offT
  all_goals
    rw [a] at h1
    rw [b] at h2
    rw [a, b] at hx
    simp at hx
    subst hx
    clear a b
    go_enter Tryd.func21, Tryd.ntmps21
    go_wp2
    go_ret
    exact ⟨rfl, Lib.hid HI.out.bel⟩

set_option maxHeartbeats 4000000 in
set_option maxRecDepth 100000 in
theorem rvalue_text (r : ORow) (wa : Option Addr) (wn : Nat) (v : ByteArray) (w : World) :
    Calls Tryd.prog 21 #[.agg #[.string r.name, .int .i64 r.scope, .int .u8 116, .int .i64 r.lo, .int .i64 r.hi, .slice wa wn wn, .string r.first], .string v] w fun e w' => e = .returned (.bool (decide (v.size ≤ 1024))) ∧ Hid (Below w.heap.size w w') := by
  have HI := Lib.hid (ValIn.new w r 116 wa wn)
  by_cases h : v.size ≤ 1024
  · have q : decide ((v.size : Int) ≤ 1024) = true := by simp; omega
    rw [decide_eq_true h]
    go_enter Tryd.func21, Tryd.ntmps21
    go_wp2
    go_ret
    exact ⟨rfl, Lib.hid HI.out.bel⟩
  · have q : decide ((v.size : Int) ≤ 1024) = false := by simp; omega
    rw [decide_eq_false h]
    go_enter Tryd.func21, Tryd.ntmps21
    go_wp2
    go_ret
    exact ⟨rfl, Lib.hid HI.out.bel⟩

set_option maxHeartbeats 4000000 in
set_option maxRecDepth 100000 in
theorem rvalue_key (r : ORow) (wa : Option Addr) (wn : Nat) (v : ByteArray) (hv : v.size ≤ 281474976710656) (w : World) :
    Calls Tryd.prog 21 #[.agg #[.string r.name, .int .i64 r.scope, .int .u8 107, .int .i64 r.lo, .int .i64 r.hi, .slice wa wn wn, .string r.first], .string v] w fun e w' => e = .returned (.bool (docRead v)) ∧ Hid (Below w.heap.size w w') := by
  have HI := Lib.hid (ValIn.new w r 107 wa wn)
  have hread := dread_c v hv
  obtain ⟨x, hx⟩ : ∃ x, docRead v = x := ⟨_, rfl⟩
  have hc : docCode v = if x = true then 0 else 210 := by unfold docCode; rw [hx]
  rw [hx]
  clear hx
  cases x
  all_goals
    simp only [if_true, Bool.false_eq_true, if_false] at hc
    rw [hc] at hread
    clear hc hv
    go_enter Tryd.func21, Tryd.ntmps21
    go_wp2_with fail
    refine (hread _).mono ?_
    rintro e w1 ⟨c, m, rfl, HB1⟩
    have HI1 := Lib.hid (HI.out.below HB1.out)
    have HB := Lib.hid (below_box HI1.out.bel (.cells #[.int .i64 c, .int .i64 m] 76))
    go_wp2
    go_ret
    exact ⟨rfl, HB⟩

set_option maxHeartbeats 4000000 in
set_option maxRecDepth 100000 in
theorem rvalue_word (r : ORow) (g : Nat) (ws : List ByteArray) (hl : ws.length ≤ 3) (v : ByteArray) (w : World) (hg : g < w.heap.size) (hc : ∀ k, ∀ hk : k < ws.length, w.cell? ⟨g, k, none⟩ = some (.string ws[k])) :
    Calls Tryd.prog 21 #[.agg #[.string r.name, .int .i64 r.scope, .int .u8 99, .int .i64 r.lo, .int .i64 r.hi, .slice (some ⟨g, 0, none⟩) ws.length ws.length, .string r.first], .string v] w fun e w' => e = .returned (.bool (ws.any fun x => sameS x v)) ∧ Hid (Below w.heap.size w w') := by
  have HI := Lib.hid (ValIn.new w r 99 (some ⟨g, 0, none⟩) ws.length)
  have hc1 : ∀ k, ∀ hk : k < ws.length, (w.alloc (.cells #[.string r.name, .int .i64 r.scope, .int .u8 99, .int .i64 r.lo, .int .i64 r.hi, .slice (some ⟨g, 0, none⟩) ws.length ws.length, .string r.first] 48)).cell? ⟨g, k, none⟩ = some (.string ws[k]) :=
    fun k hk => (HI.out.bel.cell (p := ⟨g, k, none⟩) hg).trans (hc k hk)
  have HC := Lib.hid hc1
  obtain ⟨x, hx⟩ : ∃ x, (ws.any fun x => sameS x v) = x := ⟨_, rfl⟩
  have HX := Lib.hid hx
  rw [hx]
  clear hc hc1 hx hg
  go_enter Tryd.func21, Tryd.ntmps21
  go_wp2
  go_loopw [9] (fun i wr => ∃ k : Nat, k ≤ ws.length ∧ i = .int .i64 k ∧ Hid (∀ y ∈ ws.take k, sameS y v = false) ∧ Hid (ValIn w wr r 99 (some ⟨g, 0, none⟩) ws.length) ∧ Hid (∀ k, ∀ hk : k < ws.length, wr.cell? ⟨g, k, none⟩ = some (.string ws[k]))) (fun i _ => ws.length - (intOf i).toNat)
  case atStart => exact ⟨0, Nat.zero_le _, rfl, Lib.hid (by simp), HI, HC⟩
  case round =>
    clear HI HC
    obtain ⟨k, hk, rfl, HN, HI, HC⟩ := hrel
    obtain ⟨z0, z1, z2, z3, z4, z5, z6, -⟩ := seven HI.out.box
    by_cases hlt : k < ws.length
    · have hk0 : (0 : Int) ≤ (k : Int) := by omega
      have hk1 : (k : Int) < (ws.length : Int) := by omega
      have c := HC.out k hlt
      obtain ⟨y, hy⟩ : ∃ y, ws[k] = y := ⟨_, rfl⟩
      rw [hy] at c
      have HY := Lib.hid hy
      clear hy
      cases he : sameS y v with
      | true =>
        have h2 : (y.toList == v.toList) = true := (sameS_beq _ _).trans he
        have hx : x = true := by
          rw [← HX.out]
          exact List.any_eq_true.2 ⟨y, by rw [← HY.out]; exact List.getElem_mem hlt, he⟩
        subst hx
        clear HX he
        go_wp2
        go_ret
        exact ⟨rfl, Lib.hid HI.out.bel⟩
      | false =>
        have h2 : (y.toList == v.toList) = false := (sameS_beq _ _).trans he
        have HF : Hid (∀ y ∈ ws.take (k + 1), sameS y v = false) := Lib.hid (fun z hz => by
          rw [List.take_succ_eq_append_getElem hlt, List.mem_append, List.mem_singleton] at hz
          rcases hz with hz | hz
          · exact HN.out z hz
          · rw [hz, HY.out]; exact he)
        clear he
        go_wp2
        go_roundw
        case rel => exact ⟨k + 1, by omega, by go_num, HF, HI, HC⟩
        case measure => simp [intOf]; omega
    · have hke : k = ws.length := by omega
      have hx : x = false := by
        rw [← HX.out, List.any_eq_false]
        intro y hy
        rw [HN.out y (by rw [List.take_of_length_le (by omega)]; exact hy)]
        decide
      subst hx
      subst hke
      clear HX HN
      go_wp2
      go_ret
      exact ⟨rfl, Lib.hid HI.out.bel⟩

theorem rvalue_c (r : ORow) (hr : r ∈ table) (v : ByteArray) (hv : v.size ≤ 281474976710656) (b : Nat) (w : World) (hw : WordsAt w b) :
    Calls Tryd.prog 21 #[.agg #[.string r.name, .int .i64 r.scope, .int .u8 (rkind r.kind), .int .i64 r.lo, .int .i64 r.hi, .slice (waOf b r.words) (wnOf r.words) (wnOf r.words), .string r.first], .string v] w fun e w' => e = .returned (.bool (docVal r v)) ∧ Hid (Below w.heap.size w w') := by
  rcases (kinds r hr).1 with e | e | e | e | e
  · rw [docVal_num e, e]
    exact rvalue_num r _ _ v hv w
  · obtain ⟨g, h1, h2, h3, h4⟩ := words_slice hr e hw
    rw [docVal_word e, e, h1, h2]
    exact rvalue_word r g _ (words_len _) v w h3 h4
  · rw [docVal_flag e, e]
    exact rvalue_flag r _ _ v w
  · rw [docVal_key e, e]
    exact rvalue_key r _ _ v hv w
  · rw [docVal_text e, e]
    exact rvalue_text r _ _ v w
end Go.Proofs.YtlmnhdpahmaccaaDoor
