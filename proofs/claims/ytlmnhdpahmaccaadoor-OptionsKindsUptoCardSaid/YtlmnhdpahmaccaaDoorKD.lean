/- keys: base. -/
import Derived.Test.YtlmnhdpahmaccaaDoorKC
import Derived.Test.YtlmnhdpahmaccaaDoorTB
namespace Go.Proofs.YtlmnhdpahmaccaaDoor
open Go.RowKit QP

def baseList : List Int := [32, 13, 9, 27, 127, 16777239]
/-- the code that a name without marks stands for; 'dec' tells the first character of a text and its bytes -/
def baseKey (dec : ByteArray → Int × Int) (s : ByteArray) : Int :=
  match baseList.find? (fun c => sameS (named c) s) with
  | some c => c
  | none => match shapes.findIdx? (fun x => sameS x.name s) with
    | some i => 16777217 + i
    | none => if (dec s).2 = s.size then (dec s).1 else 0

theorem shapes_row : (Tryd.prog.info? 112).map (·.size) = some shapesCells.length := by kernel_rfl
theorem shape_index (w : World) (i : Nat) (hi : i < 22) : ∃ s, shapes[i]? = some s ∧ (Instr.index 112 (.agg shapesCells.toArray) (.int .i64 i)).run Tryd.prog w = .ok (.agg #[.string s.name, .int .u8 s.letter, .int .i64 s.number, .bool s.far]) w := by
  have hc : i = 0 ∨ i = 1 ∨ i = 2 ∨ i = 3 ∨ i = 4 ∨ i = 5 ∨ i = 6 ∨ i = 7 ∨ i = 8 ∨ i = 9 ∨ i = 10 ∨ i = 11 ∨ i = 12 ∨ i = 13 ∨ i = 14 ∨ i = 15 ∨ i = 16 ∨ i = 17 ∨ i = 18 ∨ i = 19 ∨ i = 20 ∨ i = 21 := by omega
  rcases hc with rfl | rfl | rfl | rfl | rfl | rfl | rfl | rfl | rfl | rfl | rfl | rfl | rfl | rfl | rfl | rfl | rfl | rfl | rfl | rfl | rfl | rfl
  all_goals exact ⟨_, rfl, by kernel_rfl⟩
def intVals (l : List Int) : List Value := l.map (Value.int .i64)
theorem intVals_get (l : List Int) (i : Nat) (h : i < l.length) : (intVals l)[i]? = some (.int .i64 l[i]) := by simp [intVals, h]

/-- in base's loops -/
structure BaseAt (W w : World) (g : Nat) : Prop where
  bel : Below W.heap.size W w
  sh : ShapesAt w
  rd : Rd w 1 (.slice (some ⟨g, 0, none⟩) 6 6) 6 (intVals baseList)
theorem BaseAt.below {W w w1 : World} {g : Nat} (h : BaseAt W w g) (hb : Below w.heap.size w w1) : BaseAt W w1 g := ⟨below_of h.bel hb, h.sh.below hb (Nat.le_refl _), h.rd.kept (by decide) hb⟩

theorem base_one {dec : ByteArray → Int × Int} {s : ByteArray} {c : Int} (h : baseList.find? (fun c => sameS (named c) s) = some c) : baseKey dec s = c := by
  unfold baseKey; rw [h]
theorem base_two {dec : ByteArray → Int × Int} {s : ByteArray} {i : Nat} (h : baseList.find? (fun c => sameS (named c) s) = none) (h2 : shapes.findIdx? (fun x => sameS x.name s) = some i) : baseKey dec s = 16777217 + i := by
  unfold baseKey; rw [h, h2]
theorem base_three {dec : ByteArray → Int × Int} {s : ByteArray} (h : baseList.find? (fun c => sameS (named c) s) = none) (h2 : shapes.findIdx? (fun x => sameS x.name s) = none) : baseKey dec s = if (dec s).2 = s.size then (dec s).1 else 0 := by
  unfold baseKey; rw [h, h2]
theorem findIdx_at {α : Type} {p : α → Bool} : ∀ {l : List α} {k : Nat} (_ : ∀ x ∈ l.take k, p x = false) (hk : k < l.length) (_ : p l[k] = true), l.findIdx? p = some k
  | [], k, _, hk, _ => by simp at hk
  | a :: r, 0, _, _, he => by simp at he; simp [List.findIdx?_cons, he]
  | a :: r, k + 1, h0, hk, he => by
    have ha : p a = false := h0 a (by simp)
    have := findIdx_at (l := r) (k := k) (fun x hx => h0 x (by simp [hx])) (by simpa using hk) (by simpa using he)
    simp [List.findIdx?_cons, ha, this]

set_option maxHeartbeats 8000000 in
set_option maxRecDepth 100000 in
theorem base_c (dec : ByteArray → Int × Int) (s : ByteArray) (w : World) (h : ShapesAt w)
    (hdec : ∀ w', Hid (Below w.heap.size w w') → Calls Tryd.prog 63 #[.string s] w' fun e w'' => e = .returned (.tuple #[.int .i32 (dec s).1, .int .i64 (dec s).2]) ∧ Hid (Below w'.heap.size w' w''))
    (hr : IntKind.wrap .i64 (dec s).1 = (dec s).1) :
    Calls Tryd.prog 49 #[.string s] w fun e w' => e = .returned (.int .i64 (baseKey dec s)) ∧ Hid (Below w.heap.size w w') := by
  have hb0 : Below w.heap.size w (w.alloc (.cells (intVals baseList).toArray 3)) := (Below.refl _ _).alloc (Nat.le_refl _) _
  have HB : Hid (BaseAt w (w.alloc (.cells #[.int .i64 32, .int .i64 13, .int .i64 9, .int .i64 27, .int .i64 127, .int .i64 16777239] 3)) w.heap.size) := Lib.hid ⟨hb0, h.below hb0 (Nat.le_refl _), Rd.box _ _ 1 6 _ rfl rfl⟩
  have HD := Lib.hid hdec
  obtain ⟨d1, hd1⟩ : ∃ d1, (dec s).1 = d1 := ⟨_, rfl⟩
  obtain ⟨d2, hd2⟩ : ∃ d2, (dec s).2 = d2 := ⟨_, rfl⟩
  rw [hd1, hd2] at HD
  rw [hd1] at hr
  have HD1 := Lib.hid hd1
  have HD2 := Lib.hid hd2
  clear h hdec hb0 hd1 hd2
  go_enter Tryd.func49, Tryd.ntmps49
  go_wp2
  go_loopw [11] (fun i wr => ∃ k : Nat, k ≤ 6 ∧ i = .int .i64 k ∧ Hid ((baseList.take k).find? (fun c => sameS (named c) s) = none) ∧ Hid (BaseAt w wr w.heap.size)) (fun i _ => 6 - (intOf i).toNat)
  case atStart => exact ⟨0, Nat.zero_le _, rfl, Lib.hid rfl, HB⟩
  case round =>
    clear HB
    obtain ⟨k, hk, rfl, HN, HB⟩ := hrel
    by_cases hlt : k < 6
    · have hlt' : k < baseList.length := hlt
      obtain ⟨g', off, cap, hv, -, hc⟩ := HB.out.rd.at_ (by decide)
      cases hv
      have c0 := hc k _ (intVals_get baseList k hlt')
      rw [Nat.zero_add] at c0
      have hk0 : (0 : Int) ≤ (k : Int) := by omega
      have hk1 : (k : Int) < 6 := by omega
      obtain ⟨c, hce⟩ : ∃ c, baseList[k] = c := ⟨_, rfl⟩
      rw [hce] at c0
      have HCE := Lib.hid hce
      clear hce hc
      go_wp2_with fail
      refine (named_c c _ HB.out.sh).mono ?_
      rintro e w2 ⟨rfl, rfl⟩
      cases he : sameS (named c) s with
      | true =>
        have h2 : ((named c).toList == s.toList) = true := (sameS_beq _ _).trans he
        have HV : Hid (baseKey dec s = c) := Lib.hid (base_one (by rw [← HCE.out]; exact find_at HN.out hlt' (by rw [HCE.out]; exact he)))
        clear he
        go_wp2
        go_ret
        exact ⟨by rw [HV.out]; rfl, Lib.hid HB.out.bel⟩
      | false =>
        have h2 : ((named c).toList == s.toList) = false := (sameS_beq _ _).trans he
        have HE := Lib.hid he
        clear he
        go_wp2
        go_roundw
        case rel => exact ⟨k + 1, by omega, by go_num, Lib.hid (find_next HN.out hlt' (by rw [HCE.out]; exact HE.out)), HB⟩
        case measure => simp [intOf]; omega
    · have hke : k = 6 := by omega
      subst hke
      have H1 : Hid (baseList.find? (fun c => sameS (named c) s) = none) := HN
      clear HN hlt
      go_wp2_with (refine wpList_load_mid rfl 112 (.global 2) rfl 2 0 rfl shapesCells _ HB.out.sh Tryd.underlying112 rfl shapes_row ?_)
      go_loopw [22] (fun i wr2 => ∃ k : Nat, k ≤ 22 ∧ i = .int .i64 k ∧ Hid (∀ x ∈ shapes.take k, sameS x.name s = false) ∧ Hid (BaseAt w wr2 w.heap.size)) (fun i _ => 22 - (intOf i).toNat)
      case atStart => exact ⟨0, Nat.zero_le _, rfl, Lib.hid (by simp), HB⟩
      case round =>
        clear HB
        obtain ⟨k, hk, rfl, HN, HB⟩ := hrel
        by_cases hlt : k < 22
        · have hlt' : k < shapes.length := hlt
          obtain ⟨x, hx, hidx⟩ := shape_index wr k hlt
          have hk0 : (0 : Int) ≤ (k : Int) := by omega
          have hk1 : (k : Int) < 22 := by omega
          have hxe : shapes[k] = x := by
            rw [List.getElem?_eq_getElem hlt'] at hx
            exact Option.some.inj hx
          have HX := Lib.hid hxe
          clear hx hxe
          cases he : sameS x.name s with
          | true =>
            have h2 : (x.name.toList == s.toList) = true := (sameS_beq _ _).trans he
            have HV : Hid (baseKey dec s = 16777217 + (k : Int)) := Lib.hid (base_two H1.out (findIdx_at HN.out hlt' (by rw [HX.out]; exact he)))
            clear he
            go_wp2
            go_ret
            exact ⟨by rw [HV.out]; go_num, Lib.hid (below_box HB.out.bel _)⟩
          | false =>
            have h2 : (x.name.toList == s.toList) = false := (sameS_beq _ _).trans he
            have HE := Lib.hid he
            clear he
            go_wp2
            go_roundw
            case rel => exact ⟨k + 1, by omega, by go_num, Lib.hid (fun y hy => by
              rw [List.take_succ_eq_append_getElem hlt', List.mem_append, List.mem_singleton] at hy
              rcases hy with hy | hy
              · exact HN.out y hy
              · rw [hy, HX.out]; exact HE.out), Lib.hid (HB.out.below ((Below.refl _ _).alloc (Nat.le_refl _) _))⟩
            case measure => simp [intOf]; omega
        · have hke : k = 22 := by omega
          subst hke
          have H2 : Hid (shapes.findIdx? (fun x => sameS x.name s) = none) := Lib.hid (List.findIdx?_eq_none_iff.2 fun x hx => HN.out x (show x ∈ shapes.take 22 from hx))
          have HV : Hid (baseKey dec s = if (dec s).2 = s.size then (dec s).1 else 0) := Lib.hid (base_three H1.out H2.out)
          clear HN H2 hlt
          go_wp2_with fail
          refine (HD.out wr (Lib.hid HB.out.bel)).mono ?_
          rintro e w2 ⟨rfl, HB2⟩
          have HBB := Lib.hid (below_of HB.out.bel HB2.out)
          by_cases hl : d2 = s.size
          · have q : (d2 == (s.size : Int)) = true := by simpa using hl
            have HW : Hid (baseKey dec s = d1) := Lib.hid (by rw [HV.out, if_pos (by rw [HD2.out]; exact hl), HD1.out])
            clear hl
            go_wp2
            go_ret
            exact ⟨by rw [HW.out]; rfl, HBB⟩
          · have q : (d2 == (s.size : Int)) = false := by simpa using hl
            have HW : Hid (baseKey dec s = 0) := Lib.hid (by rw [HV.out, if_neg (by rw [HD2.out]; exact hl)])
            clear hl
            go_wp2
            go_ret
            exact ⟨by rw [HW.out]; rfl, HBB⟩
end Go.Proofs.YtlmnhdpahmaccaaDoor
