/- keys: Read. -/
import Derived.Test.YtlmnhdpahmaccaaDoorKE
import Derived.Test.YtlmnhdpahmaccaaDoorTC
namespace Go.Proofs.YtlmnhdpahmaccaaDoor
open Go.RowKit QP

def restOf (s : ByteArray) (m : Int) : ByteArray := if hasPre s (marks m) then s.extract (marks m).size s.size else s
def readAt (dec : ByteArray → Int × Int) (s : ByteArray) (m : Nat) : Option (Int × Int) :=
  if hasPre s (marks m) && !decide ((restOf s m).size = 0) then if sameS (nameKey (baseKey dec (restOf s m)) m) s then some (baseKey dec (restOf s m), (m : Int)) else none else none
/-- the key of a name -/
def readKey (dec : ByteArray → Int × Int) (s : ByteArray) : Option (Int × Int) := (List.range 8).findSome? fun m => readAt dec s m

def readCode (dec : ByteArray → Int × Int) (s : ByteArray) : Int := match readKey dec s with | some _ => 0 | none => 210

structure ReadIn (W w : World) : Prop where
  bel : Below W.heap.size W w
  sh : ShapesAt w
  box : Blk w W.heap.size 76 #[.int .i64 0, .int .i64 0]
theorem ReadIn.below {W w w1 : World} (h : ReadIn W w) (hb : Below w.heap.size w w1) : ReadIn W w1 := ⟨below_of h.bel hb, h.sh.below hb (Nat.le_refl _), h.box.below_ hb⟩
theorem mod2 (w : World) (k : Nat) (y0 y1 : Value) : Mod (fun j => j = k) w ((w.setCell ⟨k, 0, none⟩ y0).setCell ⟨k, 1, none⟩ y1) :=
  ((Mod.refl (fun j => j = k) w).setCell (a := ⟨k, 0, none⟩) (.inl rfl) _).setCell (a := ⟨k, 1, none⟩) (.inl rfl) _
theorem range_take (k : Nat) (hk : k ≤ 8) : (List.range 8).take k = List.range k := by
  rw [List.take_range, Nat.min_eq_left hk]

set_option maxHeartbeats 8000000 in
set_option maxRecDepth 100000 in
theorem read_c (dec : ByteArray → Int × Int) (s : ByteArray) (w : World) (h : ShapesAt w)
    (hdec : ∀ m : Nat, m < 8 → 0 < (restOf s m).size → ∀ w', Hid (Below w.heap.size w w') → Calls Tryd.prog 63 #[.string (restOf s m)] w' fun e w'' => e = .returned (.tuple #[.int .i32 (dec (restOf s m)).1, .int .i64 (dec (restOf s m)).2]) ∧ Hid (Below w'.heap.size w' w''))
    (hr : ∀ m : Nat, m < 8 → IntKind.wrap .i64 (dec (restOf s m)).1 = (dec (restOf s m)).1) :
    Calls Tryd.prog 36 #[.string s] w fun e w' => e = .returned (.tuple #[.agg #[.int .i64 ((readKey dec s).getD (0, 0)).1, .int .i64 ((readKey dec s).getD (0, 0)).2], .int .i64 (readCode dec s)]) ∧ Hid (Below w.heap.size w w') := by
  have hb0 : Below w.heap.size w (w.alloc (.cells #[.int .i64 0, .int .i64 0] 76)) := (Below.refl _ _).alloc (Nat.le_refl _) _
  have HI : Hid (ReadIn w (w.alloc (.cells #[.int .i64 0, .int .i64 0] 76))) := Lib.hid ⟨hb0, h.below hb0 (Nat.le_refl _), Blk.new _ _ _⟩
  have HD := Lib.hid hdec
  have HR := Lib.hid hr
  clear h hdec hr hb0
  go_enter Tryd.func36, Tryd.ntmps36
  go_wp2
  go_loopw [4] (fun i wr => ∃ k : Nat, k ≤ 8 ∧ i = .int .i64 k ∧ Hid (((List.range 8).take k).findSome? (fun m => readAt dec s m) = none) ∧ Hid (ReadIn w wr)) (fun i _ => 8 - (intOf i).toNat)
  case atStart => exact ⟨0, Nat.zero_le _, rfl, Lib.hid rfl, HI⟩
  case round =>
    clear HI
    obtain ⟨k, hk, rfl, HN, HI⟩ := hrel
    by_cases hlt : k < 8
    · have hlt' : k < (List.range 8).length := by simpa using hlt
      have hrk : (List.range 8)[k]'hlt' = k := by simp
      have hk0 : (0 : Int) ≤ (k : Int) := by omega
      have hk1 : (k : Int) < 8 := by omega
      have hk7 : (k : Int) ≤ 7 := by omega
      have HRK := Lib.hid hrk
      clear hrk
      go_wp2_with fail
      refine (marks_c k hk0 hk7 _).mono ?_
      rintro e w1 ⟨rfl, rfl⟩
      go_wp2_with fail
      refine (cutPrefix_c s (marks k) _).mono ?_
      rintro e w1 ⟨rfl, rfl⟩
      cases hp : hasPre s (marks k) with
      | false =>
        have HF : Hid (((List.range 8).take (k + 1)).findSome? (fun m => readAt dec s m) = none) := Lib.hid (findSome_next HN.out hlt' (by rw [HRK.out]; unfold readAt; rw [hp]; rfl))
        clear hp
        go_wp2
        go_roundw
        case rel => exact ⟨k + 1, by omega, by go_num, HF, HI⟩
        case measure => simp [intOf]; omega
      | true =>
        have hro : restOf s k = s.extract (marks k).size s.size := by unfold restOf; rw [hp]; rfl
        obtain ⟨r, hre⟩ : ∃ r, s.extract (marks k).size s.size = r := ⟨_, rfl⟩
        rw [hre] at hro
        simp only [if_true, hre]
        have HRO := Lib.hid hro
        have HP := Lib.hid hp
        clear hro hre hp
        cases hz : r.toList.isEmpty with
        | true =>
          have hz0 : r.size = 0 := by rw [empty_iff] at hz; simpa using hz
          have HF : Hid (((List.range 8).take (k + 1)).findSome? (fun m => readAt dec s m) = none) := Lib.hid (findSome_next HN.out hlt' (by rw [HRK.out]; unfold readAt; rw [HP.out, HRO.out, decide_eq_true hz0]; rfl))
          clear hz0
          go_wp2
          go_roundw
          case rel => exact ⟨k + 1, by omega, by go_num, HF, HI⟩
          case measure => simp [intOf]; omega
        | false =>
          have hz0 : r.size ≠ 0 := by rw [empty_iff] at hz; simpa using hz
          have hr0 : 0 < r.size := by omega
          obtain ⟨c, hce⟩ : ∃ c, baseKey dec r = c := ⟨_, rfl⟩
          have HRA : Hid (readAt dec s k = if sameS (nameKey c k) s then some (c, (k : Int)) else none) := Lib.hid (by
            unfold readAt
            rw [HP.out, HRO.out, decide_eq_false hz0, hce]
            rfl)
          have hbase := base_c dec r wr HI.out.sh (fun w' hb => by have h := HD.out k hlt (by rw [HRO.out]; exact hr0) w' (Lib.hid (below_of HI.out.bel hb.out)); rw [HRO.out] at h; exact h) (by have h := HR.out k hlt; rw [HRO.out] at h; exact h)
          rw [hce] at hbase
          clear hz0 hr0 hce HRO
          go_wp2_with fail
          refine hbase.mono ?_
          rintro e w2 ⟨rfl, HB2⟩
          have HI2 := Lib.hid (HI.out.below HB2.out)
          have HI3 := Lib.hid (HI2.out.below (w1 := w2.alloc (.cells #[.int .i64 c, .int .i64 k] 76)) ((Below.refl _ _).alloc (Nat.le_refl _) _))
          have hkb := Blk.new w2 76 #[.int .i64 c, .int .i64 k]
          have HKB := Lib.hid hkb
          clear hkb
          go_wp2_with fail
          refine (name_c c k hk0 hk7 _ HI3.out.sh).mono ?_
          rintro e w3 ⟨rfl, HB3⟩
          have HI4 := Lib.hid (HI3.out.below HB3.out)
          have k0 : w3.cell? ⟨w2.heap.size, 0, none⟩ = some (.int .i64 c) := (HKB.out.below_ HB3.out).cell 0
          have k1 : w3.cell? ⟨w2.heap.size, 1, none⟩ = some (.int .i64 k) := (HKB.out.below_ HB3.out).cell 1
          cases he : sameS (nameKey c k) s with
          | true =>
            have h2 : ((nameKey c k).toList == s.toList) = true := (sameS_beq _ _).trans he
            have HV : Hid (readKey dec s = some (c, (k : Int))) := Lib.hid (findSome_at HN.out hlt' (by rw [HRK.out, HRA.out, he]; rfl))
            have b0 : w3.cell? ⟨w.heap.size, 0, none⟩ = some (.int .i64 0) := HI4.out.box.cell 0
            have b1 : w3.cell? ⟨w.heap.size, 1, none⟩ = some (.int .i64 0) := HI4.out.box.cell 1
            have f0 : w3.frozen? ⟨w.heap.size, 0, none⟩ = false := HI4.out.box.frozen 0
            have f1 : w3.frozen? ⟨w.heap.size, 1, none⟩ = false := HI4.out.box.frozen 1
            clear he
            go_wp2
            refine bodyPost_ret (v := .tuple #[.agg #[.int .i64 c, .int .i64 k], .int .i64 0]) (by simp [results, Tryd.results36, go_sem, b0, b1]) rfl ?_
            have hm := mod2 w3 w.heap.size (.int .i64 c) (.int .i64 k)
            have hb := below_mod HI4.out.bel hm HI4.out.bel.size fun i hi e => by omega
            exact ⟨by unfold readCode; rw [HV.out]; rfl, Lib.hid hb⟩
          | false =>
            have h2 : ((nameKey c k).toList == s.toList) = false := (sameS_beq _ _).trans he
            have HF : Hid (((List.range 8).take (k + 1)).findSome? (fun m => readAt dec s m) = none) := Lib.hid (findSome_next HN.out hlt' (by rw [HRK.out, HRA.out, he]; rfl))
            clear he
            go_wp2
            go_roundw
            case rel => exact ⟨k + 1, by omega, by go_num, HF, HI4⟩
            case measure => simp [intOf]; omega
    · have hke : k = 8 := by omega
      subst hke
      have HV : Hid (readKey dec s = none) := Lib.hid HN.out
      have b0 : wr.cell? ⟨w.heap.size, 0, none⟩ = some (.int .i64 0) := HI.out.box.cell 0
      have b1 : wr.cell? ⟨w.heap.size, 1, none⟩ = some (.int .i64 0) := HI.out.box.cell 1
      have f0 : wr.frozen? ⟨w.heap.size, 0, none⟩ = false := HI.out.box.frozen 0
      have f1 : wr.frozen? ⟨w.heap.size, 1, none⟩ = false := HI.out.box.frozen 1
      clear HN
      go_wp2
      refine bodyPost_ret (v := .tuple #[.agg #[.int .i64 0, .int .i64 0], .int .i64 210]) (by simp [results, Tryd.results36, go_sem, b0, b1]) rfl ?_
      have hm := mod2 wr w.heap.size (.int .i64 0) (.int .i64 0)
      have hb := below_mod HI.out.bel hm HI.out.bel.size fun i hi e => by omega
      exact ⟨by unfold readCode; rw [HV.out]; rfl, Lib.hid hb⟩
end Go.Proofs.YtlmnhdpahmaccaaDoor
