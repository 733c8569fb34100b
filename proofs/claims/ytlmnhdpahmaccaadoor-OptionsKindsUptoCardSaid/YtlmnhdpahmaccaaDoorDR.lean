/- options: Drop. -/
import Derived.Test.YtlmnhdpahmaccaaDoorMR
import Derived.Test.YtlmnhdpahmaccaaDoorSE
import Derived.Test.YtlmnhdpahmaccaaDoorKV
namespace Go.Proofs.YtlmnhdpahmaccaaDoor
open Go.RowKit QP

def isAt (sc id : Int) (q : PK) : Bool := decide (q.1 = sc) && decide (q.2.1 = id)
set_option maxHeartbeats 2000000 in
set_option maxRecDepth 100000 in
theorem dropPred_c (q : PK) (v : ByteArray) (sc id : Int) (B1 B2 : Nat) (w : World) (h1 : w.cell? ⟨B1, 0, none⟩ = some (.int .i64 sc)) (h2 : w.cell? ⟨B2, 0, none⟩ = some (.int .i64 id)) :
    Calls Tryd.prog 30 #[pkVal q, .string v, .pointer (some ⟨B1, 0, none⟩), .pointer (some ⟨B2, 0, none⟩)] w fun e w' => e = .returned (.bool (isAt sc id q)) ∧ Hid (Below w.heap.size w w') := by
  have l1 := World.block_lt_of_cell? w _ h1
  have l2 := World.block_lt_of_cell? w _ h2
  simp only at l1 l2
  obtain ⟨a, b, n⟩ := q
  obtain ⟨x, hx⟩ : ∃ x, isAt sc id (a, b, n) = x := ⟨_, rfl⟩
  have hxe : x = (decide (a = sc) && decide (b = id)) := by rw [← hx]; rfl
  rw [hx]
  clear hx
  unfold pkVal
  have HB : Hid (Below w.heap.size w (w.alloc (.cells #[.int .i64 a, .int .i64 b, .string n] 62))) := Lib.hid ((Below.refl _ _).alloc (Nat.le_refl _) _)
  by_cases e1 : a = sc
  · have q1 : (a == sc) = true := by simpa using e1
    by_cases e2 : b = id
    · have q2 : (b == id) = true := by simpa using e2
      rw [decide_eq_true e1, decide_eq_true e2] at hxe
      simp at hxe
      subst hxe
      clear e1 e2
      go_enter Tryd.func30, Tryd.ntmps30
      go_wp2
      go_ret
      exact ⟨rfl, HB⟩
    · have q2 : (b == id) = false := by simpa using e2
      rw [decide_eq_true e1, decide_eq_false e2] at hxe
      simp at hxe
      subst hxe
      clear e1 e2
      go_enter Tryd.func30, Tryd.ntmps30
      go_wp2
      go_ret
      exact ⟨rfl, HB⟩
  · have q1 : (a == sc) = false := by simpa using e1
    rw [decide_eq_false e1] at hxe
    simp at hxe
    subst hxe
    clear e1
    go_enter Tryd.func30, Tryd.ntmps30
    go_wp2
    go_ret
    exact ⟨rfl, HB⟩

structure DelAt (W w : World) (b : Nat) (E : List (PK × ByteArray)) (left : PK → Bool) (cnt : Nat) : Prop where
  rng : Rng C w b W.heap.size E left cnt
  mod : Mod (fun j => j = b) W w
set_option maxHeartbeats 4000000 in
set_option maxRecDepth 100000 in
theorem deleteFunc_c (b : Nat) (E : List (PK × ByteArray)) (sc id : Int) (B1 B2 : Nat) (w : World) (h : MapIs C w b E) (n1 : B1 ≠ b) (n2 : B2 ≠ b) (h1 : w.cell? ⟨B1, 0, none⟩ = some (.int .i64 sc)) (h2 : w.cell? ⟨B2, 0, none⟩ = some (.int .i64 id)) :
    Calls Tryd.prog 29 #[.map (some b), .func (.func 30) #[] #[.pointer (some ⟨B1, 0, none⟩), .pointer (some ⟨B2, 0, none⟩)]] w fun e w' =>
      e = .returned (.tuple #[]) ∧ Hid (MapIs C w' b (E.filter fun p => !isAt sc id p.1)) ∧ Hid (Mod (fun j => j = b) w w') := by
  have l1 := World.block_lt_of_cell? w _ h1
  have l2 := World.block_lt_of_cell? w _ h2
  simp only at l1 l2
  have hcells : ∀ W, Mod (fun j => j = b) w W → W.cell? ⟨B1, 0, none⟩ = some (.int .i64 sc) ∧ W.cell? ⟨B2, 0, none⟩ = some (.int .i64 id) := fun W hm =>
    ⟨(World.cell?_of_block (w := w) (hm.block B1 l1 n1)).trans h1, (World.cell?_of_block (w := w) (hm.block B2 l2 n2)).trans h2⟩
  have HC := Lib.hid hcells
  have HM := Lib.hid h
  clear hcells l1 l2 n1 n2 h1 h2
  go_enter Tryd.func29, Tryd.ntmps29
  go_wp2_with (first
    | (at_range; refine wpList_range_is C rfl _ 55 rfl 9 Tryd.underlying55 b E rfl HM.out ?_; intro w0 hrg0 hb0 hs0)
    | go_in)
  have HD : Hid (DelAt w w0 b (sift E (isAt sc id) fun _ => true) (fun _ => true) E.length) := Lib.hid ⟨by rw [sift_start]; exact hrg0, Mod.of_below hb0 _⟩
  clear hrg0 hb0 hs0 h
  go_frame
  go_loopw [8] (fun _ wr => ∃ (left : PK → Bool) (cnt : Nat), Hid (DelAt w wr b (sift E (isAt sc id) left) left cnt)) (fun _ wr => wr.rangeLeft b w.heap.size)
  case atStart => exact ⟨_, _, HD⟩
  case round =>
    clear HD
    obtain ⟨left, cnt, HD⟩ := hrel
    go_wp2_with (first
      | (at_next; refine wpList_next_is C rfl _ rfl b w.heap.size _ _ _ rfl HD.out.rng ?_ ?_)
      | go_in)
    · intro _ hl0
      have HE : Hid (MapIs C wr b (E.filter fun p => !isAt sc id p.1)) := Lib.hid (by rw [← sift_end (fun p hp => hl0 p.1.1 p.1.2.1 p.1.2.2 p.2 hp)]; exact HD.out.rng.map)
      have HMO := Lib.hid HD.out.mod
      clear hl0 HD
      go_wp2
      go_end0
      exact ⟨rfl, HE, HMO⟩
    · intro pa pb pn pv w1 cnt1 hp hlx hrg1 hlt hm1 hs1 hen
      have e1 : C.key (pa, pb, pn) = .agg #[.int .i64 pa, .int .i64 pb, .string pn] := rfl
      have e2 : C.val pv = .string pv := rfl
      rw [e1, e2] at hen ⊢
      have hmw1 : Mod (fun j => j = b) w w1 := HD.out.mod.trans' hm1 fun i hi e => by omega
      have hmA := hmw1.alloc (.cells #[.int .i64 pa, .int .i64 pb, .string pn] 62)
      have HMA := Lib.hid hmA
      have HRG := Lib.hid (hrg1.alloc (.cells #[.int .i64 pa, .int .i64 pb, .string pn] 62))
      have hc := HC.out _ hmA
      have hcall := dropPred_c (pa, pb, pn) pv sc id B1 B2 _ hc.1 hc.2
      have hkl := hrg1.keys _ hp
      have HKL := Lib.hid hkl
      have hbk : Blk (w1.alloc (.cells #[.int .i64 pa, .int .i64 pb, .string pn] 62)) wr.heap.size 62 #[.int .i64 pa, .int .i64 pb, .string pn] := hs1 ▸ Blk.new w1 62 #[.int .i64 pa, .int .i64 pb, .string pn]
      have HK := Lib.hid hbk
      have HLT := Lib.hid hlt
      have HCNT := Lib.hid HD.out.rng.left_eq
      unfold pkVal at hcall
      clear hp hlx hrg1 hm1 hc hkl hmw1 hmA hbk e1 e2 hlt HD
      cases hpd : isAt sc id (pa, pb, pn) with
      | false =>
        rw [hpd] at hcall
        have HS := Lib.hid (fun (E : List (PK × ByteArray)) => sift_stays (E := E) (left := left) hpd)
        go_wp2_with (first
          | (go_at_call 30; refine hcall.mono ?_; rintro e w2 ⟨rfl, HB2⟩)
          | go_in)
        have hrg2 := HRG.out.below HB2.out HRG.out.map.lt HRG.out.lt
        have hm2 := HMA.out.trans' (Mod.of_below HB2.out (fun j => j = b)) (fun i hi e => e)
        go_roundw
        case rel => exact ⟨_, cnt1, Lib.hid ⟨by rw [HS.out]; exact hrg2, hm2⟩⟩
        case measure => rw [hrg2.left_eq, HCNT.out]; exact HLT.out
      | true =>
        rw [hpd] at hcall
        have HS := Lib.hid (fun (E : List (PK × ByteArray)) => sift_struck (E := E) (left := left) hpd)
        go_wp2_with (first
          | (go_at_call 30; refine hcall.mono ?_; rintro e w2 ⟨rfl, HB2⟩; have hl0 : w2.cell? ⟨wr.heap.size, 0, none⟩ = some (.int .i64 pa) := (HK.out.below_ HB2.out).cell 0; have hl1 : w2.cell? ⟨wr.heap.size, 1, none⟩ = some (.int .i64 pb) := (HK.out.below_ HB2.out).cell 1; have hl2 : w2.cell? ⟨wr.heap.size, 2, none⟩ = some (.string pn) := (HK.out.below_ HB2.out).cell 2; have HRG2 := Lib.hid (HRG.out.below HB2.out HRG.out.map.lt HRG.out.lt); obtain ⟨kl, hkl⟩ := HKL.out)
          | (at_delete; refine wpList_drop_is C rfl _ _ 55 rfl keyed 9 Tryd.underlying55 b w.heap.size _ _ _ rfl HRG2.out (pa, pb, pn) rfl hkl ?_; intro w3 cnt3 hrg3 hle hm3 hs3; have HRG3 := Lib.hid hrg3; have HLE := Lib.hid hle; have HM3 := Lib.hid hm3; clear hrg3 hle hm3 hs3; go_frame)
          | go_in)
        have hm2 := HMA.out.trans' (Mod.of_below HB2.out (fun j => j = b)) (fun i hi e => e)
        have hm4 := hm2.trans HM3.out
        go_roundw
        case rel => exact ⟨_, cnt3, Lib.hid ⟨by rw [HS.out]; exact HRG3.out, hm4⟩⟩
        case measure => rw [HRG3.out.left_eq, HCNT.out]; have := HLT.out; have := HLE.out; omega

theorem makeFn (fn : Fn) (first cap : Array Value) (w : World) : (Instr.makeFunc fn first cap).run Tryd.prog w = .ok (.func fn first cap) w := rfl
theorem filter_isAt (E : List (PK × ByteArray)) (sc id : Int) (h : ¬ id = 0) : (E.filter fun p => !isAt sc id p.1) = dropE E sc id := by
  unfold dropE
  rw [if_neg h]
  rfl
set_option maxHeartbeats 4000000 in
set_option maxRecDepth 100000 in
theorem drop_c (k b : Nat) (E : List (PK × ByteArray)) (sc id : Int) (w : World) (h : OptIs w k b E) (hkb : k ≠ b) :
    Calls Tryd.prog 19 #[.pointer (some ⟨k, 0, none⟩), .int .i64 sc, .int .i64 id] w fun e w' => e = .returned (.tuple #[]) ∧ Hid (SetPost w k b (dropE E sc id) w') := by
  have HO := Lib.hid h
  have HKB := Lib.hid hkb
  have hb1 : Below w.heap.size w (w.alloc (.cells #[.int .i64 sc] 3)) := (Below.refl _ _).alloc (Nat.le_refl _) _
  have hb2 : Below w.heap.size w ((w.alloc (.cells #[.int .i64 sc] 3)).alloc (.cells #[.int .i64 id] 3)) := hb1.alloc (by simp) _
  have HB2 := Lib.hid hb2
  have ho2 := h.below hb2
  have kc := ho2.box.cell 0
  have hbl := h.map.lt
  have hkl := h.box.lt
  have hx1 : ((w.alloc (.cells #[.int .i64 sc] 3)).alloc (.cells #[.int .i64 id] 3)).cell? ⟨w.heap.size, 0, none⟩ = some (.int .i64 sc) := ((Blk.new w 3 #[.int .i64 sc]).alloc _).cell 0
  have hx2 : ((w.alloc (.cells #[.int .i64 sc] 3)).alloc (.cells #[.int .i64 id] 3)).cell? ⟨w.heap.size + 1, 0, none⟩ = some (.int .i64 id) := by
    have := (Blk.new (w.alloc (.cells #[.int .i64 sc] 3)) 3 #[.int .i64 id]).cell 0
    rwa [show (w.alloc (.cells #[.int .i64 sc] 3)).heap.size = w.heap.size + 1 by simp] at this
  have hdel := deleteFunc_c b E sc id w.heap.size (w.heap.size + 1) _ ho2.map (by omega) (by omega) hx1 hx2
  by_cases h0 : id = 0
  · have hd : dropE E sc id = E := by unfold dropE; rw [if_pos h0]
    have q : (id == 0) = true := by simpa using h0
    rw [hd]
    clear hdel hd h0 h hb1 hb2 ho2 hx1 hx2 kc
    go_enter Tryd.func19, Tryd.ntmps19
    go_wp2
    refine bodyPost_ret (results_none rfl _ _ _) rfl ?_
    exact ⟨rfl, Lib.hid (SetPost.of_below HO.out HB2.out)⟩
  · have q : (id == 0) = false := by simpa using h0
    rw [filter_isAt E sc id h0] at hdel
    have kc' : ((w.alloc (.cells #[.int .i64 sc] 3)).alloc (.cells #[.int .i64 id] 3)).cell? ⟨k, 0, none⟩ = some (.map (some b)) := kc
    have HO2 := Lib.hid ho2
    have hmf := makeFn
    clear h0 h hb1 hb2 ho2 kc
    go_enter Tryd.func19, Tryd.ntmps19
    go_wp2_with fail
    refine hdel.mono ?_
    rintro e w3 ⟨rfl, HM, HMO⟩
    have HP : Hid (SetPost w k b (dropE E sc id) w3) := Lib.hid ⟨⟨HO2.out.box.keep HMO.out fun e => HKB.out e, HM.out⟩, (Mod.of_below HB2.out _).trans HMO.out⟩
    go_wp2
    go_end0
    exact ⟨rfl, HP⟩
end Go.Proofs.YtlmnhdpahmaccaaDoor
