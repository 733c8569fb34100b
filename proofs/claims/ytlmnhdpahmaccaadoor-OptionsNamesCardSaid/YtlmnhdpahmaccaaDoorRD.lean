/- the document's answer: Get. -/
import Derived.Test.YtlmnhdpahmaccaaDoorRC
import Derived.WalkSmall
import Derived.Deep.RegionHeld3
namespace Go.Proofs.YtlmnhdpahmaccaaDoor
open Go.RowKit QP

def ints (l : List Int) : List Value := l.map (Value.int .i64)
theorem ints_get (l : List Int) (i : Nat) (h : i < l.length) : (ints l)[i]? = some (.int .i64 l[i]) := by simp [ints, h]
def rplaces (sc : Int) (name : ByteArray) (s wi p : Int) : List PK :=
  if sc = 2 then [(2, s, name), (2, 0, name)] else if sc = 3 then [(3, wi, name), (3, 0, name)] else if sc = 4 then [(4, p, name), (3, wi, name), (4, 0, name), (3, 0, name)] else [(1, 0, name)]
def rgetVal (look : PK → Option ByteArray) (name : ByteArray) (s wi p : Int) : ByteArray × Int :=
  match rowOf name with
  | none => (⟨#[]⟩, 230)
  | some r => (((rplaces r.scope name s wi p).findSome? look).getD r.first, 0)

structure RGetAt (W w : World) (g5 g12 g14 g15 : Nat) (ao : Option Addr) (cap : Nat) (L : SetL) (l : List PK) (sc : Int) (kc : Int) (wa : Option Addr) (wn : Nat) (r : ORow) : Prop where
  bel : Below W.heap.size W w
  s : RSet w ao cap L
  box : Blk w g5 34 #[.slice ao L.length cap]
  row : Blk w g12 48 #[.string r.name, .int .i64 sc, .int .u8 kc, .int .i64 r.lo, .int .i64 r.hi, .slice wa wn wn, .string r.first]
  sc : Rd w 1 (.slice (some ⟨g14, 0, none⟩) l.length l.length) l.length (ints (l.map (·.1)))
  id : Rd w 1 (.slice (some ⟨g15, 0, none⟩) l.length l.length) l.length (ints (l.map (·.2.1)))
theorem RGetAt.below {W w w1 : World} {g5 g12 g14 g15 : Nat} {ao : Option Addr} {cap : Nat} {L : SetL} {l : List PK} {sc kc : Int} {wa : Option Addr} {wn : Nat} {r : ORow} (h : RGetAt W w g5 g12 g14 g15 ao cap L l sc kc wa wn r) (hb : Below w.heap.size w w1) : RGetAt W w1 g5 g12 g14 g15 ao cap L l sc kc wa wn r :=
  ⟨below_of h.bel hb, h.s.below hb, h.box.below_ hb, h.row.below_ hb, h.sc.kept (by decide) hb, h.id.kept (by decide) hb⟩
theorem RGetAt.at_ {W w : World} {g5 g12 g14 g15 : Nat} {ao : Option Addr} {cap : Nat} {L : SetL} {l : List PK} {sc kc : Int} {wa : Option Addr} {wn : Nat} {r : ORow} (h : RGetAt W w g5 g12 g14 g15 ao cap L l sc kc wa wn r) (j : Nat) (hj : j < l.length) :
    w.cell? ⟨g14, j, none⟩ = some (.int .i64 l[j].1) ∧ w.cell? ⟨g15, j, none⟩ = some (.int .i64 l[j].2.1) := by
  obtain ⟨g, off, c, hv, -, hc⟩ := h.sc.at_ (by omega)
  cases hv
  obtain ⟨g', off', c', hv, -, hc'⟩ := h.id.at_ (by omega)
  cases hv
  have a := hc j _ (by rw [ints_get _ _ (by simpa using hj)])
  have b := hc' j _ (by rw [ints_get _ _ (by simpa using hj)])
  simp only [Nat.zero_add, List.getElem_map] at a b
  exact ⟨a, b⟩

theorem rget_keep {W w1 w2 : World} {g5 g12 g14 g15 : Nat} {ao : Option Addr} {cap : Nat} {L : SetL} {l : List PK} {sc kc : Int} {wa : Option Addr} {wn : Nat} {r : ORow} {j : Nat} {q : PK} (h : Hid (RGetAt W w1 g5 g12 g14 g15 ao cap L l sc kc wa wn r)) (hb : Hid (Below w1.heap.size w1 w2)) (hq : Hid (l[j]? = some q)) :
    w2.cell? ⟨g5, 0, none⟩ = some (.slice ao L.length cap) ∧ w2.cell? ⟨g14, j, none⟩ = some (.int .i64 q.1) ∧ w2.cell? ⟨g15, j, none⟩ = some (.int .i64 q.2.1) ∧ Hid (RGetAt W w2 g5 g12 g14 g15 ao cap L l sc kc wa wn r) := by
  have h2 := h.out.below hb.out
  obtain ⟨hj, he⟩ := List.getElem?_eq_some_iff.1 hq.out
  obtain ⟨a, b⟩ := h2.at_ j hj
  rw [he] at a b
  exact ⟨h2.box.cell 0, a, b, Lib.hid h2⟩

set_option maxHeartbeats 4000000 in
set_option maxRecDepth 100000 in
theorem rget_c (L : SetL) (ao : Option Addr) (cap : Nat) (name : ByteArray) (s wi p : Int) (w : World) (h : RSet w ao cap L) :
    Calls Tryd.prog 10 #[.agg #[.slice ao L.length cap], .string name, .int .i64 s, .int .i64 wi, .int .i64 p] w fun e w' =>
      e = .returned (.tuple #[.string (rgetVal (look L) name s wi p).1, .int .i64 (rgetVal (look L) name s wi p).2]) ∧ Hid (Below w.heap.size w w') := by
  have hb0 : Below w.heap.size w (w.alloc (.cells #[.slice ao L.length cap] 34)) := (Below.refl _ _).alloc (Nat.le_refl _) _
  have HS0 := Lib.hid (h.below hb0)
  have HX0 := Lib.hid (Blk.new w 34 #[.slice ao L.length cap])
  have HB0 := Lib.hid hb0
  clear h hb0
  go_enter Tryd.func10, Tryd.ntmps10
  go_wp2_with fail
  refine (rof_c _ _).mono ?_
  rintro e w1 ⟨b, wa, wn, -, -, -, rfl, -, HB⟩
  have HB1 := Lib.hid (below_of HB0.out HB.out)
  cases hr : rowOf name with
  | none =>
    have HV : Hid (rgetVal (look L) name s wi p = (⟨#[]⟩, 230)) := Lib.hid (by unfold rgetVal; rw [hr])
    clear hr
    go_wp2
    go_ret2
    exact ⟨by rw [HV.out]; rfl, Lib.hid (below_box HB1.out _)⟩
  | some r =>
    obtain ⟨hmem, -⟩ := rowOf_mem hr
    have hsc := scopes r hmem
    have hor : ofRow name = r := by unfold ofRow; rw [hr]; rfl
    have HV : Hid (rgetVal (look L) name s wi p = (((rplaces r.scope name s wi p).findSome? (look L)).getD r.first, 0)) := Lib.hid (by unfold rgetVal; rw [hr])
    rw [hor]
    obtain ⟨kc, hkc⟩ : ∃ kc, rkind r.kind = kc := ⟨_, rfl⟩
    rw [hkc]
    have HS1 := Lib.hid (HS0.out.below HB.out)
    have HX1 := Lib.hid (HX0.out.below_ HB.out)
    have hxl := HX1.out.lt
    clear hr hmem hor hkc HB HS0 HX0 HB0
    obtain ⟨sc, hsce⟩ : ∃ sc, r.scope = sc := ⟨_, rfl⟩
    rw [hsce] at hsc HV ⊢
    have HSC := Lib.hid hsce
    clear hsce
    rcases hsc with hsc | hsc | hsc | hsc
    · subst hsc
      have hl : rplaces 1 name s wi p = [(1, 0, name)] := rfl
      rw [hl] at HV
      obtain ⟨l, hll⟩ : ∃ l : List PK, [(1, 0, name)] = l := ⟨_, rfl⟩
      have hln : l.length = 1 := by rw [← hll]; rfl
      have hnm : ∀ q ∈ l, q.2.2 = name := by rw [← hll]; simp
      have hb2 : Below w1.heap.size w1 (((w1.alloc (.cells #[.string r.name, .int .i64 1, .int .u8 kc, .int .i64 r.lo, .int .i64 r.hi, .slice wa wn wn, .string r.first] 48)).alloc (.cells #[.int .i64 1] 3)).alloc (.cells #[.int .i64 0] 3)) := by
        have e : ∀ (w : World) (o : Obj), (w.alloc o).heap.size = w.heap.size + 1 := fun _ _ => by simp
        exact ((((Below.refl _ _).alloc (by exact Nat.le_refl _) _).alloc (by simp only [e]; omega) _).alloc (by simp only [e]; omega) _)
      have HG : Hid (RGetAt w (((w1.alloc (.cells #[.string r.name, .int .i64 1, .int .u8 kc, .int .i64 r.lo, .int .i64 r.hi, .slice wa wn wn, .string r.first] 48)).alloc (.cells #[.int .i64 1] 3)).alloc (.cells #[.int .i64 0] 3)) w.heap.size w1.heap.size (w1.heap.size + 1) (w1.heap.size + 2) ao cap L l 1 kc wa wn r) := Lib.hid ⟨below_of HB1.out hb2, HS1.out.below hb2, HX1.out.below_ hb2, (((Blk.new w1 48 #[.string r.name, .int .i64 1, .int .u8 kc, .int .i64 r.lo, .int .i64 r.hi, .slice wa wn wn, .string r.first]).alloc _).alloc _), by rw [hln, ← hll]; exact ((Rd.box (w := (w1.alloc (.cells #[.string r.name, .int .i64 1, .int .u8 kc, .int .i64 r.lo, .int .i64 r.hi, .slice wa wn wn, .string r.first] 48))) #[.int .i64 1] 3 1 1 (w1.heap.size + 1) (by simp) rfl).alloc _), by rw [hln, ← hll]; exact (Rd.box (w := ((w1.alloc (.cells #[.string r.name, .int .i64 1, .int .u8 kc, .int .i64 r.lo, .int .i64 r.hi, .slice wa wn wn, .string r.first] 48)).alloc (.cells #[.int .i64 1] 3))) #[.int .i64 0] 3 1 1 (w1.heap.size + 2) (by simp) rfl)⟩
      rw [hll] at HV
      have HNM := Lib.hid hnm
      clear hl hll hb2 hnm HB1 HS1 HX1
      go_wp2_with fail
      go_loopw [16] (fun i wr => ∃ j : Nat, j ≤ 1 ∧ i = .int .i64 j ∧ Hid ((l.take j).findSome? (look L) = none) ∧ Hid (RGetAt w wr w.heap.size w1.heap.size (w1.heap.size + 1) (w1.heap.size + 2) ao cap L l 1 kc wa wn r)) (fun i _ => 1 - (intOf i).toNat)
      case atStart => exact ⟨0, Nat.zero_le _, rfl, Lib.hid rfl, HG⟩
      case round =>
        clear HG
        obtain ⟨j, hj, rfl, HN, HG⟩ := hrel
        by_cases hlt : j < 1
        · obtain ⟨c0, c1⟩ := HG.out.at_ j (by omega)
          have x0 : wr.cell? ⟨w.heap.size, 0, none⟩ = some (.slice ao L.length cap) := HG.out.box.cell 0
          have hj0 : (0 : Int) ≤ (j : Int) := by omega
          have hj1 : (j : Int) < 1 := by omega
          have hq2 := HNM.out _ (List.getElem_mem (l := l) (n := j) (by omega))
          obtain ⟨q, hqe⟩ : ∃ q, l[j]'(by omega) = q := ⟨_, rfl⟩
          rw [hqe] at c0 c1 hq2
          have HQE := Lib.hid hqe
          have hqn : (q.1, q.2.1, name) = q := by rw [← hq2]
          have hat := at_c L ao cap q.1 q.2.1 name wr.drew (HG.out.s.below (below_drewN (Below.refl _ _) 1))
          rw [hqn] at hat
          have HQJ : Hid (l[j]? = some q) := Lib.hid (by rw [List.getElem?_eq_getElem (by omega), hqe])
          have HGD := Lib.hid (HG.out.below (w1 := wr.drew) (below_drewN (Below.refl _ _) 1))
          have HRF := Lib.hid (Below.refl wr.drew.heap.size wr.drew)
          clear hqe hq2 hqn c0 c1 x0
          cases hlq : look L q with
          | some v =>
            rw [hlq] at hat
            simp only [Option.getD_some, Option.isSome_some] at hat
            have HF : Hid (l.findSome? (look L) = some v) := Lib.hid (findSome_at HN.out (by omega) (by rw [HQE.out]; exact hlq))
            clear hlq
            go_wp2_with fail
            go_region_held3 (fun w' => w'.cell? ⟨w.heap.size, 0, none⟩ = some (.slice ao L.length cap) ∧ w'.cell? ⟨w1.heap.size + 1, j, none⟩ = some (.int .i64 q.1) ∧ w'.cell? ⟨w1.heap.size + 2, j, none⟩ = some (.int .i64 q.2.1) ∧ Hid (RGetAt w w' w.heap.size w1.heap.size (w1.heap.size + 1) (w1.heap.size + 2) ao cap L l 1 kc wa wn r))
              (first | exact rget_keep HGD HRF HQJ | exact rget_keep HGD HB2 HQJ)
              (first | (go_at_call 25; with_reducible refine hat.mono ?_; rintro e w2 ⟨rfl, HB2⟩))
            rename_i hh
            obtain ⟨-, -, -, HG2⟩ := hh
            go_wp2
            go_ret2
            exact ⟨by rw [HV.out, HF.out]; rfl, Lib.hid HG2.out.bel⟩
          | none =>
            rw [hlq] at hat
            simp only [Option.getD_none, Option.isSome_none] at hat
            have HF : Hid ((l.take (j + 1)).findSome? (look L) = none) := Lib.hid (findSome_next HN.out (by omega) (by rw [HQE.out]; exact hlq))
            clear hlq
            go_wp2_with fail
            go_region_held3 (fun w' => w'.cell? ⟨w.heap.size, 0, none⟩ = some (.slice ao L.length cap) ∧ w'.cell? ⟨w1.heap.size + 1, j, none⟩ = some (.int .i64 q.1) ∧ w'.cell? ⟨w1.heap.size + 2, j, none⟩ = some (.int .i64 q.2.1) ∧ Hid (RGetAt w w' w.heap.size w1.heap.size (w1.heap.size + 1) (w1.heap.size + 2) ao cap L l 1 kc wa wn r))
              (first | exact rget_keep HGD HRF HQJ | exact rget_keep HGD HB2 HQJ)
              (first | (go_at_call 25; with_reducible refine hat.mono ?_; rintro e w2 ⟨rfl, HB2⟩))
            rename_i hh
            obtain ⟨-, -, -, HG2⟩ := hh
            go_wp2
            go_roundw
            case rel => exact ⟨j + 1, by omega, by go_num, HF, HG2⟩
            case measure => simp [intOf]; omega
        · have hje : j = 1 := by omega
          subst hje
          have hfn : l.findSome? (look L) = none := by have := HN.out; rwa [List.take_of_length_le (by omega)] at this
          have HF := Lib.hid hfn
          obtain ⟨-, -, -, -, -, -, z6, -⟩ := seven HG.out.row
          clear hfn
          go_wp2
          go_ret2
          exact ⟨by rw [HV.out, HF.out]; rfl, Lib.hid HG.out.bel⟩
    · subst hsc
      have hl : rplaces 2 name s wi p = [(2, s, name), (2, 0, name)] := rfl
      rw [hl] at HV
      obtain ⟨l, hll⟩ : ∃ l : List PK, [(2, s, name), (2, 0, name)] = l := ⟨_, rfl⟩
      have hln : l.length = 2 := by rw [← hll]; rfl
      have hnm : ∀ q ∈ l, q.2.2 = name := by rw [← hll]; simp
      have hb2 : Below w1.heap.size w1 (((((w1.alloc (.cells #[.string r.name, .int .i64 2, .int .u8 kc, .int .i64 r.lo, .int .i64 r.hi, .slice wa wn wn, .string r.first] 48)).alloc (.cells #[.int .i64 1] 3)).alloc (.cells #[.int .i64 0] 3)).alloc (.cells #[.int .i64 2, .int .i64 2] 3)).alloc (.cells #[.int .i64 s, .int .i64 0] 3)) := by
        have e : ∀ (w : World) (o : Obj), (w.alloc o).heap.size = w.heap.size + 1 := fun _ _ => by simp
        exact ((((((Below.refl _ _).alloc (by exact Nat.le_refl _) _).alloc (by simp only [e]; omega) _).alloc (by simp only [e]; omega) _).alloc (by simp only [e]; omega) _).alloc (by simp only [e]; omega) _)
      have HG : Hid (RGetAt w (((((w1.alloc (.cells #[.string r.name, .int .i64 2, .int .u8 kc, .int .i64 r.lo, .int .i64 r.hi, .slice wa wn wn, .string r.first] 48)).alloc (.cells #[.int .i64 1] 3)).alloc (.cells #[.int .i64 0] 3)).alloc (.cells #[.int .i64 2, .int .i64 2] 3)).alloc (.cells #[.int .i64 s, .int .i64 0] 3)) w.heap.size w1.heap.size (w1.heap.size + 3) (w1.heap.size + 4) ao cap L l 2 kc wa wn r) := Lib.hid ⟨below_of HB1.out hb2, HS1.out.below hb2, HX1.out.below_ hb2, (((((Blk.new w1 48 #[.string r.name, .int .i64 2, .int .u8 kc, .int .i64 r.lo, .int .i64 r.hi, .slice wa wn wn, .string r.first]).alloc _).alloc _).alloc _).alloc _), by rw [hln, ← hll]; exact ((Rd.box (w := (((w1.alloc (.cells #[.string r.name, .int .i64 2, .int .u8 kc, .int .i64 r.lo, .int .i64 r.hi, .slice wa wn wn, .string r.first] 48)).alloc (.cells #[.int .i64 1] 3)).alloc (.cells #[.int .i64 0] 3))) #[.int .i64 2, .int .i64 2] 3 1 2 (w1.heap.size + 3) (by simp) rfl).alloc _), by rw [hln, ← hll]; exact (Rd.box (w := ((((w1.alloc (.cells #[.string r.name, .int .i64 2, .int .u8 kc, .int .i64 r.lo, .int .i64 r.hi, .slice wa wn wn, .string r.first] 48)).alloc (.cells #[.int .i64 1] 3)).alloc (.cells #[.int .i64 0] 3)).alloc (.cells #[.int .i64 2, .int .i64 2] 3))) #[.int .i64 s, .int .i64 0] 3 1 2 (w1.heap.size + 4) (by simp) rfl)⟩
      rw [hll] at HV
      have HNM := Lib.hid hnm
      clear hl hll hb2 hnm HB1 HS1 HX1
      go_wp2_with fail
      go_loopw [16] (fun i wr => ∃ j : Nat, j ≤ 2 ∧ i = .int .i64 j ∧ Hid ((l.take j).findSome? (look L) = none) ∧ Hid (RGetAt w wr w.heap.size w1.heap.size (w1.heap.size + 3) (w1.heap.size + 4) ao cap L l 2 kc wa wn r)) (fun i _ => 2 - (intOf i).toNat)
      case atStart => exact ⟨0, Nat.zero_le _, rfl, Lib.hid rfl, HG⟩
      case round =>
        clear HG
        obtain ⟨j, hj, rfl, HN, HG⟩ := hrel
        by_cases hlt : j < 2
        · obtain ⟨c0, c1⟩ := HG.out.at_ j (by omega)
          have x0 : wr.cell? ⟨w.heap.size, 0, none⟩ = some (.slice ao L.length cap) := HG.out.box.cell 0
          have hj0 : (0 : Int) ≤ (j : Int) := by omega
          have hj1 : (j : Int) < 2 := by omega
          have hq2 := HNM.out _ (List.getElem_mem (l := l) (n := j) (by omega))
          obtain ⟨q, hqe⟩ : ∃ q, l[j]'(by omega) = q := ⟨_, rfl⟩
          rw [hqe] at c0 c1 hq2
          have HQE := Lib.hid hqe
          have hqn : (q.1, q.2.1, name) = q := by rw [← hq2]
          have hat := at_c L ao cap q.1 q.2.1 name wr.drew (HG.out.s.below (below_drewN (Below.refl _ _) 1))
          rw [hqn] at hat
          have HQJ : Hid (l[j]? = some q) := Lib.hid (by rw [List.getElem?_eq_getElem (by omega), hqe])
          have HGD := Lib.hid (HG.out.below (w1 := wr.drew) (below_drewN (Below.refl _ _) 1))
          have HRF := Lib.hid (Below.refl wr.drew.heap.size wr.drew)
          clear hqe hq2 hqn c0 c1 x0
          cases hlq : look L q with
          | some v =>
            rw [hlq] at hat
            simp only [Option.getD_some, Option.isSome_some] at hat
            have HF : Hid (l.findSome? (look L) = some v) := Lib.hid (findSome_at HN.out (by omega) (by rw [HQE.out]; exact hlq))
            clear hlq
            go_wp2_with fail
            go_region_held3 (fun w' => w'.cell? ⟨w.heap.size, 0, none⟩ = some (.slice ao L.length cap) ∧ w'.cell? ⟨w1.heap.size + 3, j, none⟩ = some (.int .i64 q.1) ∧ w'.cell? ⟨w1.heap.size + 4, j, none⟩ = some (.int .i64 q.2.1) ∧ Hid (RGetAt w w' w.heap.size w1.heap.size (w1.heap.size + 3) (w1.heap.size + 4) ao cap L l 2 kc wa wn r))
              (first | exact rget_keep HGD HRF HQJ | exact rget_keep HGD HB2 HQJ)
              (first | (go_at_call 25; with_reducible refine hat.mono ?_; rintro e w2 ⟨rfl, HB2⟩))
            rename_i hh
            obtain ⟨-, -, -, HG2⟩ := hh
            go_wp2
            go_ret2
            exact ⟨by rw [HV.out, HF.out]; rfl, Lib.hid HG2.out.bel⟩
          | none =>
            rw [hlq] at hat
            simp only [Option.getD_none, Option.isSome_none] at hat
            have HF : Hid ((l.take (j + 1)).findSome? (look L) = none) := Lib.hid (findSome_next HN.out (by omega) (by rw [HQE.out]; exact hlq))
            clear hlq
            go_wp2_with fail
            go_region_held3 (fun w' => w'.cell? ⟨w.heap.size, 0, none⟩ = some (.slice ao L.length cap) ∧ w'.cell? ⟨w1.heap.size + 3, j, none⟩ = some (.int .i64 q.1) ∧ w'.cell? ⟨w1.heap.size + 4, j, none⟩ = some (.int .i64 q.2.1) ∧ Hid (RGetAt w w' w.heap.size w1.heap.size (w1.heap.size + 3) (w1.heap.size + 4) ao cap L l 2 kc wa wn r))
              (first | exact rget_keep HGD HRF HQJ | exact rget_keep HGD HB2 HQJ)
              (first | (go_at_call 25; with_reducible refine hat.mono ?_; rintro e w2 ⟨rfl, HB2⟩))
            rename_i hh
            obtain ⟨-, -, -, HG2⟩ := hh
            go_wp2
            go_roundw
            case rel => exact ⟨j + 1, by omega, by go_num, HF, HG2⟩
            case measure => simp [intOf]; omega
        · have hje : j = 2 := by omega
          subst hje
          have hfn : l.findSome? (look L) = none := by have := HN.out; rwa [List.take_of_length_le (by omega)] at this
          have HF := Lib.hid hfn
          obtain ⟨-, -, -, -, -, -, z6, -⟩ := seven HG.out.row
          clear hfn
          go_wp2
          go_ret2
          exact ⟨by rw [HV.out, HF.out]; rfl, Lib.hid HG.out.bel⟩
    · subst hsc
      have hl : rplaces 3 name s wi p = [(3, wi, name), (3, 0, name)] := rfl
      rw [hl] at HV
      obtain ⟨l, hll⟩ : ∃ l : List PK, [(3, wi, name), (3, 0, name)] = l := ⟨_, rfl⟩
      have hln : l.length = 2 := by rw [← hll]; rfl
      have hnm : ∀ q ∈ l, q.2.2 = name := by rw [← hll]; simp
      have hb2 : Below w1.heap.size w1 (((((w1.alloc (.cells #[.string r.name, .int .i64 3, .int .u8 kc, .int .i64 r.lo, .int .i64 r.hi, .slice wa wn wn, .string r.first] 48)).alloc (.cells #[.int .i64 1] 3)).alloc (.cells #[.int .i64 0] 3)).alloc (.cells #[.int .i64 3, .int .i64 3] 3)).alloc (.cells #[.int .i64 wi, .int .i64 0] 3)) := by
        have e : ∀ (w : World) (o : Obj), (w.alloc o).heap.size = w.heap.size + 1 := fun _ _ => by simp
        exact ((((((Below.refl _ _).alloc (by exact Nat.le_refl _) _).alloc (by simp only [e]; omega) _).alloc (by simp only [e]; omega) _).alloc (by simp only [e]; omega) _).alloc (by simp only [e]; omega) _)
      have HG : Hid (RGetAt w (((((w1.alloc (.cells #[.string r.name, .int .i64 3, .int .u8 kc, .int .i64 r.lo, .int .i64 r.hi, .slice wa wn wn, .string r.first] 48)).alloc (.cells #[.int .i64 1] 3)).alloc (.cells #[.int .i64 0] 3)).alloc (.cells #[.int .i64 3, .int .i64 3] 3)).alloc (.cells #[.int .i64 wi, .int .i64 0] 3)) w.heap.size w1.heap.size (w1.heap.size + 3) (w1.heap.size + 4) ao cap L l 3 kc wa wn r) := Lib.hid ⟨below_of HB1.out hb2, HS1.out.below hb2, HX1.out.below_ hb2, (((((Blk.new w1 48 #[.string r.name, .int .i64 3, .int .u8 kc, .int .i64 r.lo, .int .i64 r.hi, .slice wa wn wn, .string r.first]).alloc _).alloc _).alloc _).alloc _), by rw [hln, ← hll]; exact ((Rd.box (w := (((w1.alloc (.cells #[.string r.name, .int .i64 3, .int .u8 kc, .int .i64 r.lo, .int .i64 r.hi, .slice wa wn wn, .string r.first] 48)).alloc (.cells #[.int .i64 1] 3)).alloc (.cells #[.int .i64 0] 3))) #[.int .i64 3, .int .i64 3] 3 1 2 (w1.heap.size + 3) (by simp) rfl).alloc _), by rw [hln, ← hll]; exact (Rd.box (w := ((((w1.alloc (.cells #[.string r.name, .int .i64 3, .int .u8 kc, .int .i64 r.lo, .int .i64 r.hi, .slice wa wn wn, .string r.first] 48)).alloc (.cells #[.int .i64 1] 3)).alloc (.cells #[.int .i64 0] 3)).alloc (.cells #[.int .i64 3, .int .i64 3] 3))) #[.int .i64 wi, .int .i64 0] 3 1 2 (w1.heap.size + 4) (by simp) rfl)⟩
      rw [hll] at HV
      have HNM := Lib.hid hnm
      clear hl hll hb2 hnm HB1 HS1 HX1
      go_wp2_with fail
      go_loopw [16] (fun i wr => ∃ j : Nat, j ≤ 2 ∧ i = .int .i64 j ∧ Hid ((l.take j).findSome? (look L) = none) ∧ Hid (RGetAt w wr w.heap.size w1.heap.size (w1.heap.size + 3) (w1.heap.size + 4) ao cap L l 3 kc wa wn r)) (fun i _ => 2 - (intOf i).toNat)
      case atStart => exact ⟨0, Nat.zero_le _, rfl, Lib.hid rfl, HG⟩
      case round =>
        clear HG
        obtain ⟨j, hj, rfl, HN, HG⟩ := hrel
        by_cases hlt : j < 2
        · obtain ⟨c0, c1⟩ := HG.out.at_ j (by omega)
          have x0 : wr.cell? ⟨w.heap.size, 0, none⟩ = some (.slice ao L.length cap) := HG.out.box.cell 0
          have hj0 : (0 : Int) ≤ (j : Int) := by omega
          have hj1 : (j : Int) < 2 := by omega
          have hq2 := HNM.out _ (List.getElem_mem (l := l) (n := j) (by omega))
          obtain ⟨q, hqe⟩ : ∃ q, l[j]'(by omega) = q := ⟨_, rfl⟩
          rw [hqe] at c0 c1 hq2
          have HQE := Lib.hid hqe
          have hqn : (q.1, q.2.1, name) = q := by rw [← hq2]
          have hat := at_c L ao cap q.1 q.2.1 name wr.drew (HG.out.s.below (below_drewN (Below.refl _ _) 1))
          rw [hqn] at hat
          have HQJ : Hid (l[j]? = some q) := Lib.hid (by rw [List.getElem?_eq_getElem (by omega), hqe])
          have HGD := Lib.hid (HG.out.below (w1 := wr.drew) (below_drewN (Below.refl _ _) 1))
          have HRF := Lib.hid (Below.refl wr.drew.heap.size wr.drew)
          clear hqe hq2 hqn c0 c1 x0
          cases hlq : look L q with
          | some v =>
            rw [hlq] at hat
            simp only [Option.getD_some, Option.isSome_some] at hat
            have HF : Hid (l.findSome? (look L) = some v) := Lib.hid (findSome_at HN.out (by omega) (by rw [HQE.out]; exact hlq))
            clear hlq
            go_wp2_with fail
            go_region_held3 (fun w' => w'.cell? ⟨w.heap.size, 0, none⟩ = some (.slice ao L.length cap) ∧ w'.cell? ⟨w1.heap.size + 3, j, none⟩ = some (.int .i64 q.1) ∧ w'.cell? ⟨w1.heap.size + 4, j, none⟩ = some (.int .i64 q.2.1) ∧ Hid (RGetAt w w' w.heap.size w1.heap.size (w1.heap.size + 3) (w1.heap.size + 4) ao cap L l 3 kc wa wn r))
              (first | exact rget_keep HGD HRF HQJ | exact rget_keep HGD HB2 HQJ)
              (first | (go_at_call 25; with_reducible refine hat.mono ?_; rintro e w2 ⟨rfl, HB2⟩))
            rename_i hh
            obtain ⟨-, -, -, HG2⟩ := hh
            go_wp2
            go_ret2
            exact ⟨by rw [HV.out, HF.out]; rfl, Lib.hid HG2.out.bel⟩
          | none =>
            rw [hlq] at hat
            simp only [Option.getD_none, Option.isSome_none] at hat
            have HF : Hid ((l.take (j + 1)).findSome? (look L) = none) := Lib.hid (findSome_next HN.out (by omega) (by rw [HQE.out]; exact hlq))
            clear hlq
            go_wp2_with fail
            go_region_held3 (fun w' => w'.cell? ⟨w.heap.size, 0, none⟩ = some (.slice ao L.length cap) ∧ w'.cell? ⟨w1.heap.size + 3, j, none⟩ = some (.int .i64 q.1) ∧ w'.cell? ⟨w1.heap.size + 4, j, none⟩ = some (.int .i64 q.2.1) ∧ Hid (RGetAt w w' w.heap.size w1.heap.size (w1.heap.size + 3) (w1.heap.size + 4) ao cap L l 3 kc wa wn r))
              (first | exact rget_keep HGD HRF HQJ | exact rget_keep HGD HB2 HQJ)
              (first | (go_at_call 25; with_reducible refine hat.mono ?_; rintro e w2 ⟨rfl, HB2⟩))
            rename_i hh
            obtain ⟨-, -, -, HG2⟩ := hh
            go_wp2
            go_roundw
            case rel => exact ⟨j + 1, by omega, by go_num, HF, HG2⟩
            case measure => simp [intOf]; omega
        · have hje : j = 2 := by omega
          subst hje
          have hfn : l.findSome? (look L) = none := by have := HN.out; rwa [List.take_of_length_le (by omega)] at this
          have HF := Lib.hid hfn
          obtain ⟨-, -, -, -, -, -, z6, -⟩ := seven HG.out.row
          clear hfn
          go_wp2
          go_ret2
          exact ⟨by rw [HV.out, HF.out]; rfl, Lib.hid HG.out.bel⟩
    · subst hsc
      have hl : rplaces 4 name s wi p = [(4, p, name), (3, wi, name), (4, 0, name), (3, 0, name)] := rfl
      rw [hl] at HV
      obtain ⟨l, hll⟩ : ∃ l : List PK, [(4, p, name), (3, wi, name), (4, 0, name), (3, 0, name)] = l := ⟨_, rfl⟩
      have hln : l.length = 4 := by rw [← hll]; rfl
      have hnm : ∀ q ∈ l, q.2.2 = name := by rw [← hll]; simp
      have hb2 : Below w1.heap.size w1 (((((w1.alloc (.cells #[.string r.name, .int .i64 4, .int .u8 kc, .int .i64 r.lo, .int .i64 r.hi, .slice wa wn wn, .string r.first] 48)).alloc (.cells #[.int .i64 1] 3)).alloc (.cells #[.int .i64 0] 3)).alloc (.cells #[.int .i64 4, .int .i64 3, .int .i64 4, .int .i64 3] 3)).alloc (.cells #[.int .i64 p, .int .i64 wi, .int .i64 0, .int .i64 0] 3)) := by
        have e : ∀ (w : World) (o : Obj), (w.alloc o).heap.size = w.heap.size + 1 := fun _ _ => by simp
        exact ((((((Below.refl _ _).alloc (by exact Nat.le_refl _) _).alloc (by simp only [e]; omega) _).alloc (by simp only [e]; omega) _).alloc (by simp only [e]; omega) _).alloc (by simp only [e]; omega) _)
      have HG : Hid (RGetAt w (((((w1.alloc (.cells #[.string r.name, .int .i64 4, .int .u8 kc, .int .i64 r.lo, .int .i64 r.hi, .slice wa wn wn, .string r.first] 48)).alloc (.cells #[.int .i64 1] 3)).alloc (.cells #[.int .i64 0] 3)).alloc (.cells #[.int .i64 4, .int .i64 3, .int .i64 4, .int .i64 3] 3)).alloc (.cells #[.int .i64 p, .int .i64 wi, .int .i64 0, .int .i64 0] 3)) w.heap.size w1.heap.size (w1.heap.size + 3) (w1.heap.size + 4) ao cap L l 4 kc wa wn r) := Lib.hid ⟨below_of HB1.out hb2, HS1.out.below hb2, HX1.out.below_ hb2, (((((Blk.new w1 48 #[.string r.name, .int .i64 4, .int .u8 kc, .int .i64 r.lo, .int .i64 r.hi, .slice wa wn wn, .string r.first]).alloc _).alloc _).alloc _).alloc _), by rw [hln, ← hll]; exact ((Rd.box (w := (((w1.alloc (.cells #[.string r.name, .int .i64 4, .int .u8 kc, .int .i64 r.lo, .int .i64 r.hi, .slice wa wn wn, .string r.first] 48)).alloc (.cells #[.int .i64 1] 3)).alloc (.cells #[.int .i64 0] 3))) #[.int .i64 4, .int .i64 3, .int .i64 4, .int .i64 3] 3 1 4 (w1.heap.size + 3) (by simp) rfl).alloc _), by rw [hln, ← hll]; exact (Rd.box (w := ((((w1.alloc (.cells #[.string r.name, .int .i64 4, .int .u8 kc, .int .i64 r.lo, .int .i64 r.hi, .slice wa wn wn, .string r.first] 48)).alloc (.cells #[.int .i64 1] 3)).alloc (.cells #[.int .i64 0] 3)).alloc (.cells #[.int .i64 4, .int .i64 3, .int .i64 4, .int .i64 3] 3))) #[.int .i64 p, .int .i64 wi, .int .i64 0, .int .i64 0] 3 1 4 (w1.heap.size + 4) (by simp) rfl)⟩
      rw [hll] at HV
      have HNM := Lib.hid hnm
      clear hl hll hb2 hnm HB1 HS1 HX1
      go_wp2_with fail
      go_loopw [16] (fun i wr => ∃ j : Nat, j ≤ 4 ∧ i = .int .i64 j ∧ Hid ((l.take j).findSome? (look L) = none) ∧ Hid (RGetAt w wr w.heap.size w1.heap.size (w1.heap.size + 3) (w1.heap.size + 4) ao cap L l 4 kc wa wn r)) (fun i _ => 4 - (intOf i).toNat)
      case atStart => exact ⟨0, Nat.zero_le _, rfl, Lib.hid rfl, HG⟩
      case round =>
        clear HG
        obtain ⟨j, hj, rfl, HN, HG⟩ := hrel
        by_cases hlt : j < 4
        · obtain ⟨c0, c1⟩ := HG.out.at_ j (by omega)
          have x0 : wr.cell? ⟨w.heap.size, 0, none⟩ = some (.slice ao L.length cap) := HG.out.box.cell 0
          have hj0 : (0 : Int) ≤ (j : Int) := by omega
          have hj1 : (j : Int) < 4 := by omega
          have hq2 := HNM.out _ (List.getElem_mem (l := l) (n := j) (by omega))
          obtain ⟨q, hqe⟩ : ∃ q, l[j]'(by omega) = q := ⟨_, rfl⟩
          rw [hqe] at c0 c1 hq2
          have HQE := Lib.hid hqe
          have hqn : (q.1, q.2.1, name) = q := by rw [← hq2]
          have hat := at_c L ao cap q.1 q.2.1 name wr.drew (HG.out.s.below (below_drewN (Below.refl _ _) 1))
          rw [hqn] at hat
          have HQJ : Hid (l[j]? = some q) := Lib.hid (by rw [List.getElem?_eq_getElem (by omega), hqe])
          have HGD := Lib.hid (HG.out.below (w1 := wr.drew) (below_drewN (Below.refl _ _) 1))
          have HRF := Lib.hid (Below.refl wr.drew.heap.size wr.drew)
          clear hqe hq2 hqn c0 c1 x0
          cases hlq : look L q with
          | some v =>
            rw [hlq] at hat
            simp only [Option.getD_some, Option.isSome_some] at hat
            have HF : Hid (l.findSome? (look L) = some v) := Lib.hid (findSome_at HN.out (by omega) (by rw [HQE.out]; exact hlq))
            clear hlq
            go_wp2_with fail
            go_region_held3 (fun w' => w'.cell? ⟨w.heap.size, 0, none⟩ = some (.slice ao L.length cap) ∧ w'.cell? ⟨w1.heap.size + 3, j, none⟩ = some (.int .i64 q.1) ∧ w'.cell? ⟨w1.heap.size + 4, j, none⟩ = some (.int .i64 q.2.1) ∧ Hid (RGetAt w w' w.heap.size w1.heap.size (w1.heap.size + 3) (w1.heap.size + 4) ao cap L l 4 kc wa wn r))
              (first | exact rget_keep HGD HRF HQJ | exact rget_keep HGD HB2 HQJ)
              (first | (go_at_call 25; with_reducible refine hat.mono ?_; rintro e w2 ⟨rfl, HB2⟩))
            rename_i hh
            obtain ⟨-, -, -, HG2⟩ := hh
            go_wp2
            go_ret2
            exact ⟨by rw [HV.out, HF.out]; rfl, Lib.hid HG2.out.bel⟩
          | none =>
            rw [hlq] at hat
            simp only [Option.getD_none, Option.isSome_none] at hat
            have HF : Hid ((l.take (j + 1)).findSome? (look L) = none) := Lib.hid (findSome_next HN.out (by omega) (by rw [HQE.out]; exact hlq))
            clear hlq
            go_wp2_with fail
            go_region_held3 (fun w' => w'.cell? ⟨w.heap.size, 0, none⟩ = some (.slice ao L.length cap) ∧ w'.cell? ⟨w1.heap.size + 3, j, none⟩ = some (.int .i64 q.1) ∧ w'.cell? ⟨w1.heap.size + 4, j, none⟩ = some (.int .i64 q.2.1) ∧ Hid (RGetAt w w' w.heap.size w1.heap.size (w1.heap.size + 3) (w1.heap.size + 4) ao cap L l 4 kc wa wn r))
              (first | exact rget_keep HGD HRF HQJ | exact rget_keep HGD HB2 HQJ)
              (first | (go_at_call 25; with_reducible refine hat.mono ?_; rintro e w2 ⟨rfl, HB2⟩))
            rename_i hh
            obtain ⟨-, -, -, HG2⟩ := hh
            go_wp2
            go_roundw
            case rel => exact ⟨j + 1, by omega, by go_num, HF, HG2⟩
            case measure => simp [intOf]; omega
        · have hje : j = 4 := by omega
          subst hje
          have hfn : l.findSome? (look L) = none := by have := HN.out; rwa [List.take_of_length_le (by omega)] at this
          have HF := Lib.hid hfn
          obtain ⟨-, -, -, -, -, -, z6, -⟩ := seven HG.out.row
          clear hfn
          go_wp2
          go_ret2
          exact ⟨by rw [HV.out, HF.out]; rfl, Lib.hid HG.out.bel⟩
end Go.Proofs.YtlmnhdpahmaccaaDoor
