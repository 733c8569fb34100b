/- QueueOwn, walked. -/
import Derived.Test.YtbfmfliknhcoeaaZ5
import Derived.Test.YtbfmfliknhcoeaaZ4
namespace Go.Proofs.Ytbfmfliknhcoeaa
open Go.RowKit QP

/-- both lists, and what append made of each so far -/
structure TwoM (w2 wr : World) (ao bo : Option Addr) (ca cb n k : Nat) (c d : Value) : Prop where
  ma : Made w2 wr ao ca n (-1) (-3) k c
  mb : Made w2 wr bo cb n (-2) (-4) k d
  bel : Below w2.heap.size w2 wr
  cd : ∀ j, c.ownBlock = some j → d.ownBlock ≠ some j
  cb_ : ∀ j, c.ownBlock = some j → (Value.slice bo n cb).ownBlock ≠ some j
  da : ∀ j, d.ownBlock = some j → (Value.slice ao n ca).ownBlock ≠ some j
  a0 : ∀ j, (Value.slice ao n ca).ownBlock = some j → j < wr.heap.size
  b0 : ∀ j, (Value.slice bo n cb).ownBlock = some j → j < wr.heap.size

theorem two_right {n m k : Nat} (x y : Int) (h : ¬ k < n) (hk : k < n + m) : (ints (List.replicate n x ++ List.replicate m y))[k]? = some (.int .i64 y) := by
  have h1 : (List.replicate n x ++ List.replicate m y)[k]? = some y := by
    rw [List.getElem?_append_right (by simp; omega), List.getElem?_replicate, if_pos (by simp; omega)]
  simp only [ints, List.getElem?_map, h1]
  rfl

theorem Over.made {w2 wr : World} {ao bo : Option Addr} {ca cb n : Nat} (h : Over w2 wr ao bo ca cb n n) : TwoM w2 wr ao bo ca cb n 0 (.slice ao n ca) (.slice bo n cb) := by
  obtain ⟨ys, hy1, hy2, hy3⟩ := h.a
  obtain ⟨zs, hz1, hz2, hz3⟩ := h.b
  rw [all_is hy1 hy3] at hy2
  rw [all_is hz1 hz3] at hz2
  exact ⟨.start hy2 h.a0, .start hz2 h.b0, h.bel, h.ne, h.ne, fun j hj e => h.ne j e hj, hy2.lt, hz2.lt⟩

section
variable {w2 wr w1 : World} {ao bo : Option Addr} {ca cb n k : Nat} {c d c' d' : Value} {co : Option Addr} {cc : Nat} {o : Obj}
theorem TwoM.left (h : TwoM w2 wr ao bo ca cb n k (.slice co (n + k) cc) d) (hrow : Row w1 3 1 c' (n + k + 1) (ints (List.replicate n (-1) ++ List.replicate k (-3)) ++ [.int .i64 (-3)]))
    (hmod : Mod (fun j => (Value.slice co (n + k) cc).ownBlock = some j) (wr.alloc o) w1) (he : c' = .slice co (n + k + 1) cc ∨ (c'.ownBlock = some (wr.alloc o).heap.size ∧ Below (wr.alloc o).heap.size (wr.alloc o) w1)) :
    Made w2 w1 ao ca n (-1) (-3) (k + 1) c' ∧ Made w2 w1 bo cb n (-2) (-4) k d ∧ Below w2.heap.size w2 w1 ∧ (∀ j, c'.ownBlock = some j → d.ownBlock ≠ some j) ∧ (∀ j, c'.ownBlock = some j → (Value.slice bo n cb).ownBlock ≠ some j) ∧ wr.heap.size < w1.heap.size := by
  have hs := h.bel.size
  have hown : ∀ j, c'.ownBlock = some j → (Value.slice co (n + k) cc).ownBlock = some j ∨ wr.heap.size ≤ j := by
    intro j hj
    rcases he with rfl | ⟨e, -⟩
    · left; rw [← hj]; cases co <;> rfl
    · right; rw [e] at hj; injection hj with hj; simp at hj; omega
  have hal : Mod (fun _ => False) wr (wr.alloc o) := (Mod.refl _ _).alloc _
  refine ⟨h.ma.next hrow hmod he hs, (h.mb.mod hal (fun _ _ e => e) (fun _ _ e => e)).mod hmod (fun j hj e => h.cd j e hj) (fun j hj e => h.cb_ j e hj), ?_, fun j hj e => ?_, fun j hj e => ?_, by have := hmod.size; simp at this; omega⟩
  · exact below_mod (h.bel.alloc hs _) hmod (Nat.le_trans hs hal.size) fun i hi e => by have := h.ma.far i e; omega
  · rcases hown j hj with e2 | e2
    · exact h.cd j e2 e
    · have := h.mb.row.lt j e; omega
  · rcases hown j hj with e2 | e2
    · exact h.cb_ j e2 e
    · have := h.b0 j e; omega
theorem TwoM.right {do_ : Option Addr} {dc : Nat} {w3 : World} {o2 : Obj} (h : TwoM w2 wr ao bo ca cb n k c (.slice do_ (n + k) dc)) (hsz : wr.heap.size ≤ w1.heap.size)
    (h1 : Made w2 w1 ao ca n (-1) (-3) (k + 1) c') (h2 : Made w2 w1 bo cb n (-2) (-4) k (.slice do_ (n + k) dc)) (h3 : Below w2.heap.size w2 w1) (h4 : ∀ j, c'.ownBlock = some j → (Value.slice do_ (n + k) dc).ownBlock ≠ some j) (h5 : ∀ j, c'.ownBlock = some j → (Value.slice bo n cb).ownBlock ≠ some j)
    (hrow : Row w3 3 1 d' (n + k + 1) (ints (List.replicate n (-2) ++ List.replicate k (-4)) ++ [.int .i64 (-4)]))
    (hmod : Mod (fun j => (Value.slice do_ (n + k) dc).ownBlock = some j) (w1.alloc o2) w3) (he : d' = .slice do_ (n + k + 1) dc ∨ (d'.ownBlock = some (w1.alloc o2).heap.size ∧ Below (w1.alloc o2).heap.size (w1.alloc o2) w3)) :
    TwoM w2 w3 ao bo ca cb n (k + 1) c' d' := by
  have hs := h3.size
  have hown : ∀ j, d'.ownBlock = some j → (Value.slice do_ (n + k) dc).ownBlock = some j ∨ w1.heap.size ≤ j := by
    intro j hj
    rcases he with rfl | ⟨e, -⟩
    · left; rw [← hj]; cases do_ <;> rfl
    · right; rw [e] at hj; injection hj with hj; simp at hj; omega
  have hal : Mod (fun _ => False) w1 (w1.alloc o2) := (Mod.refl _ _).alloc _
  have hms := hmod.size
  simp at hms
  refine ⟨(h1.mod hal (fun _ _ e => e) (fun _ _ e => e)).mod hmod (fun j hj e => h4 j hj e) (fun j hj e => h.da j e hj), h2.next hrow hmod he hs, ?_, fun j hj e => ?_, h5, fun j hj e => ?_, fun j hj => by have := h.a0 j hj; omega, fun j hj => by have := h.b0 j hj; omega⟩
  · exact below_mod (h3.alloc hs _) hmod (Nat.le_trans hs hal.size) fun i hi e => by have := h2.far i e; omega
  · rcases hown j e with e2 | e2
    · exact h4 j hj e2
    · have := h1.row.lt j hj; omega
  · rcases hown j hj with e2 | e2
    · exact h.da j e2 e
    · have := h.a0 j e; omega
end

set_option maxHeartbeats 1000000 in
set_option maxRecDepth 100000 in
theorem own_c (limit : Int) (so : Option Addr) (scap : Nat) (xs : List OpAt) (w : World) (hs : Script w so scap xs) :
    Calls Try.prog 11 #[.int .i64 limit, .slice so xs.length scap] w fun e w' => e = .returned (.bool true) ∧ Below w.heap.size w w' := by
  have HS := Lib.hid hs
  clear hs
  obtain ⟨i0, hi0, hz0, hz1, hz2⟩ := info_parts info3
  by_cases hl : limit < 0 ∨ 65536 < limit
  · go_enter Try.func11, Try.ntmps11
    go_wp2_with fail
    refine (behind_no limit so xs.length scap w hl).mono ?_
    rintro e w1 ⟨rfl, HB⟩
    go_wp2
    go_ret
    exact ⟨rfl, HB.out.alloc HB.out.size _⟩
  · go_enter Try.func11, Try.ntmps11
    go_wp2_with fail
    refine (behind_c limit so scap xs w (by omega) (by omega) HS.out).mono ?_
    rintro e w1 ⟨b, g, r, bo, m, bc, s, rfl, HB, hi⟩
    have hl0 := hi.fits.len
    have HL := Lib.hid ((live_of (fun _ => False) HB hi (Below.refl _ _) (fun _ h => h.elim)).more _ rfl (.cells #[.int .i64 s.limit, .slice bo m bc, .bool s.closed] 29))
    have HB6 := Lib.hid (Blk.new w1 29 #[.int .i64 s.limit, .slice bo m bc, .bool s.closed])
    have HW2 : Hid (w1.heap.size < (w1.alloc (.cells #[.int .i64 s.limit, .slice bo m bc, .bool s.closed] 29)).heap.size) := Lib.hid (by simp)
    clear hi hl HB
    go_wp2_with fail
    refine (h22r (Lib.hid HL.out.both.own.q) hl0).mono ?_
    rintro e w3 ⟨ps, ao, ca, rfl, HP, HA, HA0, HB3⟩
    have HL3 := Lib.hid (HL.out.below HB3.out)
    go_wp2_with fail
    refine (h22r (Lib.hid HL3.out.both.own.q) hl0).mono ?_
    rintro e w4 ⟨ps', zo, cb, rfl, HP', HZ, HZ0, HB4⟩
    obtain rfl := HP.out.unique HP'.out
    have HL4 := Lib.hid (HL3.out.below HB4.out)
    have h63 : Blk w3 w1.heap.size 29 _ := (HB3.out.block _ HB6.out.lt).trans HB6.out
    have h64 : Blk w4 w1.heap.size 29 _ := (HB4.out.block _ h63.lt).trans h63
    have HB64 := Lib.hid h64
    obtain ⟨z0, z1, z2, -⟩ := h64.six
    clear h63 h64 HP' HL3
    go_wp2_with fail
    refine (h23r (Lib.hid HL4.out.both.rr) hl0).mono ?_
    rintro e w5 ⟨wo, n5, c5, rfl, HT, HB5⟩
    have HL5 := Lib.hid (HL4.out.below HB5.out)
    have h65 : Blk w5 w1.heap.size 29 _ := (HB5.out.block _ HB64.out.lt).trans HB64.out
    have HB65 := Lib.hid h65
    have HA5 := Lib.hid ((HA.out.below HB4.out HA.out.lt).below HB5.out fun k hk => Nat.lt_of_lt_of_le (HA.out.lt k hk) HB4.out.size)
    have HZ5 := Lib.hid (HZ.out.below HB5.out HZ.out.lt)
    have hpl := HP.out.len
    clear h65 z0 z1 z2
    go_wp2_with fail
    --TAIL
    refine (Told.same ⟨ps, HP.out, rfl, HA5.out.rd⟩ HT.out (by omega)).mono ?_
    rintro e w6 ⟨rfl, HB6'⟩
    have HZ6 := Lib.hid (HZ5.out.below HB6'.out HZ5.out.lt)
    have HT6 := Lib.hid (HT.out.kept HB6'.out)
    go_wp2_with fail
    refine (Told.same ⟨ps, HP.out, rfl, HZ6.out.rd⟩ HT6.out (by omega)).mono ?_
    rintro e w7 ⟨rfl, HB7⟩
    have hov : Over (w1.alloc (.cells #[.int .i64 s.limit, .slice bo m bc, .bool s.closed] 29)) w7 ao zo ca cb ps.length 0 := by
      have hA7 := (HA5.out.below HB6'.out HA5.out.lt).below HB7.out fun k hk => Nat.lt_of_lt_of_le (HA5.out.lt k hk) HB6'.out.size
      have hZ7 := HZ6.out.below HB7.out HZ6.out.lt
      have s3 := HB3.out.size
      have s4 := HB4.out.size
      have s5 := HB5.out.size
      have s6 := HB6'.out.size
      have b4 := HB3.out.trans (HB4.out.mono s3)
      have b5 := b4.trans (HB5.out.mono (by omega))
      have b6 := b5.trans (HB6'.out.mono (by omega))
      refine ⟨⟨ps, rfl, hA7, by simp⟩, ⟨ps, rfl, hZ7, by simp⟩, b6.trans (HB7.out.mono (by omega)), HA0.out, fun k hk => Nat.le_trans s3 (HZ0.out k hk), fun k hk e => ?_⟩
      have h1 := HA.out.lt k hk
      have h2 := HZ0.out k e
      omega
    have HOV := Lib.hid hov
    clear hov HA HA0 HB3 HB4 HZ HZ0 HL4 HB64 HT HB5 HL5 HB65 HA5 HZ5 HZ6 HT6 HB6' HB7
    go_wp2
    go_loopw [11] (fun i wr => ∃ k : Nat, k ≤ ps.length ∧ i = .int .i64 k ∧ Hid (Over (w1.alloc (.cells #[.int .i64 s.limit, .slice bo m bc, .bool s.closed] 29)) wr ao zo ca cb ps.length k)) (fun i _ => ps.length - (intOf i).toNat)
    case atStart => exact ⟨0, Nat.zero_le _, rfl, HOV⟩
    case round =>
      obtain ⟨k, hk, rfl, HV⟩ := hrel
      clear HOV
      by_cases hlt : k < ps.length
      · obtain ⟨ys, hy1, hy2, -⟩ := HV.out.a
        obtain ⟨zs, hz1', hz2', -⟩ := HV.out.b
        obtain ⟨ga, oa, ca', cur, hv, hnc, hcur, hfit, hcell, hfz⟩ := hy2.at_ (by omega)
        cases hv
        obtain ⟨gb, ob, cb', cur2, hv, hnc2, hcur2, hfit2, hcell2, hfz2⟩ := hz2'.at_ (by omega)
        cases hv
        have d1 := hcell k _ (ints_get ys k (by omega))
        have d2 := hcell2 k _ (ints_get zs k (by omega))
        have e1 := hfz (oa + k)
        have e2 := hfz2 (ob + k)
        have hne : ga ≠ gb := fun e => HV.out.ne ga rfl (by rw [e]; rfl)
        have hne2 : gb ≠ ga := fun e => hne e.symm
        have hk0 : (0 : Int) ≤ (k : Int) := by omega
        have hk1 : (k : Int) < (ps.length : Int) := by omega
        clear hcell hcell2 hfz hfz2 hcur hcur2 hy2 hz2' hfit hfit2
        go_wp2
        go_roundw
        case rel => exact ⟨k + 1, by omega, by go_num, Lib.hid (HV.out.next hlt)⟩
        case measure => simp [intOf]; omega
      · have hke : k = ps.length := by omega
        subst hke
        go_wp2
        have HM := Lib.hid HV.out.made
        clear HV
        go_loopw [12, 13, 14] (fun c d i wr => ∃ k : Nat, k ≤ 20 ∧ i = .int .i64 k ∧ Hid (TwoM (w1.alloc (.cells #[.int .i64 s.limit, .slice bo m bc, .bool s.closed] 29)) wr ao zo ca cb ps.length k c d)) (fun _ _ i _ => 20 - (intOf i).toNat)
        case atStart => exact ⟨0, by omega, rfl, HM⟩
        case round =>
          obtain ⟨k, hk, rfl, HV⟩ := hrel
          clear HM
          obtain ⟨co, cc, hc, -⟩ := id HV.out.ma.row
          subst hc
          obtain ⟨do_, dc, hdv, -⟩ := id HV.out.mb.row
          subst hdv
          by_cases hlt : k < 20
          · have hd : decide ((k : Int) < 20) = true := by simp; omega
            go_wp2_with (first
              | (at_builtin; refine wpList_append_row2 rfl (.tmp 66) (.tmp 67) 48 rfl 3 i0 (.int .i64 0) 1 8 Try.underlying48 hi0 hz0 hz1 hz2 rfl (by decide) rfl (HV.out.ma.row.alloc _) rfl (Rd.box _ _ 1 1 _ (by simp) rfl) (by simp [Value.oneCell']) (by simp [maxLen]; omega) (by omega) ?_; intro v' w3 hrow hmod hown; have HE := Lib.hid (HV.out.left hrow hmod hown); obtain ⟨vo, vc, hvv, -⟩ := id hrow; subst hvv; clear hrow hmod hown)
              | (at_builtin; refine wpList_append_row2 rfl (.tmp 69) (.tmp 70) 48 rfl 3 i0 (.int .i64 0) 1 8 Try.underlying48 hi0 hz0 hz1 hz2 rfl (by decide) rfl (HE.out.2.1.row.alloc _) rfl (Rd.box _ _ 1 1 _ (by simp) rfl) (by simp [Value.oneCell']) (by simp [maxLen]; omega) (by omega) ?_; intro v2 w4 hrow hmod hown; have HE2 := Lib.hid (HV.out.right (Nat.le_of_lt HE.out.2.2.2.2.2) HE.out.1 HE.out.2.1 HE.out.2.2.1 HE.out.2.2.2.1 HE.out.2.2.2.2.1 hrow hmod hown); clear hrow hmod hown))
            go_roundw
            case rel => exact ⟨k + 1, by omega, by go_num, HE2⟩
            case measure => simp [intOf]; omega
          · have hd : decide ((k : Int) < 20) = false := by simp; omega
            have hke : k = 20 := by omega
            subst hke
            go_wp2
            have HA := Lib.hid HV.out.ma.old
            have HZ := Lib.hid HV.out.mb.old
            have HC := Lib.hid HV.out.ma.row.rd
            have HD := Lib.hid HV.out.mb.row.rd
            have HBE := Lib.hid HV.out.bel
            clear HV hd hlt hk
            go_loop [15] (fun i => ∃ k : Nat, k ≤ ps.length + 20 ∧ i = .int .i64 k) (fun i => ps.length + 20 - (intOf i).toNat)
            case atStart => exact ⟨0, by omega, rfl⟩
            case round =>
              obtain ⟨k, hk, rfl⟩ := hrel
              by_cases hlt : k < ps.length + 20
              · obtain ⟨gc, oc, cc', hv, hnc, hcc⟩ := HC.out.at_ (by omega)
                cases hv
                obtain ⟨gd, od, dc', hv, hnd, hdd⟩ := HD.out.at_ (by omega)
                cases hv
                have hk0 : (0 : Int) ≤ (k : Int) := by omega
                have hk1 : (k : Int) < ((ps.length + 20 : Nat) : Int) := by omega
                by_cases hn : k < ps.length
                · obtain ⟨ga, oa, ca', hv, hna, haa⟩ := HA.out.at_ (by omega)
                  cases hv
                  obtain ⟨gb, ob, cb', hv, hnb, hbb⟩ := HZ.out.at_ (by omega)
                  cases hv
                  have d1 := haa k (.int .i64 (-1)) (by simp [ints, hn])
                  have d2 := hbb k (.int .i64 (-2)) (by simp [ints, hn])
                  have d3 := hcc k (.int .i64 (-1)) (by simp [ints, List.getElem?_append, hn])
                  have d4 := hdd k (.int .i64 (-2)) (by simp [ints, List.getElem?_append, hn])
                  have e1 : decide ((k : Int) < (ps.length : Int)) = true := by simp; omega
                  clear haa hbb hcc hdd
                  go_wp2
                  go_round
                  case rel => exact ⟨k + 1, by omega, by go_num⟩
                  case measure => simp [intOf]; omega
                · have d3 := hcc k (.int .i64 (-3)) (two_right _ _ hn hlt)
                  have d4 := hdd k (.int .i64 (-4)) (two_right _ _ hn hlt)
                  have e1 : decide ((k : Int) < (ps.length : Int)) = false := by simp; omega
                  clear hcc hdd
                  go_wp2
                  go_round
                  case rel => exact ⟨k + 1, by omega, by go_num⟩
                  case measure => simp [intOf]; omega
              · have hll : Live w wr b g r (.agg #[.int .i64 s.limit, .slice bo m bc, .bool s.closed]) s (fun j => False ∨ j = w1.heap.size) := HL.out.below HBE.out
                have HLL := Lib.hid hll
                have hb6 : Blk wr w1.heap.size 29 _ := (HBE.out.block _ HB6.out.lt).trans HB6.out
                obtain ⟨z0, z1, z2, -⟩ := hb6.six
                clear hll hb6
                go_wp2_with fail
                with_reducible refine (live_as 0 HLL).mono ?_
                rintro e w9 ⟨rfl, HL9, HB9⟩
                go_wp2
                go_ret
                exact ⟨rfl, HL9.out.both.own.bel⟩
end Go.Proofs.Ytbfmfliknhcoeaa
