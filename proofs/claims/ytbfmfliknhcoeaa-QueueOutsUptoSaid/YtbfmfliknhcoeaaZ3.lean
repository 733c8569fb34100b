/- QueuePuts, QueueOuts: walked. -/
import Derived.Test.YtbfmfliknhcoeaaZ2
namespace Go.Proofs.Ytbfmfliknhcoeaa
open Go.RowKit QP

set_option maxHeartbeats 2000000 in
set_option maxRecDepth 100000 in
theorem puts_c (limit : Int) (so : Option Addr) (scap : Nat) (xs : List OpAt) (o : Opn) (ao : Option Addr) (cap : Nat) (w : World) (hs : Script w so scap xs) (ho : OkOp o) (ha : Rd w 1 (.slice ao o.lines.length cap) o.lines.length (strs o.lines)) :
    Calls Try.prog 3 #[.int .i64 limit, .slice so xs.length scap, opVal o ao cap] w fun e w' => e = .returned (.bool true) ∧ Below w.heap.size w w' := by
  have HS := Lib.hid hs
  have HOK := Lib.hid ho
  have HAR := Lib.hid ha
  clear hs ho ha
  have hbx : Below w.heap.size w (w.alloc (.cells #[.int .i64 o.kind, .string o.line, .slice ao o.lines.length cap, .int .i64 o.pane, .int .i64 o.tick, .int .i64 o.n] 25)) := (Below.refl _ _).alloc (Nat.le_refl _) _
  have HBX := Lib.hid hbx
  have HS1 := Lib.hid (HS.out.below hbx)
  have HBW := Lib.hid (Blk.new w 25 #[.int .i64 o.kind, .string o.line, .slice ao o.lines.length cap, .int .i64 o.pane, .int .i64 o.tick, .int .i64 o.n])
  clear hbx HS
  unfold opVal
  by_cases hl : limit < 0 ∨ 65536 < limit
  · go_enter Try.func3, Try.ntmps3
    go_wp2_with fail
    refine (behind_no limit so xs.length scap _ hl).mono ?_
    rintro e w1 ⟨rfl, HB⟩
    have HBE := Lib.hid (HBX.out.trans (HB.out.mono HBX.out.size))
    go_wp2
    go_ret
    exact ⟨rfl, HBE.out.alloc HBE.out.size _⟩
  · go_enter Try.func3, Try.ntmps3
    go_wp2_with fail
    refine (behind_c limit so scap xs _ (by omega) (by omega) HS1.out).mono ?_
    rintro e w1 ⟨b, g, r, bo, m, bc, s, rfl, HB, hi⟩
    have HL0 := Lib.hid (live_of (fun j => j = w.heap.size) HB hi HBX.out (fun _ h => by subst h; simp))
    have HL := Lib.hid (HL0.out.more _ rfl (.cells #[.int .i64 s.limit, .slice bo m bc, .bool s.closed] 29))
    have HB8 := Lib.hid (Blk.new w1 29 #[.int .i64 s.limit, .slice bo m bc, .bool s.closed])
    have h5 : Blk w1 w.heap.size 25 _ := (HB.out.own.bel.block _ HBW.out.lt).trans HBW.out
    have HB5 := Lib.hid (h5.alloc (.cells #[.int .i64 s.limit, .slice bo m bc, .bool s.closed] 29))
    have hne : w.heap.size < w1.heap.size := h5.lt
    have H5 := Lib.hid h5
    have c0 := h5.cell 0
    have c1 := h5.cell 1
    have c2 := h5.cell 2
    have c3 := h5.cell 3
    have c4 := h5.cell 4
    have c5 := h5.cell 5
    have f0 := h5.frozen 0
    simp only [List.getElem?_toArray, List.getElem?_cons_succ, List.getElem?_cons_zero] at c0 c1 c2 c3 c4 c5
    clear hi hl HB h5
    by_cases hk0 : o.kind = 0
    · have hd0 : (o.kind != 0) = false := by rw [hk0]; rfl
      clear hk0
      have HL1 := HL
      have HOK1 := HOK
      have HB81 := HB8
      have HB51 := HB5
      go_wp2_with fail
      with_reducible refine (live13 HL1 HOK1 HAR).mono ?_
      rintro e w3 ⟨bo3, n3, bc3, g3, r3, rfl, HL3, HM3⟩
      have h8 := HL1.out.box HM3.out (k := w1.heap.size) (.inr rfl) HB81.out
      obtain ⟨z0, z1, z2, y0, y1, y2⟩ : _ ∧ _ ∧ _ ∧ _ ∧ _ ∧ _ := ⟨h8.cell 0, h8.cell 1, h8.cell 2, h8.frozen 0, h8.frozen 1, h8.frozen 2⟩
      have h5 := HL1.out.box HM3.out (k := w.heap.size) (.inl rfl) HB51.out
      have q3 := h5.cell 3
      simp only [List.getElem?_toArray, List.getElem?_cons_succ, List.getElem?_cons_zero] at z0 z1 z2 q3
      obtain ⟨s3, hs3⟩ : ∃ s3, nextSt s o = s3 := ⟨_, rfl⟩
      rw [hs3] at HL3 ⊢
      have H83 := Lib.hid (((h8.set_ 0 (.int .i64 s3.limit)).set_ 1 (.slice bo3 n3 bc3)).set_ 2 (.bool s3.closed))
      have H53 := Lib.hid (h5.keep (mod3 w3 w1.heap.size (.int .i64 s3.limit) (.slice bo3 n3 bc3) (.bool s3.closed)) (by omega))
      have HL4 := Lib.hid (HL3.out.mod (mod3 w3 w1.heap.size (.int .i64 s3.limit) (.slice bo3 n3 bc3) (.bool s3.closed)) fun k e => ⟨.inr e, by omega⟩)
      have hl4 := HL4.out.inv.fits.len
      clear hs3 h8 h5 HM3 HL3
      go_wp2_with fail
      refine (live14 1073741824 (by omega) (by omega) HL4).mono ?_
      rintro e w5 ⟨t, bo5, m5, bc5, r5, rfl, HT, HL5, HR5, HN5, HB5'⟩
      have h85 : Blk w5 w1.heap.size 29 _ := (HB5'.out.block _ H83.out.lt).trans H83.out
      have h55 : Blk w5 w.heap.size 25 _ := (HB5'.out.block _ H53.out.lt).trans H53.out
      have hlt8 := h85.lt
      have hlt5 := h55.lt
      have x0 := h85.cell 0
      have x1 := h85.cell 1
      have x2 := h85.cell 2
      have x3 := h55.cell 3
      simp at x0 x1 x2 x3
      have HL6 := Lib.hid (HL5.out.alloc (.cells #[.int .i64 (drainSt s3 1073741824).limit, .slice bo5 m5 bc5, .bool (drainSt s3 1073741824).closed] 29))
      clear HL4 HL5 HR5 HN5 HB5' H83 H53 h85 h55 z0 z1 z2 y0 y1 y2 q3
      go_wp2_with fail
      refine (live15 1073741824 (by omega) (by omega) (Lib.hid HL6.out.both.own) HL6.out.inv).mono ?_
      rintro e w7 ⟨t7, rfl, HT7, HO7, HM7⟩
      obtain rfl := same_bytes HT HT7
      clear HT7 HM7
      go_wp2
      go_ret
      exact ⟨rfl, HO7.out.bel⟩
    · have hd0 : (o.kind != 0) = true := by simpa using hk0
      by_cases hk1 : o.kind = 1
      · have hd1 : (o.kind != 1) = false := by rw [hk1]; rfl
        clear hk0 hk1
        have HL1 := HL
        have HOK1 := HOK
        have HB81 := HB8
        have HB51 := HB5
        go_wp2_with fail
        with_reducible refine (live13 HL1 HOK1 HAR).mono ?_
        rintro e w3 ⟨bo3, n3, bc3, g3, r3, rfl, HL3, HM3⟩
        have h8 := HL1.out.box HM3.out (k := w1.heap.size) (.inr rfl) HB81.out
        obtain ⟨z0, z1, z2, y0, y1, y2⟩ : _ ∧ _ ∧ _ ∧ _ ∧ _ ∧ _ := ⟨h8.cell 0, h8.cell 1, h8.cell 2, h8.frozen 0, h8.frozen 1, h8.frozen 2⟩
        have h5 := HL1.out.box HM3.out (k := w.heap.size) (.inl rfl) HB51.out
        have q3 := h5.cell 3
        simp only [List.getElem?_toArray, List.getElem?_cons_succ, List.getElem?_cons_zero] at z0 z1 z2 q3
        obtain ⟨s3, hs3⟩ : ∃ s3, nextSt s o = s3 := ⟨_, rfl⟩
        rw [hs3] at HL3 ⊢
        have H83 := Lib.hid (((h8.set_ 0 (.int .i64 s3.limit)).set_ 1 (.slice bo3 n3 bc3)).set_ 2 (.bool s3.closed))
        have H53 := Lib.hid (h5.keep (mod3 w3 w1.heap.size (.int .i64 s3.limit) (.slice bo3 n3 bc3) (.bool s3.closed)) (by omega))
        have HL4 := Lib.hid (HL3.out.mod (mod3 w3 w1.heap.size (.int .i64 s3.limit) (.slice bo3 n3 bc3) (.bool s3.closed)) fun k e => ⟨.inr e, by omega⟩)
        have hl4 := HL4.out.inv.fits.len
        clear hs3 h8 h5 HM3 HL3
        go_wp2_with fail
        refine (live14 1073741824 (by omega) (by omega) HL4).mono ?_
        rintro e w5 ⟨t, bo5, m5, bc5, r5, rfl, HT, HL5, HR5, HN5, HB5'⟩
        have h85 : Blk w5 w1.heap.size 29 _ := (HB5'.out.block _ H83.out.lt).trans H83.out
        have h55 : Blk w5 w.heap.size 25 _ := (HB5'.out.block _ H53.out.lt).trans H53.out
        have hlt8 := h85.lt
        have hlt5 := h55.lt
        have x0 := h85.cell 0
        have x1 := h85.cell 1
        have x2 := h85.cell 2
        have x3 := h55.cell 3
        simp at x0 x1 x2 x3
        have HL6 := Lib.hid (HL5.out.alloc (.cells #[.int .i64 (drainSt s3 1073741824).limit, .slice bo5 m5 bc5, .bool (drainSt s3 1073741824).closed] 29))
        clear HL4 HL5 HR5 HN5 HB5' H83 H53 h85 h55 z0 z1 z2 y0 y1 y2 q3
        go_wp2_with fail
        refine (live15 1073741824 (by omega) (by omega) (Lib.hid HL6.out.both.own) HL6.out.inv).mono ?_
        rintro e w7 ⟨t7, rfl, HT7, HO7, HM7⟩
        obtain rfl := same_bytes HT HT7
        clear HT7 HM7
        go_wp2
        go_ret
        exact ⟨rfl, HO7.out.bel⟩
      · have hd1 : (o.kind != 1) = true := by simpa using hk1
        clear hk0 hk1
        have hm5 : Mod (fun j => j = w.heap.size) w1 (w1.setCell ⟨w.heap.size, 0, none⟩ (.int .i64 3)) := (Mod.refl (fun j => j = w.heap.size) _).setCell (a := ⟨w.heap.size, 0, none⟩) (.inl rfl) _
        have HL1 := Lib.hid ((HL0.out.mod hm5 fun k e => ⟨e, by omega⟩).more w1.heap.size (by simp) (.cells #[.int .i64 s.limit, .slice bo m bc, .bool s.closed] 29))
        have HOK1 : Hid (OkOp { o with kind := 3 }) := Lib.hid ⟨HOK.out.line, HOK.out.bytes, HOK.out.count, HOK.out.n0, HOK.out.n1⟩
        have HB81 : Hid (Blk ((w1.setCell ⟨w.heap.size, 0, none⟩ (.int .i64 3)).alloc (.cells #[.int .i64 s.limit, .slice bo m bc, .bool s.closed] 29)) w1.heap.size 29 #[.int .i64 s.limit, .slice bo m bc, .bool s.closed]) := Lib.hid (by have := Blk.new (w1.setCell ⟨w.heap.size, 0, none⟩ (.int .i64 3)) 29 #[.int .i64 s.limit, .slice bo m bc, .bool s.closed]; simpa using this)
        have HB51 := Lib.hid ((H5.out.set_ 0 (.int .i64 3)).alloc (.cells #[.int .i64 s.limit, .slice bo m bc, .bool s.closed] 29))
        clear hm5
        go_wp2_with fail
        with_reducible refine (live13 HL1 HOK1 HAR).mono ?_
        rintro e w3 ⟨bo3, n3, bc3, g3, r3, rfl, HL3, HM3⟩
        have h8 := HL1.out.box HM3.out (k := w1.heap.size) (.inr rfl) HB81.out
        obtain ⟨z0, z1, z2, y0, y1, y2⟩ : _ ∧ _ ∧ _ ∧ _ ∧ _ ∧ _ := ⟨h8.cell 0, h8.cell 1, h8.cell 2, h8.frozen 0, h8.frozen 1, h8.frozen 2⟩
        have h5 := HL1.out.box HM3.out (k := w.heap.size) (.inl rfl) HB51.out
        have q3 := h5.cell 3
        simp only [List.getElem?_toArray, List.getElem?_cons_succ, List.getElem?_cons_zero] at z0 z1 z2 q3
        obtain ⟨s3, hs3⟩ : ∃ s3, nextSt s { o with kind := 3 } = s3 := ⟨_, rfl⟩
        rw [hs3] at HL3 ⊢
        have H83 := Lib.hid (((h8.set_ 0 (.int .i64 s3.limit)).set_ 1 (.slice bo3 n3 bc3)).set_ 2 (.bool s3.closed))
        have H53 := Lib.hid (h5.keep (mod3 w3 w1.heap.size (.int .i64 s3.limit) (.slice bo3 n3 bc3) (.bool s3.closed)) (by omega))
        have HL4 := Lib.hid (HL3.out.mod (mod3 w3 w1.heap.size (.int .i64 s3.limit) (.slice bo3 n3 bc3) (.bool s3.closed)) fun k e => ⟨.inr e, by omega⟩)
        have hl4 := HL4.out.inv.fits.len
        clear hs3 h8 h5 HM3 HL3
        go_wp2_with fail
        refine (live14 1073741824 (by omega) (by omega) HL4).mono ?_
        rintro e w5 ⟨t, bo5, m5, bc5, r5, rfl, HT, HL5, HR5, HN5, HB5'⟩
        have h85 : Blk w5 w1.heap.size 29 _ := (HB5'.out.block _ H83.out.lt).trans H83.out
        have h55 : Blk w5 w.heap.size 25 _ := (HB5'.out.block _ H53.out.lt).trans H53.out
        have hlt8 := h85.lt
        have hlt5 := h55.lt
        have x0 := h85.cell 0
        have x1 := h85.cell 1
        have x2 := h85.cell 2
        have x3 := h55.cell 3
        simp at x0 x1 x2 x3
        have HL6 := Lib.hid (HL5.out.alloc (.cells #[.int .i64 (drainSt s3 1073741824).limit, .slice bo5 m5 bc5, .bool (drainSt s3 1073741824).closed] 29))
        clear HL4 HL5 HR5 HN5 HB5' H83 H53 h85 h55 z0 z1 z2 y0 y1 y2 q3
        go_wp2_with fail
        refine (live15 1073741824 (by omega) (by omega) (Lib.hid HL6.out.both.own) HL6.out.inv).mono ?_
        rintro e w7 ⟨t7, rfl, HT7, HO7, HM7⟩
        obtain rfl := same_bytes HT HT7
        clear HT7 HM7
        go_wp2
        go_ret
        exact ⟨rfl, HO7.out.bel⟩

set_option maxHeartbeats 2000000 in
set_option maxRecDepth 100000 in
theorem outs_c (limit : Int) (so : Option Addr) (scap : Nat) (xs : List OpAt) (o : Opn) (ao : Option Addr) (cap : Nat) (w : World) (hs : Script w so scap xs) (ho : OkOp o) (ha : Rd w 1 (.slice ao o.lines.length cap) o.lines.length (strs o.lines)) :
    Calls Try.prog 8 #[.int .i64 limit, .slice so xs.length scap, opVal o ao cap] w fun e w' => e = .returned (.bool true) ∧ Below w.heap.size w w' := by
  have HS := Lib.hid hs
  have HOK := Lib.hid ho
  have HAR := Lib.hid ha
  clear hs ho ha
  have hbx : Below w.heap.size w (w.alloc (.cells #[.int .i64 o.kind, .string o.line, .slice ao o.lines.length cap, .int .i64 o.pane, .int .i64 o.tick, .int .i64 o.n] 25)) := (Below.refl _ _).alloc (Nat.le_refl _) _
  have HBX := Lib.hid hbx
  have HS1 := Lib.hid (HS.out.below hbx)
  have HBW := Lib.hid (Blk.new w 25 #[.int .i64 o.kind, .string o.line, .slice ao o.lines.length cap, .int .i64 o.pane, .int .i64 o.tick, .int .i64 o.n])
  clear hbx HS
  unfold opVal
  by_cases hl : limit < 0 ∨ 65536 < limit
  · go_enter Try.func8, Try.ntmps8
    go_wp2_with fail
    refine (behind_no limit so xs.length scap _ hl).mono ?_
    rintro e w1 ⟨rfl, HB⟩
    have HBE := Lib.hid (HBX.out.trans (HB.out.mono HBX.out.size))
    go_wp2
    go_ret
    exact ⟨rfl, HBE.out.alloc HBE.out.size _⟩
  · go_enter Try.func8, Try.ntmps8
    go_wp2_with fail
    refine (behind_c limit so scap xs _ (by omega) (by omega) HS1.out).mono ?_
    rintro e w1 ⟨b, g, r, bo, m, bc, s, rfl, HB, hi⟩
    have HL0 := Lib.hid (live_of (fun j => j = w.heap.size) HB hi HBX.out (fun _ h => by subst h; simp))
    have HL := Lib.hid (HL0.out.more _ rfl (.cells #[.int .i64 s.limit, .slice bo m bc, .bool s.closed] 29))
    have HB8 := Lib.hid (Blk.new w1 29 #[.int .i64 s.limit, .slice bo m bc, .bool s.closed])
    have h5 : Blk w1 w.heap.size 25 _ := (HB.out.own.bel.block _ HBW.out.lt).trans HBW.out
    have HB5 := Lib.hid (h5.alloc (.cells #[.int .i64 s.limit, .slice bo m bc, .bool s.closed] 29))
    have hne : w.heap.size < w1.heap.size := h5.lt
    have H5 := Lib.hid h5
    have c0 := h5.cell 0
    have c1 := h5.cell 1
    have c2 := h5.cell 2
    have c3 := h5.cell 3
    have c4 := h5.cell 4
    have c5 := h5.cell 5
    have f0 := h5.frozen 0
    simp only [List.getElem?_toArray, List.getElem?_cons_succ, List.getElem?_cons_zero] at c0 c1 c2 c3 c4 c5
    clear hi hl HB h5
    have hm5 : Mod (fun j => j = w.heap.size) w1 (w1.setCell ⟨w.heap.size, 0, none⟩ (.int .i64 2)) := (Mod.refl (fun j => j = w.heap.size) _).setCell (a := ⟨w.heap.size, 0, none⟩) (.inl rfl) _
    have HL1 := Lib.hid ((HL0.out.mod hm5 fun k e => ⟨e, by omega⟩).more w1.heap.size (by simp) (.cells #[.int .i64 s.limit, .slice bo m bc, .bool s.closed] 29))
    have HOK1 : Hid (OkOp { o with kind := 2 }) := Lib.hid ⟨HOK.out.line, HOK.out.bytes, HOK.out.count, HOK.out.n0, HOK.out.n1⟩
    have HB81 : Hid (Blk ((w1.setCell ⟨w.heap.size, 0, none⟩ (.int .i64 2)).alloc (.cells #[.int .i64 s.limit, .slice bo m bc, .bool s.closed] 29)) w1.heap.size 29 #[.int .i64 s.limit, .slice bo m bc, .bool s.closed]) := Lib.hid (by have := Blk.new (w1.setCell ⟨w.heap.size, 0, none⟩ (.int .i64 2)) 29 #[.int .i64 s.limit, .slice bo m bc, .bool s.closed]; simpa using this)
    have HB51 := Lib.hid ((H5.out.set_ 0 (.int .i64 2)).alloc (.cells #[.int .i64 s.limit, .slice bo m bc, .bool s.closed] 29))
    clear hm5
    go_wp2_with fail
    with_reducible refine (live13 HL1 HOK1 HAR).mono ?_
    rintro e w3 ⟨bo3, n3, bc3, g3, r3, rfl, HL3, HM3⟩
    have h8 := HL1.out.box HM3.out (k := w1.heap.size) (.inr rfl) HB81.out
    obtain ⟨z0, z1, z2, y0, y1, y2⟩ : _ ∧ _ ∧ _ ∧ _ ∧ _ ∧ _ := ⟨h8.cell 0, h8.cell 1, h8.cell 2, h8.frozen 0, h8.frozen 1, h8.frozen 2⟩
    have h5 := HL1.out.box HM3.out (k := w.heap.size) (.inl rfl) HB51.out
    have q3 := h5.cell 3
    simp only [List.getElem?_toArray, List.getElem?_cons_succ, List.getElem?_cons_zero] at z0 z1 z2 q3
    obtain ⟨s3, hs3⟩ : ∃ s3, nextSt s { o with kind := 2 } = s3 := ⟨_, rfl⟩
    rw [hs3] at HL3 ⊢
    have H83 := Lib.hid (((h8.set_ 0 (.int .i64 s3.limit)).set_ 1 (.slice bo3 n3 bc3)).set_ 2 (.bool s3.closed))
    have H53 := Lib.hid (h5.keep (mod3 w3 w1.heap.size (.int .i64 s3.limit) (.slice bo3 n3 bc3) (.bool s3.closed)) (by omega))
    have HL4 := Lib.hid (HL3.out.mod (mod3 w3 w1.heap.size (.int .i64 s3.limit) (.slice bo3 n3 bc3) (.bool s3.closed)) fun k e => ⟨.inr e, by omega⟩)
    have hl4 := HL4.out.inv.fits.len
    clear hs3 h8 h5 HM3 HL3
    go_wp2_with fail
    refine (live14 1073741824 (by omega) (by omega) HL4).mono ?_
    rintro e w5 ⟨t, bo5, m5, bc5, r5, rfl, HT, HL5, HR5, HN5, HB5'⟩
    have h85 : Blk w5 w1.heap.size 29 _ := (HB5'.out.block _ H83.out.lt).trans H83.out
    have h55 : Blk w5 w.heap.size 25 _ := (HB5'.out.block _ H53.out.lt).trans H53.out
    have hlt8 := h85.lt
    have hlt5 := h55.lt
    have x0 := h85.cell 0
    have x1 := h85.cell 1
    have x2 := h85.cell 2
    have x3 := h55.cell 3
    simp at x0 x1 x2 x3
    have HL6 := Lib.hid (HL5.out.alloc (.cells #[.int .i64 (drainSt s3 1073741824).limit, .slice bo5 m5 bc5, .bool (drainSt s3 1073741824).closed] 29))
    clear HL4 HL5 HR5 HN5 HB5' H83 H53 h85 h55 z0 z1 z2 y0 y1 y2 q3
    go_wp2_with fail
    refine (live_as o.pane HL6).mono ?_
    rintro e w6 ⟨rfl, HL7, HB7⟩
    clear HL6 HB7
    go_wp2_with fail
    refine (live15 1073741824 (by omega) (by omega) (Lib.hid HL7.out.both.own) HL7.out.inv).mono ?_
    rintro e w7 ⟨t7, rfl, HT7, HO7, HM7⟩
    obtain rfl := same_bytes HT HT7
    clear HT7 HM7
    go_wp2
    go_ret
    exact ⟨rfl, HO7.out.bel⟩
end Go.Proofs.Ytbfmfliknhcoeaa
