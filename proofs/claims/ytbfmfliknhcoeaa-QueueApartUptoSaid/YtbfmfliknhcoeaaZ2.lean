/- QueuePuts, QueueOuts, QueueDrains: walked. -/
import Derived.Test.YtbfmfliknhcoeaaZ1
namespace Go.Proofs.Ytbfmfliknhcoeaa
open Go.RowKit QP

theorem Script.below {W w : World} {so : Option Addr} {scap : Nat} {xs : List OpAt} (h : Script W so scap xs) (hb : Below W.heap.size W w) : Script w so scap xs :=
  ⟨h.rd.kept (by decide) hb, h.ok, fun x hx => (h.arg x hx).kept (by decide) hb, h.len⟩

theorem live_of {W0 W1 w : World} {b : Nat} {g r : Option Nat} {v : Value} {s : St} (S : Nat → Prop) (h : Hid (Both W1 w b g r v s)) (hi : SInv s) (hb : Below W0.heap.size W0 W1) (hS : ∀ k, S k → k < W1.heap.size) : Live W0 w b g r v s S := by
  have hs := hb.size
  have h0 := h.out.own.b0
  refine ⟨⟨⟨h.out.own.q, by omega, fun k hk => by have := h.out.own.g0 k hk; omega, hb.trans (h.out.own.bel.mono hs)⟩, h.out.rr, h.out.off, fun k hk => by have := h.out.r0 k hk; omega⟩, hi, fun e => by have := hS b e; omega, fun k hk e => ?_, fun k hk e => ?_, fun k hk => Nat.lt_of_lt_of_le (hS k hk) h.out.own.bel.size⟩
  · have := h.out.own.g0 k hk; have := hS k e; omega
  · have := h.out.r0 k hk; have := hS k e; omega

theorem live13 {W w : World} {b : Nat} {g r : Option Nat} {s : St} {S : Nat → Prop} {bo : Option Addr} {n bc : Nat} {o : Opn} {ao : Option Addr} {cap : Nat} (h : Hid (Live W w b g r (.agg #[.int .i64 s.limit, .slice bo n bc, .bool s.closed]) s S)) (ho : Hid (OkOp o)) (ha : Hid (Rd W 1 (.slice ao o.lines.length cap) o.lines.length (strs o.lines))) :
    Calls Try.prog 13 #[.pointer (some ⟨b, 0, none⟩), .agg #[.int .i64 s.limit, .slice bo n bc, .bool s.closed], .agg #[.int .i64 o.kind, .string o.line, .slice ao o.lines.length cap, .int .i64 o.pane, .int .i64 o.tick, .int .i64 o.n]] w fun e w' =>
      ∃ (bo' : Option Addr) (n' bc' : Nat) (g' r' : Option Nat), e = .returned (.tuple #[.agg #[.int .i64 (nextSt s o).limit, .slice bo' n' bc', .bool (nextSt s o).closed], .bool true]) ∧
      Hid (Live W w' b g' r' (.agg #[.int .i64 (nextSt s o).limit, .slice bo' n' bc', .bool (nextSt s o).closed]) (nextSt s o) S) ∧ Hid (Mod (foot b g) w w') := live_step h.out ho.out ha.out

theorem live14 {W w : World} {b : Nat} {g r : Option Nat} {v : Value} {s : St} {S : Nat → Prop} (n : Int) (hn0 : -9223372036854775808 ≤ n) (hn1 : n ≤ 9223372036854775807) (h : Hid (Live W w b g r v s S)) :
    Calls Try.prog 14 #[v, .int .i64 n] w fun e w' => ∃ (t : ByteArray) (bo : Option Addr) (m bc : Nat) (r' : Option Nat), e = .returned (.tuple #[.string t, .agg #[.int .i64 (drainSt s n).limit, .slice bo m bc, .bool (drainSt s n).closed]]) ∧
      Hid (QP.bytes t = drained s n) ∧ Hid (Live W w' b g r v s S) ∧ Hid (RSt w' r' (.agg #[.int .i64 (drainSt s n).limit, .slice bo m bc, .bool (drainSt s n).closed]) (drainSt s n)) ∧ Hid (∀ k, r' = some k → w.heap.size ≤ k) ∧ Hid (Below w.heap.size w w') := by
  refine (rdrain_c r v s n w h.out.both.rr (by have := h.out.inv.fits.len; omega) hn0 hn1).mono ?_
  rintro e w' ⟨t, v', r', rfl, ht, q, n', hb⟩
  obtain ⟨sv, ps, hv, hR, -⟩ := id q
  obtain ⟨bo, bc, hsv⟩ := hR.shape
  subst hsv
  subst hv
  exact ⟨t, bo, _, bc, r', rfl, Lib.hid ht, Lib.hid (h.out.below hb), Lib.hid q, Lib.hid n', Lib.hid hb⟩

theorem live15 {W w : World} {b : Nat} {g : Option Nat} {s : St} (n : Int) (hn0 : -9223372036854775808 ≤ n) (hn1 : n ≤ 9223372036854775807) (h : Hid (Own W w b g s)) (hi : SInv s) :
    Calls Try.prog 15 #[.pointer (some ⟨b, 0, none⟩), .int .i64 n] w fun e w' => ∃ t : ByteArray, e = .returned (.string t) ∧ Hid (QP.bytes t = drained s n) ∧ Hid (Own W w' b g (drainSt s n)) ∧ Hid (Mod (foot b g) w w') := by
  refine (drain_c b g s n w h.out.q (by have := hi.fits.len; omega) hn0 hn1).mono ?_
  rintro e w' ⟨t, rfl, ht, q, m⟩
  exact ⟨t, rfl, Lib.hid ht, Lib.hid (h.out.next q (.inl rfl) m), Lib.hid m⟩

theorem live_as {W w : World} {b : Nat} {g r : Option Nat} {v : Value} {s : St} {S : Nat → Prop} (pane : Int) (h : Hid (Live W w b g r v s S)) :
    Calls Try.prog 21 #[.pointer (some ⟨b, 0, none⟩), v, .int .i64 pane] w fun e w' => e = .returned (.bool true) ∧ Hid (Live W w' b g r v s S) ∧ Hid (Below w.heap.size w w') :=
  (as_c b g r v s pane w h.out.both.own.q h.out.both.rr h.out.inv.fits.len).mono fun _ _ hh => ⟨hh.1, Lib.hid (h.out.below hh.2), Lib.hid hh.2⟩

theorem same_bytes {t t' : ByteArray} {l : List UInt8} (h : Hid (QP.bytes t = l)) (h' : Hid (QP.bytes t' = l)) : t = t' := ByteArray.ext (Array.toList_inj.1 (h.out.trans h'.out.symm))

theorem h14 {w : World} {r : Option Nat} {v : Value} {s : St} (n : Int) (hn0 : -9223372036854775808 ≤ n) (hn1 : n ≤ 9223372036854775807) (h : Hid (RSt w r v s)) (hl : s.fl.length ≤ 900000) :
    Calls Try.prog 14 #[v, .int .i64 n] w fun e w' => ∃ (t : ByteArray) (bo : Option Addr) (m bc : Nat) (r' : Option Nat), e = .returned (.tuple #[.string t, .agg #[.int .i64 (drainSt s n).limit, .slice bo m bc, .bool (drainSt s n).closed]]) ∧
      Hid (QP.bytes t = drained s n) ∧ Hid (RSt w' r' (.agg #[.int .i64 (drainSt s n).limit, .slice bo m bc, .bool (drainSt s n).closed]) (drainSt s n)) ∧ Hid (∀ k, r' = some k → w.heap.size ≤ k) ∧ Hid (Below w.heap.size w w') := by
  refine (rdrain_c r v s n w h.out (by omega) hn0 hn1).mono ?_
  rintro e w' ⟨t, v', r', rfl, ht, q, n', hb⟩
  obtain ⟨sv, ps, hv, hR, -⟩ := id q
  obtain ⟨bo, bc, hsv⟩ := hR.shape
  subst hsv
  subst hv
  exact ⟨t, bo, _, bc, r', rfl, Lib.hid ht, Lib.hid q, Lib.hid n', Lib.hid hb⟩
theorem h21 {W w : World} {b : Nat} {g r : Option Nat} {v : Value} {s : St} (pane : Int) (h : Hid (Own W w b g s)) (hr : Hid (RSt w r v s)) (hl : s.fl.length ≤ 900000) :
    Calls Try.prog 21 #[.pointer (some ⟨b, 0, none⟩), v, .int .i64 pane] w fun e w' => e = .returned (.bool true) ∧ Hid (Below w.heap.size w w') :=
  (as_c b g r v s pane w h.out.q hr.out hl).mono fun _ _ hh => ⟨hh.1, Lib.hid hh.2⟩
theorem h22 {W w : World} {b : Nat} {g : Option Nat} {s : St} (h : Hid (Own W w b g s)) (hl : s.fl.length = 0) :
    Calls Try.prog 22 #[.pointer (some ⟨b, 0, none⟩)] w fun e w' => ∃ ao cap, e = .returned (.slice ao 0 cap) ∧ Hid (Below w.heap.size w w') := by
  refine (panes_c b g s w h.out.q (by omega)).mono ?_
  rintro e w' ⟨v, xs, rfl, h1, h2, h3, h4, h5⟩
  have hx : xs.length = 0 := by have := h1.len; omega
  obtain ⟨ao, cap, rfl, _⟩ := id h2
  rw [hx]
  exact ⟨ao, cap, rfl, Lib.hid h5⟩
theorem drain_len {s : St} {n : Int} (h : s.fl.length ≤ 900000) : (drainSt s n).fl.length ≤ 900000 := by
  unfold drainSt; dsimp only; rw [List.length_drop]; omega
theorem drain_all {s : St} (h : s.fl.length ≤ 900000) : (drainSt s 1073741824).fl.length = 0 := by
  unfold drainSt; dsimp only; rw [List.length_drop]; omega
theorem h17 {W w : World} {b : Nat} {g : Option Nat} {s : St} (h : Hid (Own W w b g s)) (hl : s.fl.length = 0) :
    Calls Try.prog 17 #[.pointer (some ⟨b, 0, none⟩)] w fun e w' => e = .returned (.int .i64 0) ∧ w = w' := by
  have := size_c b g s w h.out.q
  rw [hl] at this
  exact this
theorem Own.blk {W w w1 : World} {b : Nat} {g : Option Nat} {s : St} (_ : Own W w b g s) (hm : Mod (foot b g) w w1) {k : Nat} {t : TypeId} {cs : Array Value} (hk : k ≠ b) (hg : g ≠ some k) (hB : Blk w k t cs) : Blk w1 k t cs :=
  hB.keep hm fun e => e.elim (fun e => hk e) fun e => hg e

set_option maxHeartbeats 1000000 in
set_option maxRecDepth 100000 in
theorem drains_c (limit n : Int) (so : Option Addr) (scap : Nat) (xs : List OpAt) (w : World) (hs : Script w so scap xs) (hn0 : -9223372036854775808 ≤ n) (hn1 : n ≤ 9223372036854775807) :
    Calls Try.prog 9 #[.int .i64 limit, .slice so xs.length scap, .int .i64 n] w fun e w' => e = .returned (.bool true) ∧ Below w.heap.size w w' := by
  have HS := Lib.hid hs
  clear hs
  by_cases hl : limit < 0 ∨ 65536 < limit
  · go_enter Try.func9, Try.ntmps9
    go_wp2_with fail
    refine (behind_no limit so xs.length scap w hl).mono ?_
    rintro e w1 ⟨rfl, HB⟩
    go_wp2
    go_ret
    exact ⟨rfl, HB.out.alloc HB.out.size _⟩
  · go_enter Try.func9, Try.ntmps9
    go_wp2_with fail
    refine (behind_c limit so scap xs w (by omega) (by omega) HS.out).mono ?_
    rintro e w1 ⟨b, g, r, bo, m, bc, s, rfl, HB, hi⟩
    have hl0 := hi.fits.len
    have HI := Lib.hid hi
    have HL := Lib.hid ((live_of (fun _ => False) HB hi (Below.refl _ _) (fun _ h => h.elim)).more _ rfl (.cells #[.int .i64 s.limit, .slice bo m bc, .bool s.closed] 29))
    have HB8 := Lib.hid (Blk.new w1 29 #[.int .i64 s.limit, .slice bo m bc, .bool s.closed])
    clear hi hl HB
    go_wp2_with fail
    refine (live15 n hn0 hn1 (Lib.hid HL.out.both.own) HI.out).mono ?_
    rintro e w2 ⟨t, rfl, HT, HO, HM⟩
    have h8 := HL.out.box HM.out (k := w1.heap.size) (.inr rfl) HB8.out
    obtain ⟨z0, z1, z2⟩ : _ ∧ _ ∧ _ := ⟨h8.cell 0, h8.cell 1, h8.cell 2⟩
    simp only [List.getElem?_toArray, List.getElem?_cons_succ, List.getElem?_cons_zero] at z0 z1 z2
    clear h8
    have hr2 : RSt w2 r (.agg #[.int .i64 s.limit, .slice bo m bc, .bool s.closed]) s := HL.out.both.rr.mod HM.out fun k hk e => e.elim (HL.out.both.off k hk).1 (HL.out.both.off k hk).2
    have HR2 := Lib.hid hr2
    clear hr2
    go_wp2_with fail
    refine (h14 n hn0 hn1 HR2 hl0).mono ?_
    rintro e w3 ⟨t', bo3, m3, bc3, r3, rfl, HT', HR3, HN3, HB3⟩
    obtain rfl := same_bytes HT HT'
    have hl1 := drain_len (s := s) (n := n) hl0
    have ho3 := HO.out.below HB3.out
    have hkb := foot_lt ho3.q
    have HO3 := Lib.hid (ho3.alloc (.cells #[.int .i64 (drainSt s n).limit, .slice bo3 m3 bc3, .bool (drainSt s n).closed] 29))
    have HR4 := Lib.hid (HR3.out.alloc (.cells #[.int .i64 (drainSt s n).limit, .slice bo3 m3 bc3, .bool (drainSt s n).closed] 29))
    have HB12 := Lib.hid (Blk.new w3 29 #[.int .i64 (drainSt s n).limit, .slice bo3 m3 bc3, .bool (drainSt s n).closed])
    have HK : Hid (w3.heap.size ≠ b ∧ g ≠ some w3.heap.size) := Lib.hid ⟨fun e => by have := hkb b (.inl rfl); omega, fun e => by have := hkb _ (.inr e); omega⟩
    have hk2 := foot_lt HO.out.q
    have HOFF : Hid (∀ k, r3 = some k → ¬ foot b g k) := Lib.hid fun k hk e => by
      have := HN3.out k hk
      have := hk2 k e
      omega
    clear HT' HO HR2 HR3 HN3 ho3 hkb hk2
    obtain ⟨s1, hs1⟩ : ∃ s1, drainSt s n = s1 := ⟨_, rfl⟩
    have HI1 : Hid (SInv s1) := by
      rw [← hs1]
      have h := HI.out.next ⟨5, ⟨#[]⟩, [], 0, 0, n⟩
      exact Lib.hid (by simpa [nextSt] using h)
    rw [hs1] at HO3 HR4 HB12 hl1 ⊢
    clear hs1 z0 z1 z2 HB3
    go_wp2_with fail
    refine (h21 0 HO3 HR4 hl1).mono ?_
    rintro e w5 ⟨rfl, HB5⟩
    have HO5 := Lib.hid (HO3.out.below HB5.out)
    have HR5 := Lib.hid (HR4.out.below HB5.out)
    have HB12' := Lib.hid (((HB5.out.block _ HB12.out.lt).trans HB12.out : Blk w5 w3.heap.size 29 _))
    clear HB5 HO3 HR4 HB12
    go_wp2_with fail
    refine (live15 1073741824 (by omega) (by omega) HO5 HI1.out).mono ?_
    rintro e w6 ⟨t6, rfl, HT6, HO6, HM6⟩
    have h12 := HO5.out.blk HM6.out HK.out.1 HK.out.2 HB12'.out
    obtain ⟨z0, z1, z2⟩ : _ ∧ _ ∧ _ := ⟨h12.cell 0, h12.cell 1, h12.cell 2⟩
    simp only [List.getElem?_toArray, List.getElem?_cons_succ, List.getElem?_cons_zero] at z0 z1 z2
    have HR6 := Lib.hid (HR5.out.mod HM6.out HOFF.out)
    have hz := drain_all hl1
    have HZ := Lib.hid hz
    clear h12 hz HR5 HB12'
    go_wp2_with fail
    refine (h14 1073741824 (by omega) (by omega) HR6 hl1).mono ?_
    rintro e w7 ⟨t7, bo7, m7, bc7, r7, rfl, HT7, HR7, HN7, HB7⟩
    obtain rfl := same_bytes HT6 HT7
    have HO7 := Lib.hid ((HO6.out.below HB7.out).alloc (.cells #[.int .i64 (drainSt s1 1073741824).limit, .slice bo7 m7 bc7, .bool (drainSt s1 1073741824).closed] 29))
    clear HT7 HR7 HN7 HO6 HR6 z0 z1 z2
    go_wp2_with fail
    refine (h17 HO7 HZ.out).mono ?_
    rintro e w8 ⟨rfl, rfl⟩
    go_wp2_with fail
    refine (h22 HO7 HZ.out).mono ?_
    rintro e w9 ⟨ao9, cap9, rfl, HB9⟩
    go_wp2
    go_ret
    exact ⟨rfl, (HO7.out.below HB9.out).bel⟩
end Go.Proofs.Ytbfmfliknhcoeaa
