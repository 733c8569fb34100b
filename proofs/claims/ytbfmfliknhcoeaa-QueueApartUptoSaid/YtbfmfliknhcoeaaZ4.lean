/- QueuePlays, walked. -/
import Derived.Test.YtbfmfliknhcoeaaZ2
namespace Go.Proofs.Ytbfmfliknhcoeaa
open Go.RowKit QP

theorem Blk.six {w : World} {g : Nat} {a b c : Value} (h : Blk w g 29 #[a, b, c]) : w.cell? ⟨g, 0, none⟩ = some a ∧ w.cell? ⟨g, 1, none⟩ = some b ∧ w.cell? ⟨g, 2, none⟩ = some c ∧ w.frozen? ⟨g, 0, none⟩ = false ∧ w.frozen? ⟨g, 1, none⟩ = false ∧ w.frozen? ⟨g, 2, none⟩ = false :=
  ⟨h.cell 0, h.cell 1, h.cell 2, h.frozen 0, h.frozen 1, h.frozen 2⟩

theorem live13s {W w : World} {b : Nat} {g r : Option Nat} {s : St} {S : Nat → Prop} {bo : Option Addr} {n bc : Nat} {o : Opn} {ao : Option Addr} {cap : Nat} (h : Hid (Live W w b g r (.agg #[.int .i64 s.limit, .slice bo n bc, .bool s.closed]) s S)) (ho : Hid (OkOp o)) (ha : Hid (Rd W 1 (.slice ao o.lines.length cap) o.lines.length (strs o.lines))) :
    Calls Try.prog 13 #[.pointer (some ⟨b, 0, none⟩), .agg #[.int .i64 s.limit, .slice bo n bc, .bool s.closed], .agg #[.int .i64 o.kind, .string o.line, .slice ao o.lines.length cap, .int .i64 o.pane, .int .i64 o.tick, .int .i64 o.n]] w fun e w' =>
      ∃ (s3 : St) (bo' : Option Addr) (n' bc' : Nat) (g' r' : Option Nat), e = .returned (.tuple #[.agg #[.int .i64 s3.limit, .slice bo' n' bc', .bool s3.closed], .bool true]) ∧
      Hid (Live W w' b g' r' (.agg #[.int .i64 s3.limit, .slice bo' n' bc', .bool s3.closed]) s3 S) ∧ Hid (Mod (foot b g) w w') :=
  (live13 h ho ha).mono fun _ _ ⟨bo', n', bc', g', r', h1, h2, h3⟩ => ⟨_, bo', n', bc', g', r', h1, h2, h3⟩

theorem plays_keep {W w1 w2 : World} {k6 b gg o : Nat} {g r : Option Nat} {v a c d : Value} {s : St} {S : Nat → Prop} {x : OpAt} (hB : Hid (Blk w1 k6 29 #[a, c, d])) (hb : Hid (Below w1.heap.size w1 w2)) (h6 : Hid (∀ w, Hid (Below W.heap.size W w) → Six w gg o x)) (hL : Hid (Live W w2 b g r v s S)) :
    w2.cell? ⟨k6, 0, none⟩ = some a ∧ w2.cell? ⟨k6, 1, none⟩ = some c ∧ w2.cell? ⟨k6, 2, none⟩ = some d ∧ w2.cell? ⟨gg, o + 3, none⟩ = some (.int .i64 x.o.pane) ∧ Hid (Live W w2 b g r v s S) ∧ Hid (Blk w2 k6 29 #[a, c, d]) := by
  have h : Blk w2 k6 29 #[a, c, d] := (hb.out.block _ hB.out.lt).trans hB.out
  obtain ⟨-, -, -, h3, -, -⟩ := h6.out w2 (Lib.hid hL.out.both.own.bel)
  exact ⟨h.cell 0, h.cell 1, h.cell 2, h3, hL, Lib.hid h⟩

set_option maxHeartbeats 1000000 in
set_option maxRecDepth 100000 in
theorem plays_c (limit : Int) (so : Option Addr) (scap : Nat) (xs : List OpAt) (w : World) (hs : Script w so scap xs) :
    Calls Try.prog 7 #[.int .i64 limit, .slice so xs.length scap] w fun e w' => e = .returned (.bool true) ∧ Below w.heap.size w w' := by
  have HS := Lib.hid hs
  clear hs
  by_cases hl : limit < 0 ∨ 65536 < limit
  · go_enter Try.func7, Try.ntmps7
    go_wp2_with fail
    refine (made_no limit w hl).mono ?_
    rintro e w1 ⟨rfl, hb⟩
    have HB := Lib.hid hb
    clear hb hl
    go_wp2
    go_loopw [8, 7] (fun i ok wr => i = .int .i64 0 ∧ ok = .bool true ∧ Hid (Below w.heap.size w wr)) (fun _ _ _ => 0)
    case atStart => exact ⟨rfl, rfl, Lib.hid (HB.out.alloc HB.out.size _)⟩
    case round =>
      obtain ⟨rfl, rfl, HW⟩ := hrel
      go_wp2
      go_ret
      exact ⟨rfl, HW.out⟩
  · go_enter Try.func7, Try.ntmps7
    go_wp2_with fail
    refine (made_c limit w (by omega) (by omega)).mono ?_
    rintro e w1 ⟨b, v, rfl, hb⟩
    obtain ⟨sv, ps, hv, hR, -⟩ := id hb.rr
    obtain ⟨bo, bcap, hsv⟩ := hR.shape
    subst hsv
    subst hv
    have HL := Lib.hid ((live_of (fun _ => False) (Lib.hid hb) (SInv.new (by omega) (by omega)) (Below.refl _ _) (fun _ h => h.elim)).more _ rfl (.cells #[.int .i64 limit, .slice bo ps.length bcap, .bool false] 29))
    have HB6 := Lib.hid (Blk.new w1 29 #[.int .i64 limit, .slice bo ps.length bcap, .bool false])
    have hw1 := hb.own.bel.size
    clear hb hR hl
    go_wp2
    go_loopw [7, 8] (fun ok i wr => ∃ (k : Nat) (s : St) (g r : Option Nat) (bo : Option Addr) (n bc : Nat), k ≤ xs.length ∧ i = .int .i64 k ∧ ok = .bool true ∧
      Hid (Live w wr b g r (.agg #[.int .i64 s.limit, .slice bo n bc, .bool s.closed]) s (fun j => False ∨ j = w1.heap.size)) ∧ Hid (Blk wr w1.heap.size 29 #[.int .i64 s.limit, .slice bo n bc, .bool s.closed])) (fun _ i _ => xs.length - (intOf i).toNat)
    case atStart => exact ⟨0, ⟨limit, [], false⟩, _, _, _, _, _, Nat.zero_le _, rfl, rfl, HL, HB6⟩
    case round =>
      clear HL HB6
      obtain ⟨k, s, g, r, bo, n, bc, hk, rfl, rfl, HL, HB6⟩ := hrel
      have hxl := HS.out.len
      obtain ⟨z0, z1, z2, y0, y1, y2⟩ := HB6.out.six
      by_cases hlt : k < xs.length
      · obtain ⟨gg, off, hso, hnc, hsix⟩ := HS.out.at_ k hlt
        subst hso
        have H6 := Lib.hid hsix
        have HOK := Lib.hid (HS.out.ok xs[k] (List.getElem_mem hlt))
        have HAR := Lib.hid (HS.out.arg xs[k] (List.getElem_mem hlt))
        have HL1 := Lib.hid HL.out.drew
        have HB61 := Lib.hid HB6.out.drew
        have hk0 : (0 : Int) ≤ (k : Int) := by omega
        have hk1 : (k : Int) < (xs.length : Int) := by omega
        clear hsix
        obtain ⟨s0, s1, s2, s3, s4, s5, -⟩ := six_keep H6 (Lib.hid HL.out.both.own.bel)
        go_wp2_with fail
        go_region_with (first | (go_at_call 13; with_reducible refine (live13s HL1 HOK HAR).mono ?_; rintro e w' ⟨st, bo', n', bc', g', r', rfl, HL3, HM3⟩; clear z0 z1 z2 y0 y1 y2 s0 s1 s2 s3 s4 s5; obtain ⟨z0, z1, z2, y0, y1, y2⟩ := (HL1.out.box HM3.out (.inr rfl) HB61.out).six; obtain ⟨s0, s1, s2, s3, s4, s5, -⟩ := six_keep H6 (Lib.hid HL3.out.both.own.bel)))
        all_goals
          have HB64 := Lib.hid ((((HL1.out.box HM3.out (.inr rfl) HB61.out).set_ 0 (.int .i64 st.limit)).set_ 1 (.slice bo' n' bc')).set_ 2 (.bool st.closed))
          have HL4 := Lib.hid (HL3.out.mod (mod3 w' w1.heap.size (.int .i64 st.limit) (.slice bo' n' bc') (.bool st.closed)) fun k e => ⟨.inr e, by omega⟩)
          have HL5 := Lib.hid HL4.out.drew
          have HB65 := Lib.hid HB64.out.drew
          go_wp2_with fail
          try simp only [Act.put, List.getElem_toArray, List.getElem_cons_succ, List.getElem_cons_zero, List.setIfInBounds_toArray, List.set_cons_zero, List.set_cons_succ]
          have HRF := Lib.hid (Below.refl ((((w'.setCell ⟨w1.heap.size, 0, none⟩ (.int .i64 st.limit)).setCell ⟨w1.heap.size, 1, none⟩ (.slice bo' n' bc')).setCell ⟨w1.heap.size, 2, none⟩ (.bool st.closed)).drew).heap.size ((((w'.setCell ⟨w1.heap.size, 0, none⟩ (.int .i64 st.limit)).setCell ⟨w1.heap.size, 1, none⟩ (.slice bo' n' bc')).setCell ⟨w1.heap.size, 2, none⟩ (.bool st.closed)).drew))
          go_region_held3 (fun w' => w'.cell? ⟨w1.heap.size, 0, none⟩ = some (.int .i64 st.limit) ∧ w'.cell? ⟨w1.heap.size, 1, none⟩ = some (.slice bo' n' bc') ∧ w'.cell? ⟨w1.heap.size, 2, none⟩ = some (.bool st.closed) ∧
              w'.cell? ⟨gg, off + k * 6 + 3, none⟩ = some (.int .i64 xs[k].o.pane) ∧ Hid (Live w w' b g' r' (.agg #[.int .i64 st.limit, .slice bo' n' bc', .bool st.closed]) st (fun j => False ∨ j = w1.heap.size)) ∧ Hid (Blk w' w1.heap.size 29 #[.int .i64 st.limit, .slice bo' n' bc', .bool st.closed]))
            (first | exact plays_keep HB65 HRF H6 HL5 | exact plays_keep HB65 HB7 H6 HL6)
            (first | (go_at_call 21; with_reducible refine (live_as _ HL5).mono ?_; rintro e w5 ⟨rfl, HL6, HB7⟩))
          rename_i hh
          obtain ⟨-, -, -, -, HL8, HB8⟩ := hh
          go_wp2
          go_roundw
          case rel => exact ⟨k + 1, _, _, _, _, _, _, by omega, by go_num, rfl, HL8, HB8⟩
          case measure => simp [intOf]; omega
      · go_wp2
        go_ret
        exact ⟨rfl, HL.out.both.own.bel⟩
end Go.Proofs.Ytbfmfliknhcoeaa
