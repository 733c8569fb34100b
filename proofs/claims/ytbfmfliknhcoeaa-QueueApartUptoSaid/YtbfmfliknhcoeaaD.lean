/- (*Queue).lay: lines of an owner are laid in, or are not. -/
import Derived.Test.YtbfmfliknhcoeaaC
namespace Go.Proofs.Ytbfmfliknhcoeaa
open Go.RowKit QP

theorem join_lines : ∀ (ls : List ByteArray), ls ≠ [] → Lib.join (ls.map (·.data.toList)) [10] ++ [10] = lineBytes ls := by
  intro ls
  induction ls with
  | nil => intro h; exact absurd rfl h
  | cons a r ih =>
    intro _
    cases r with
    | nil => simp [Lib.join_one, lineBytes, QP.bytes]
    | cons c r =>
      have h := ih (by simp)
      rw [lineBytes_cons, ← h, List.map_cons, Lib.join_cons, List.map_cons, Lib.join_cons]
      simp [Lib.joinTail, QP.bytes, List.append_assoc]

theorem QSt.mod {w w' : World} {b : Nat} {g : Option Nat} {s : St} {F : Nat → Prop} (h : QSt w b g s) (hm : Mod F w w') (hF : ∀ k, foot b g k → ¬ F k) : QSt w' b g s := by
  obtain ⟨sv, ps, hb, hr, hg, hgb, hfl, hok⟩ := h
  exact ⟨sv, ps, hb.keep hm (hF b (.inl rfl)), hr.mod hm fun k hk => hF k (.inr (hg.symm.trans hk)), hg, hgb, hfl, hok⟩
theorem QSt.alloc {w : World} {b : Nat} {g : Option Nat} {s : St} (h : QSt w b g s) (o : Obj) : QSt (w.alloc o) b g s := h.mod ((Mod.refl (fun _ => False) w).alloc o) fun _ _ h => h
theorem QSt.below {w w' : World} {b : Nat} {g : Option Nat} {s : St} (h : QSt w b g s) (hb : Below w.heap.size w w') : QSt w' b g s := h.mod (Mod.of_below hb fun _ => False) fun _ _ h => h

set_option maxHeartbeats 1000000 in
set_option maxRecDepth 100000 in
theorem lay_c (b : Nat) (g : Option Nat) (s : St) (pane tick most full : Int) (ls : List ByteArray) (ao : Option Addr) (cap : Nat) (w : World) (h : QSt w b g s) (hr : Rd w 1 (.slice ao ls.length cap) ls.length (strs ls))
    (hpt : pane = 0 → tick = 0) (hp0 : 0 ≤ pane) (hl : s.fl.length ≤ 900000) (hb : (lineBytes ls).length ≤ 4000000) (hn : ls.length ≤ 4000000) :
    Calls Try.prog 45 #[.pointer (some ⟨b, 0, none⟩), .agg #[.int .i64 pane, .int .i64 tick], .slice ao ls.length cap, .int .i64 most, .int .i64 full] w fun e w' =>
      e = .returned (.int .i64 (layCode s ls most full)) ∧ ∃ g', QSt w' b g' (laySt s pane tick ls most) ∧ NewG w g g' ∧ Mod (foot b g) w w' := by
  obtain ⟨sv, ps, hB, hR, hg, hgb, hfl, hok⟩ := id h
  have c1 := hB.cell 1
  have c3 := hB.cell 3
  have hblt := hB.lt
  simp only [List.getElem?_toArray, List.getElem?_cons_succ, List.getElem?_cons_zero] at c1 c3
  have HQ := Lib.hid h
  have HR := Lib.hid hr
  clear h hr hB hR hg hgb hfl hok
  by_cases h1 : ls.all goodLine = true
  · by_cases h2 : s.closed = true
    · have hcode : layCode s ls most full = 141 := by simp [layCode, h1, h2]
      have hst : laySt s pane tick ls most = s := by simp [laySt, h1, h2]
      have hA : (!ls.all goodLine) = false := by simp [h1]
      rw [h2] at c3
      rw [hcode, hst]
      clear hcode hst h1 h2
      go_enter Try.func45, Try.ntmps45
      go_wp2_with (go_at_call 54; refine (containsFunc_c ls ao cap _ (HR.out.alloc _) (by omega)).mono ?_; rintro e w' ⟨rfl, rfl⟩)
      go_ret
      exact ⟨rfl, g, HQ.out.alloc _, .inl rfl, (Mod.refl _ w).alloc _⟩
    · have hA : (!ls.all goodLine) = false := by simp [h1]
      have h2' : s.closed = false := by simpa using h2
      rw [h2'] at c3
      by_cases h3 : ls = []
      · have hcode : layCode s ls most full = 0 := by rw [h3] at h1 ⊢; simp [layCode, h2']
        have hst : laySt s pane tick ls most = s := by rw [h3] at h1 ⊢; simp [laySt, h2']
        have hlen : ls.length = 0 := by rw [h3]; rfl
        have hz : ((ls.length : Int) == 0) = true := by simp [hlen]
        rw [hcode, hst]
        clear hcode hst h1 h2 h2' h3 hlen
        go_enter Try.func45, Try.ntmps45
        go_wp2_with (go_at_call 54; refine (containsFunc_c ls ao cap _ (HR.out.alloc _) (by omega)).mono ?_; rintro e w' ⟨rfl, rfl⟩)
        go_ret
        exact ⟨rfl, g, HQ.out.alloc _, .inl rfl, (Mod.refl _ w).alloc _⟩
      · have hpos : 0 < ls.length := List.length_pos_iff.2 h3
        have hz : ((ls.length : Int) == 0) = false := by simp; omega
        obtain ⟨bk, o, cap', hv, hnc, hcells⟩ := HR.out.at_ hpos
        cases hv
        have hbk : bk < w.heap.size := World.block_lt_of_cell? w _ (hcells 0 _ (strs_get ls 0 hpos))
        have hj := join_lines ls h3
        have HC := Lib.hid (fun (j : Nat) (x : ByteArray) (hx : ls[j]? = some x) => hcells j (.string x) (by simp [strs, hx]))
        have hjl : (Lib.join (ls.map (·.data.toList)) (⟨#[10]⟩ : ByteArray).data.toList).length + 1 = (lineBytes ls).length := by
          have := congrArg List.length hj
          simpa using this
        have HJ := Lib.hid hj
        have HJL := Lib.hid hjl
        have hjlen : (Lib.join (ls.map (·.data.toList)) (⟨#[10]⟩ : ByteArray).data.toList).length ≤ 4000000 := by omega
        have HJL2 := Lib.hid hjlen
        clear hcells hj hjl hjlen
        by_cases h4 : (s.fl.length : Int) + (lineBytes ls).length > most
        · have hcode : layCode s ls most full = full := by simp only [layCode, h1, h2', h3, if_pos h4]; simp
          have hst : laySt s pane tick ls most = s := by simp only [laySt, h1, h2', h3, if_pos h4]; simp
          rw [hcode, hst]
          clear hcode hst h1 h2 h2' h3
          go_enter Try.func45, Try.ntmps45
          go_wp2_with (go_at_call 54; refine (containsFunc_c ls _ cap _ (HR.out.alloc _) (by omega)).mono ?_; rintro e w' ⟨rfl, rfl⟩)
          refine (Try.strings_Join bk o cap ls ⟨#[10]⟩ _ (fun j x hx => by rw [World.cell?_alloc_lt w _ ⟨bk, o + j, none⟩ hbk]; exact HC.out j x hx) (by simp; omega) (by omega) hnc (Nat.le_trans HJL2.out (by omega))).mono ?_
          rintro e w1 ⟨he, hb1⟩
          obtain ⟨J, hJ⟩ : ∃ J : ByteArray, J = ⟨(Lib.join (ls.map (·.data.toList)) (⟨#[10]⟩ : ByteArray).data.toList).toArray⟩ := ⟨_, rfl⟩
          rw [← hJ] at he
          subst he
          have hJb : QP.bytes J ++ [10] = lineBytes ls := by rw [hJ]; exact HJ.out
          have hJs : J.size + 1 = (lineBytes ls).length := by rw [← hJb, List.length_append, bytes_length]; rfl
          have hJs4 : J.size ≤ 4000000 := by omega
          have HQ1 := Lib.hid ((HQ.out.alloc _).below hb1)
          have k1 : w1.cell? ⟨b, 1, none⟩ = some (.int .i64 s.fl.length) := by
            rw [hb1.cell (p := ⟨b, 1, none⟩) (by simp; omega), World.cell?_alloc_lt w _ ⟨b, 1, none⟩ hblt]; exact c1
          have hbox : Blk w1 w.heap.size 74 #[.int .i64 pane, .int .i64 tick] := (hb1.block w.heap.size (by simp)).trans (Blk.new w 74 _)
          have k2 : w1.cell? ⟨w.heap.size, 0, none⟩ = some (.int .i64 pane) := hbox.cell 0
          have k3 : w1.cell? ⟨w.heap.size, 1, none⟩ = some (.int .i64 tick) := hbox.cell 1
          have HB1 := Lib.hid hb1
          have HJB := Lib.hid hJb
          have HJS := Lib.hid hJs
          clear hb1 hbox hJ hJb
          have h4' : decide (most < (s.fl.length : Int) + ((J.size : Int) + 1)) = true := by simp; omega
          clear hJs h4
          go_wp2
          go_ret
          exact ⟨rfl, g, HQ1.out, .inl rfl, ((Mod.refl _ w).alloc _).trans (Mod.of_below HB1.out _)⟩
        · have hcode : layCode s ls most full = 0 := by simp only [layCode, h1, h2', h3, if_neg h4]; simp
          have hst : laySt s pane tick ls most = { s with fl := s.fl ++ tag pane tick (lineBytes ls) } := by simp only [laySt, h1, h2', h3, if_neg h4]; simp
          rw [hcode, hst]
          clear hcode hst h1 h2 h2' h3
          go_enter Try.func45, Try.ntmps45
          go_wp2_with (go_at_call 54; refine (containsFunc_c ls _ cap _ (HR.out.alloc _) (by omega)).mono ?_; rintro e w' ⟨rfl, rfl⟩)
          refine (Try.strings_Join bk o cap ls ⟨#[10]⟩ _ (fun j x hx => by rw [World.cell?_alloc_lt w _ ⟨bk, o + j, none⟩ hbk]; exact HC.out j x hx) (by simp; omega) (by omega) hnc (Nat.le_trans HJL2.out (by omega))).mono ?_
          rintro e w1 ⟨he, hb1⟩
          obtain ⟨J, hJ⟩ : ∃ J : ByteArray, J = ⟨(Lib.join (ls.map (·.data.toList)) (⟨#[10]⟩ : ByteArray).data.toList).toArray⟩ := ⟨_, rfl⟩
          rw [← hJ] at he
          subst he
          have hJb : QP.bytes J ++ [10] = lineBytes ls := by rw [hJ]; exact HJ.out
          have hJs : J.size + 1 = (lineBytes ls).length := by rw [← hJb, List.length_append, bytes_length]; rfl
          have hJs4 : J.size ≤ 4000000 := by omega
          have HQ1 := Lib.hid ((HQ.out.alloc _).below hb1)
          have k1 : w1.cell? ⟨b, 1, none⟩ = some (.int .i64 s.fl.length) := by
            rw [hb1.cell (p := ⟨b, 1, none⟩) (by simp; omega), World.cell?_alloc_lt w _ ⟨b, 1, none⟩ hblt]; exact c1
          have hbox : Blk w1 w.heap.size 74 #[.int .i64 pane, .int .i64 tick] := (hb1.block w.heap.size (by simp)).trans (Blk.new w 74 _)
          have k2 : w1.cell? ⟨w.heap.size, 0, none⟩ = some (.int .i64 pane) := hbox.cell 0
          have k3 : w1.cell? ⟨w.heap.size, 1, none⟩ = some (.int .i64 tick) := hbox.cell 1
          have HB1 := Lib.hid hb1
          have HJB := Lib.hid hJb
          have HJS := Lib.hid hJs
          clear hb1 hbox hJ hJb
          have h4' : decide (most < (s.fl.length : Int) + ((J.size : Int) + 1)) = false := by simp; omega
          clear hJs h4
          go_wp2_with fail
          have hsize : (J ++ (⟨#[10]⟩ : ByteArray)).size = J.size + 1 := by simp; rfl
          have htag : tagged ⟨pane, tick, J ++ (⟨#[10]⟩ : ByteArray)⟩ = tag pane tick (lineBytes ls) := by rw [← HJB.out]; simp [tagged, tag, bytes_append]; rfl
          have hokp : okPart ⟨pane, tick, J ++ (⟨#[10]⟩ : ByteArray)⟩ := ⟨by rw [hsize]; omega, hpt, hp0⟩
          have hsz2 : (J ++ (⟨#[10]⟩ : ByteArray)).size ≤ 10000000 := by rw [hsize]; omega
          have hadd := add_c b g s ⟨pane, tick, J ++ (⟨#[10]⟩ : ByteArray)⟩ w1 HQ1.out hokp (by omega) hsz2
          dsimp only at hadd
          with_reducible refine hadd.mono ?_
          rintro e w2 ⟨rfl, g2, hq2, hn2, hm2⟩
          rw [htag] at hq2
          have HQ2 := Lib.hid hq2
          have HM2 := Lib.hid hm2
          clear hq2 hm2 htag hsize
          go_wp2
          go_ret
          refine ⟨rfl, g2, HQ2.out, ?_, (((Mod.refl _ w).alloc _).trans (Mod.of_below HB1.out _)).trans HM2.out⟩
          rcases hn2 with hn2 | ⟨k, hk, hk2⟩
          · exact .inl hn2
          · exact .inr ⟨k, hk, by have := HB1.out.size; simp at this; omega⟩
  · have hA : (!ls.all goodLine) = true := by simpa using h1
    have hcode : layCode s ls most full = 1 := by simp [layCode, h1]
    have hst : laySt s pane tick ls most = s := by simp [laySt, h1]
    rw [hcode, hst]
    clear hcode hst h1
    go_enter Try.func45, Try.ntmps45
    go_wp2_with (go_at_call 54; refine (containsFunc_c ls ao cap _ (HR.out.alloc _) (by omega)).mono ?_; rintro e w' ⟨rfl, rfl⟩)
    go_ret
    exact ⟨rfl, g, HQ.out.alloc _, .inl rfl, (Mod.refl _ w).alloc _⟩
end Go.Proofs.Ytbfmfliknhcoeaa
