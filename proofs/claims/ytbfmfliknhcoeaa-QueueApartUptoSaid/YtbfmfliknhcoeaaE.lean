/- (*Queue).PutAll, Put, Out, End, and what tells of the queue's fields; New. -/
import Derived.Test.YtbfmfliknhcoeaaD
namespace Go.Proofs.Ytbfmfliknhcoeaa
open Go.RowKit QP

/-- What the limits and the bytes of a queue may be. -/
structure Fits (s : St) : Prop where
  lim0 : 0 ≤ s.limit
  lim1 : s.limit ≤ 65536
  len : s.fl.length ≤ 900000

theorem NewG.of_alloc {w w1 : World} {g g' : Option Nat} (h : NewG w1 g g') (hs : w.heap.size ≤ w1.heap.size) : NewG w g g' := by
  rcases h with h | ⟨k, h, hk⟩
  · exact .inl h
  · exact .inr ⟨k, h, by omega⟩

theorem putAll_c (b : Nat) (g : Option Nat) (s : St) (ls : List ByteArray) (ao : Option Addr) (cap : Nat) (w : World) (h : QSt w b g s) (hs : Fits s) (hr : Rd w 1 (.slice ao ls.length cap) ls.length (strs ls))
    (hb : (lineBytes ls).length ≤ 4000000) (hn : ls.length ≤ 4000000) :
    Calls Try.prog 28 #[.pointer (some ⟨b, 0, none⟩), .slice ao ls.length cap] w fun e w' =>
      e = .returned (.int .i64 (putCode s ls)) ∧ ∃ g', QSt w' b g' (putSt s ls) ∧ NewG w g g' ∧ Mod (foot b g) w w' := by
  obtain ⟨sv, ps, hB, _⟩ := id h
  have c0 := hB.cell 0
  simp only [List.getElem?_toArray, List.getElem?_cons_zero] at c0
  have l0 := hs.lim0
  have l1 := hs.lim1
  have HQ := Lib.hid h
  have HR := Lib.hid hr
  clear h hr hB
  have hlay := lay_c b g s 0 0 (s.limit + 32768) 140 ls ao cap w HQ.out HR.out (fun _ => rfl) (by omega) hs.len hb hn
  have HL := Lib.hid hlay
  clear hlay
  go_enter Try.func28, Try.ntmps28
  go_wp2_with (go_at_call 45; with_reducible refine HL.out.mono ?_; rintro e w' ⟨rfl, h2⟩; have H2 := Lib.hid h2; clear h2)
  go_ret
  exact ⟨rfl, H2.out⟩

theorem put_c (b : Nat) (g : Option Nat) (s : St) (line : ByteArray) (w : World) (h : QSt w b g s) (hs : Fits s) (hb : line.size ≤ 3000000) :
    Calls Try.prog 26 #[.pointer (some ⟨b, 0, none⟩), .string line] w fun e w' =>
      e = .returned (.int .i64 (putCode s [line])) ∧ ∃ g', QSt w' b g' (putSt s [line]) ∧ NewG w g g' ∧ Mod (foot b g) w w' := by
  have hall : Calls Try.prog 28 #[.pointer (some ⟨b, 0, none⟩), .slice (some ⟨w.heap.size, 0, none⟩) 1 1] (w.alloc (.cells #[.string line] 9)) _ := putAll_c b g s [line] (some ⟨w.heap.size, 0, none⟩) 1 (w.alloc (.cells #[.string line] 9)) (h.alloc _) hs (Rd.box #[.string line] 9 1 1 _ rfl rfl) (by simp [lineBytes, bytes_length]; omega) (by simp)
  have HL := Lib.hid hall
  clear hall
  go_enter Try.func26, Try.ntmps26
  go_wp2_with (go_at_call 28; with_reducible refine HL.out.mono ?_; rintro e w' ⟨rfl, h2⟩; have H2 := Lib.hid h2; clear h2)
  go_ret
  obtain ⟨g', q, n, m⟩ := H2.out
  exact ⟨rfl, g', q, n.of_alloc (by simp), ((Mod.refl _ w).alloc _).trans m⟩

theorem out_c (b : Nat) (g : Option Nat) (s : St) (pane tick : Int) (ls : List ByteArray) (ao : Option Addr) (cap : Nat) (w : World) (h : QSt w b g s) (hs : Fits s) (hr : Rd w 1 (.slice ao ls.length cap) ls.length (strs ls))
    (hb : (lineBytes ls).length ≤ 4000000) (hn : ls.length ≤ 4000000) :
    Calls Try.prog 30 #[.pointer (some ⟨b, 0, none⟩), .int .i64 pane, .int .i64 tick, .slice ao ls.length cap] w fun e w' =>
      e = .returned (.int .i64 (outCode s pane tick ls)) ∧ ∃ g', QSt w' b g' (outSt s pane tick ls) ∧ NewG w g g' ∧ Mod (foot b g) w w' := by
  obtain ⟨sv, ps, hB, _⟩ := id h
  have c0 := hB.cell 0
  simp only [List.getElem?_toArray, List.getElem?_cons_zero] at c0
  have l0 := hs.lim0
  have l1 := hs.lim1
  have HQ := Lib.hid h
  have HR := Lib.hid hr
  clear h hr hB
  have hno : ∀ w1, w = w1 → (pane < 1 ∨ pane > 4611686018427387904 ∨ tick < 0) → (Ending.returned (.int .i64 1) = .returned (.int .i64 (outCode s pane tick ls)) ∧ ∃ g', QSt w1 b g' (outSt s pane tick ls) ∧ NewG w g g' ∧ Mod (foot b g) w w1) := by
    rintro w1 rfl hc
    rw [outCode, outSt, if_pos hc, if_pos hc]
    exact ⟨rfl, g, HQ.out, .inl rfl, Mod.refl _ _⟩
  have HN := Lib.hid hno
  clear hno
  by_cases h1 : pane < 1
  · have hd : decide (pane < 1) = true := by simpa using h1
    go_enter Try.func30, Try.ntmps30
    go_wp2
    go_ret
    exact HN.out _ rfl (.inl h1)
  · have hd : decide (pane < 1) = false := by simpa using h1
    by_cases h2 : pane > 4611686018427387904
    · have hd2 : decide (4611686018427387904 < pane) = true := by simpa using h2
      go_enter Try.func30, Try.ntmps30
      go_wp2
      go_ret
      exact HN.out _ rfl (.inr (.inl h2))
    · have hd2 : decide (4611686018427387904 < pane) = false := by simpa using h2
      by_cases h3 : tick < 0
      · have hd3 : decide (tick < 0) = true := by simpa using h3
        go_enter Try.func30, Try.ntmps30
        go_wp2
        go_ret
        exact HN.out _ rfl (.inr (.inr h3))
      · have hd3 : decide (tick < 0) = false := by simpa using h3
        have hlay := lay_c b g s pane tick s.limit 3 ls ao cap w HQ.out HR.out (by omega) (by omega) hs.len hb hn
        have hc : ¬ (pane < 1 ∨ pane > 4611686018427387904 ∨ tick < 0) := by omega
        have h1' : outCode s pane tick ls = layCode s ls s.limit 3 := by rw [outCode, if_neg hc]
        have h2' : outSt s pane tick ls = laySt s pane tick ls s.limit := by rw [outSt, if_neg hc]
        rw [h1', h2']
        have HL := Lib.hid hlay
        clear hlay hc h1' h2'
        go_enter Try.func30, Try.ntmps30
        go_wp2_with (go_at_call 45; with_reducible refine HL.out.mono ?_; rintro e w' ⟨rfl, h2⟩; have H2 := Lib.hid h2; clear h2)
        go_ret
        exact ⟨rfl, H2.out⟩

theorem end_c (b : Nat) (g : Option Nat) (s : St) (line : ByteArray) (w : World) (h : QSt w b g s) (hs : Fits s) :
    Calls Try.prog 32 #[.pointer (some ⟨b, 0, none⟩), .string line] w fun e w' =>
      e = .returned (.int .i64 (endCode s line)) ∧ ∃ g', QSt w' b g' (endSt s line) ∧ NewG w g g' ∧ Mod (foot b g) w w' := by
  obtain ⟨sv, ps, hB, _⟩ := id h
  have c3 := hB.cell 3
  simp only [List.getElem?_toArray, List.getElem?_cons_zero, List.getElem?_cons_succ] at c3
  have HQ := Lib.hid h
  clear h hB
  cases hg : goodLine line with
  | false =>
    have h1 : endCode s line = 1 := by simp [endCode, hg]
    have h2 : endSt s line = s := by simp [endSt, hg]
    rw [h1, h2]
    clear h1 h2
    go_enter Try.func32, Try.ntmps32
    go_wp2_with (go_at_call 48; refine (bad_c _ _).mono ?_; rintro e w' ⟨rfl, rfl⟩)
    go_ret
    exact ⟨rfl, g, HQ.out, .inl rfl, Mod.refl _ _⟩
  | true =>
    cases hc : s.closed with
    | true =>
      have h1 : endCode s line = 141 := by simp [endCode, hg, hc]
      have h2 : endSt s line = s := by simp [endSt, hg, hc]
      rw [h1, h2]
      rw [hc] at c3
      clear h1 h2 hc
      go_enter Try.func32, Try.ntmps32
      go_wp2_with (go_at_call 48; refine (bad_c _ _).mono ?_; rintro e w' ⟨rfl, rfl⟩)
      go_ret
      exact ⟨rfl, g, HQ.out, .inl rfl, Mod.refl _ _⟩
    | false =>
      have hls : line.size ≤ 8192 := by have := hg; simp only [goodLine, Bool.and_eq_true, decide_eq_true_eq] at this; exact this.1
      have h1 : endCode s line = 0 := by simp [endCode, hg, hc]
      have h2 : endSt s line = { s with fl := s.fl ++ tag 0 0 (QP.bytes line ++ [10]), closed := true } := by simp [endSt, hg, hc]
      rw [h1, h2]
      have hsize : (line ++ (⟨#[10]⟩ : ByteArray)).size = line.size + 1 := by simp; rfl
      have htag : tagged ⟨0, 0, line ++ (⟨#[10]⟩ : ByteArray)⟩ = tag 0 0 (QP.bytes line ++ [10]) := by simp [tagged, tag, bytes_append]; rfl
      have hokp : okPart ⟨0, 0, line ++ (⟨#[10]⟩ : ByteArray)⟩ := ⟨by rw [hsize]; omega, fun _ => rfl, Int.le_refl _⟩
      have hadd := add_c b g s ⟨0, 0, line ++ (⟨#[10]⟩ : ByteArray)⟩ w HQ.out hokp (by have := hs.len; omega) (by rw [hsize]; omega)
      dsimp only at hadd
      rw [htag] at hadd
      rw [hc] at c3
      have HA := Lib.hid hadd
      have HC := Lib.hid hc
      clear hadd h1 h2 hokp hsize htag hc
      go_enter Try.func32, Try.ntmps32
      go_wp2_with (go_at_call 48; refine (bad_c _ _).mono ?_; rintro e w' ⟨rfl, rfl⟩)
      with_reducible refine HA.out.mono ?_
      rintro e w1 ⟨rfl, g1, q1, n1, m1⟩
      obtain ⟨sv1, ps1, b1, r1⟩ := q1
      have k3 := b1.cell 3
      simp only [List.getElem?_toArray, List.getElem?_cons_zero, List.getElem?_cons_succ] at k3
      have f3 := b1.frozen 3
      have B1 := Lib.hid b1
      have R1 := Lib.hid r1
      have N1 := Lib.hid n1
      have M1 := Lib.hid m1
      clear b1 r1 n1 m1
      go_wp2
      go_ret
      obtain ⟨h3, h4, h5, h6, h7⟩ := R1.out
      refine ⟨rfl, g1, ⟨sv1, ps1, ?_, h3.far (p := ⟨b, 3, none⟩) (by rw [h4]; exact h5) _, h4, h5, h6, h7⟩, N1.out, M1.out.setCell (a := ⟨b, 3, none⟩) (.inl (.inl rfl)) _⟩
      have h8 := B1.out.set_ 3 (.bool true)
      exact h8
end Go.Proofs.Ytbfmfliknhcoeaa
