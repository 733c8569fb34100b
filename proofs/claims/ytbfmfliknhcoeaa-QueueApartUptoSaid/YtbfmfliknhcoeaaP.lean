/- The queue, in plain Lean: the program's parts and the document's items as tagged bytes. -/
namespace Go.Proofs.Ytbfmfliknhcoeaa.QP

structure Part where
  pane : Int
  tick : Int
  text : ByteArray

def bytes (s : ByteArray) : List UInt8 := s.data.toList
def tagged (p : Part) : List (Int × Int × UInt8) := (bytes p.text).map fun b => (p.pane, p.tick, b)
def flat (ps : List Part) : List (Int × Int × UInt8) := ps.flatMap tagged

theorem bytes_append (a b : ByteArray) : bytes (a ++ b) = bytes a ++ bytes b := by simp [bytes]
theorem bytes_length (a : ByteArray) : (bytes a).length = a.size := by simp [bytes]

/-- the program's add -/
def pAdd : List Part → Part → List Part
  | [], p => [p]
  | [x], p => if x.pane = p.pane ∧ x.tick = p.tick then [{ x with text := x.text ++ p.text }] else [x, p]
  | x :: y :: r, p => x :: pAdd (y :: r) p

theorem flat_cons (p : Part) (ps : List Part) : flat (p :: ps) = tagged p ++ flat ps := by simp [flat]
theorem flat_nil : flat [] = [] := rfl
theorem flat_append (a b : List Part) : flat (a ++ b) = flat a ++ flat b := by simp [flat]

theorem flat_pAdd (ps : List Part) (p : Part) : flat (pAdd ps p) = flat ps ++ tagged p := by
  induction ps with
  | nil => simp [pAdd, flat]
  | cons x r ih =>
    cases r with
    | nil =>
      simp only [pAdd]
      split
      · rename_i h
        simp [flat, tagged, bytes_append, h.1, h.2]
      · simp [flat]
    | cons y r => simp only [pAdd, flat_cons x, ih, List.append_assoc]

/-- every part has bytes; output has a pane above 0 and a tick from 0 on, what is no output has neither -/
def okPart (p : Part) : Prop := 0 < p.text.size ∧ (p.pane = 0 → p.tick = 0) ∧ 0 ≤ p.pane
def okParts (ps : List Part) : Prop := ∀ p ∈ ps, okPart p

theorem ok_pAdd {ps : List Part} {p : Part} (h : okParts ps) (hp : okPart p) : okParts (pAdd ps p) := by
  induction ps with
  | nil => simpa [pAdd, okParts] using hp
  | cons x r ih =>
    cases r with
    | nil =>
      have hx : okPart x := h x (by simp)
      simp only [pAdd]
      split
      · intro q hq
        simp at hq
        subst hq
        refine ⟨?_, hx.2.1, hx.2.2⟩
        have := hx.1
        simp; omega
      · intro q hq
        simp at hq
        rcases hq with rfl | rfl
        · exact hx
        · exact hp
    | cons y r =>
      intro q hq
      simp only [pAdd, List.mem_cons] at hq
      rcases hq with rfl | hq
      · exact h _ (by simp)
      · exact ih (fun z hz => h z (by simp [hz])) q hq

theorem pAdd_ne (ps : List Part) (p : Part) : pAdd ps p ≠ [] := by
  cases ps with
  | nil => simp [pAdd]
  | cons x r => cases r with
    | nil => simp only [pAdd]; split <;> simp
    | cons y r => simp [pAdd]

/-- the program's drain: the bytes, the parts behind it -/
def pDrain : Int → List Part → ByteArray × List Part
  | _, [] => (ByteArray.empty, [])
  | n, p :: r =>
    if n ≤ 0 then (ByteArray.empty, p :: r)
    else if (p.text.size : Int) ≤ n then
      ((p.text ++ (pDrain (n - p.text.size) r).1), (pDrain (n - p.text.size) r).2)
    else (p.text.extract 0 n.toNat, { p with text := p.text.extract n.toNat p.text.size } :: r)

def lett (l : List (Int × Int × UInt8)) : List UInt8 := l.map fun x => x.2.2
theorem lett_tagged (p : Part) : lett (tagged p) = bytes p.text := by simp [lett, tagged, Function.comp_def]
theorem tagged_length (p : Part) : (tagged p).length = p.text.size := by simp [tagged, bytes_length]
theorem lett_append (a b : List (Int × Int × UInt8)) : lett (a ++ b) = lett a ++ lett b := by simp [lett]

theorem bytes_extract (s : ByteArray) (a b : Nat) : bytes (s.extract a b) = ((bytes s).drop a).take (b - a) := by
  simp [bytes, ByteArray.data_extract, Array.toList_extract, List.extract_eq_take_drop]

theorem pDrain_le (n : Int) (ps : List Part) (h : n ≤ 0) : pDrain n ps = (ByteArray.empty, ps) := by
  cases ps with
  | nil => simp [pDrain]
  | cons p r => simp [pDrain, h]

theorem flat_pDrain (ps : List Part) : ∀ n : Int, bytes (pDrain n ps).1 = lett ((flat ps).take n.toNat) ∧ flat (pDrain n ps).2 = (flat ps).drop n.toNat := by
  induction ps with
  | nil => intro n; simp [pDrain, flat, lett, bytes]
  | cons p r ih =>
    intro n
    by_cases h : n ≤ 0
    · have h0 : n.toNat = 0 := by omega
      simp [pDrain, h, h0, lett, bytes]
    · by_cases h2 : (p.text.size : Int) ≤ n
      · obtain ⟨i1, i2⟩ := ih (n - p.text.size)
        have hn : (n - (p.text.size : Int)).toNat = n.toNat - p.text.size := by omega
        simp only [pDrain, h, h2, if_false, if_true, flat_cons]
        rw [bytes_append, i1, i2, hn]
        have hl := tagged_length p
        constructor
        · rw [List.take_append, lett_append, hl, List.take_of_length_le (l := tagged p) (by omega), lett_tagged]
        · rw [List.drop_append, hl, List.drop_eq_nil_of_le (as := tagged p) (by omega), List.nil_append]
      · simp only [pDrain, h, h2, if_false, flat_cons]
        have hl := tagged_length p
        have hlt : n.toNat < p.text.size := by omega
        constructor
        · rw [List.take_append_of_le_length (by omega), bytes_extract]
          simp [lett, tagged, List.map_take, Function.comp_def]
        · rw [List.drop_append_of_le_length (by omega)]
          congr 1
          simp only [tagged, bytes_extract]
          rw [List.map_take, List.map_drop, List.take_of_length_le]
          simp [bytes_length]

theorem ok_pDrain (ps : List Part) (h : okParts ps) : ∀ n, okParts (pDrain n ps).2 := by
  induction ps with
  | nil => intro n; simpa [pDrain] using h
  | cons p r ih =>
    intro n
    have hp : okPart p := h p (by simp)
    have hr : okParts r := fun x hx => h x (by simp [hx])
    simp only [pDrain]
    split
    · exact h
    · split
      · exact ih hr _
      · intro q hq
        simp only [List.mem_cons] at hq
        rcases hq with rfl | hq
        · refine ⟨?_, hp.2.1, hp.2.2⟩
          simp only [ByteArray.size_extract]
          omega
        · exact hr q hq

/-! ### what is told -/
abbrev Fl := List (Int × Int × UInt8)
def paneIn (fl : Fl) (x : Int) : Prop := ∃ t ∈ fl, t.1 = x
/-- the tick of a pane's first byte -/
def aOldest (fl : Fl) (x : Int) : Option Int := if x ≤ 0 then none else (fl.find? fun t => t.1 == x).map fun t => t.2.1

theorem flat_take_succ (ps : List Part) (i : Nat) (h : i < ps.length) : flat (ps.take (i + 1)) = flat (ps.take i) ++ tagged ps[i] := by
  rw [List.take_succ_eq_append_getElem h, flat_append]
  simp [flat]

theorem flat_split (ps : List Part) (i : Nat) (h : i < ps.length) : flat ps = flat (ps.take i) ++ (tagged ps[i] ++ flat (ps.drop (i + 1))) := by
  conv => lhs; rw [← List.take_append_drop i ps]
  rw [flat_append, List.drop_eq_getElem_cons h, flat_cons]

theorem find_append_none {α : Type} {p : α → Bool} {a b : List α} (h : a.find? p = none) : (a ++ b).find? p = b.find? p := by
  rw [List.find?_append, h]; rfl

theorem find_tagged {p : Part} (hp : 0 < p.text.size) (x : Int) (hx : p.pane = x) : ∃ b, (tagged p).find? (fun t => t.1 == x) = some (p.pane, p.tick, b) := by
  have hl : 0 < (bytes p.text).length := by rw [bytes_length]; exact hp
  cases hb : bytes p.text with
  | nil => rw [hb] at hl; simp at hl
  | cons b r => exact ⟨b, by simp [tagged, hb, hx]⟩

theorem find_tagged_none (p : Part) (x : Int) (hx : p.pane ≠ x) : (tagged p).find? (fun t => t.1 == x) = none := by
  simp [tagged, hx]

/-- no part so far is of that pane -/
theorem none_succ (ps : List Part) (i : Nat) (x : Int) (h : i < ps.length) (h0 : (flat (ps.take i)).find? (fun t => t.1 == x) = none) (hx : ps[i].pane ≠ x) :
    (flat (ps.take (i + 1))).find? (fun t => t.1 == x) = none := by
  rw [flat_take_succ ps i h, find_append_none h0]
  exact find_tagged_none _ _ hx

theorem found_at (ps : List Part) (i : Nat) (x : Int) (h : i < ps.length) (hp : 0 < ps[i].text.size) (hpos : 0 < x)
    (h0 : (flat (ps.take i)).find? (fun t => t.1 == x) = none) (hx : ps[i].pane = x) : aOldest (flat ps) x = some ps[i].tick := by
  obtain ⟨b, hb⟩ := find_tagged hp x hx
  unfold aOldest
  rw [if_neg (by omega), flat_split ps i h, find_append_none h0, List.find?_append, hb]
  simp

theorem found_none (ps : List Part) (x : Int) (h0 : (flat ps).find? (fun t => t.1 == x) = none) : aOldest (flat ps) x = none := by
  unfold aOldest; rw [h0]; simp

theorem found_low (fl : Fl) (x : Int) (h : x ≤ 0) : aOldest fl x = none := by simp [aOldest, h]

/-- the panes that have output: rising, each once -/
def IsPanes (fl : Fl) (xs : List Int) : Prop := xs.Pairwise (· < ·) ∧ ∀ x, x ∈ xs ↔ 0 < x ∧ paneIn fl x

theorem rising_unique : ∀ {xs ys : List Int}, xs.Pairwise (· < ·) → ys.Pairwise (· < ·) → (∀ x, x ∈ xs ↔ x ∈ ys) → xs = ys
  | [], [], _, _, _ => rfl
  | [], y :: ys, _, _, h => by have := (h y).2 (by simp); simp at this
  | x :: xs, [], _, _, h => by have := (h x).1 (by simp); simp at this
  | x :: xs, y :: ys, hx, hy, h => by
    rw [List.pairwise_cons] at hx hy
    have hxy : x = y := by
      have h1 := (h x).1 (by simp)
      have h2 := (h y).2 (by simp)
      simp only [List.mem_cons] at h1 h2
      rcases h1 with h1 | h1
      · exact h1
      · rcases h2 with h2 | h2
        · exact h2.symm
        · have := hx.1 y h2
          have := hy.1 x h1
          omega
    subst hxy
    congr 1
    refine rising_unique hx.2 hy.2 fun z => ?_
    have hz := h z
    simp only [List.mem_cons] at hz
    constructor
    · intro hm
      have := hx.1 z hm
      rcases hz.1 (.inr hm) with h3 | h3
      · omega
      · exact h3
    · intro hm
      have := hy.1 z hm
      rcases hz.2 (.inr hm) with h3 | h3
      · omega
      · exact h3

theorem IsPanes.unique {fl : Fl} {xs ys : List Int} (h : IsPanes fl xs) (k : IsPanes fl ys) : xs = ys :=
  rising_unique h.1 k.1 fun x => (h.2 x).trans (k.2 x).symm

theorem paneIn_flat {ps : List Part} (h : okParts ps) (x : Int) : paneIn (flat ps) x ↔ ∃ p ∈ ps, p.pane = x := by
  constructor
  · rintro ⟨t, ht, rfl⟩
    simp only [flat, List.mem_flatMap] at ht
    obtain ⟨p, hp, ht⟩ := ht
    simp only [tagged, List.mem_map] at ht
    obtain ⟨b, _, rfl⟩ := ht
    exact ⟨p, hp, rfl⟩
  · rintro ⟨p, hp, rfl⟩
    have hs := (h p hp).1
    have hl : 0 < (bytes p.text).length := by rw [bytes_length]; exact hs
    cases hb : bytes p.text with
    | nil => rw [hb] at hl; simp at hl
    | cons b r =>
      exact ⟨(p.pane, p.tick, b), by simp only [flat, List.mem_flatMap]; exact ⟨p, hp, by simp [tagged, hb]⟩, rfl⟩

/-! ### lines -/
def goodLine (s : ByteArray) : Bool := decide (s.size ≤ 8192) && !(bytes s).contains 10
def lineBytes (l : List ByteArray) : List UInt8 := l.flatMap fun s => bytes s ++ [10]
def tag (pane tick : Int) (l : List UInt8) : Fl := l.map fun b => (pane, tick, b)

theorem lineBytes_nil : lineBytes [] = [] := rfl
theorem lineBytes_cons (s : ByteArray) (l : List ByteArray) : lineBytes (s :: l) = bytes s ++ [10] ++ lineBytes l := by simp [lineBytes]
theorem lineBytes_append (a b : List ByteArray) : lineBytes (a ++ b) = lineBytes a ++ lineBytes b := by simp [lineBytes]
theorem lineBytes_take_succ (l : List ByteArray) (i : Nat) (h : i < l.length) : lineBytes (l.take (i + 1)) = lineBytes (l.take i) ++ (bytes l[i] ++ [10]) := by
  rw [List.take_succ_eq_append_getElem h, lineBytes_append]
  simp [lineBytes]
theorem lineBytes_pos {l : List ByteArray} (h : l ≠ []) : 0 < (lineBytes l).length := by
  cases l with
  | nil => exact absurd rfl h
  | cons a r => simp only [lineBytes_cons, List.length_append, List.length_cons, List.length_nil]; omega
theorem tag_append (p t : Int) (a b : List UInt8) : tag p t (a ++ b) = tag p t a ++ tag p t b := by simp [tag]

/-- the state that both sides stand for -/
structure St where
  limit : Int
  fl : Fl
  closed : Bool

def layCode (s : St) (lines : List ByteArray) (most full : Int) : Int :=
  if !lines.all goodLine then 1 else if s.closed then 141 else if lines = [] then 0 else if (s.fl.length : Int) + (lineBytes lines).length > most then full else 0
def laySt (s : St) (pane tick : Int) (lines : List ByteArray) (most : Int) : St :=
  if !lines.all goodLine then s else if s.closed then s else if lines = [] then s else if (s.fl.length : Int) + (lineBytes lines).length > most then s else
    { s with fl := s.fl ++ tag pane tick (lineBytes lines) }
def outCode (s : St) (pane tick : Int) (lines : List ByteArray) : Int :=
  if pane < 1 ∨ pane > 4611686018427387904 ∨ tick < 0 then 1 else layCode s lines s.limit 3
def outSt (s : St) (pane tick : Int) (lines : List ByteArray) : St :=
  if pane < 1 ∨ pane > 4611686018427387904 ∨ tick < 0 then s else laySt s pane tick lines s.limit
def putCode (s : St) (lines : List ByteArray) : Int := layCode s lines (s.limit + 32768) 140
def putSt (s : St) (lines : List ByteArray) : St := laySt s 0 0 lines (s.limit + 32768)
def endCode (s : St) (line : ByteArray) : Int := if !goodLine line then 1 else if s.closed then 141 else 0
def endSt (s : St) (line : ByteArray) : St := if !goodLine line then s else if s.closed then s else { s with fl := s.fl ++ tag 0 0 (bytes line ++ [10]), closed := true }
def drainSt (s : St) (n : Int) : St := { s with fl := s.fl.drop n.toNat }
def drained (s : St) (n : Int) : List UInt8 := lett (s.fl.take n.toNat)
end Go.Proofs.Ytbfmfliknhcoeaa.QP
