/- The document's keys, in plain Lean: its reading finds a key just where there is one of that name. -/
import Derived.Test.YtlmnhdpahmaccaaDoorKF
namespace Go.Proofs.YtlmnhdpahmaccaaDoor
open QP

/-- a character's number -/
def okChar (c : Nat) : Bool := decide (c ≤ 1114111) && (decide (c < 55296) || decide (57343 < c))
/-- a character's bytes, as the document writes them -/
def dutf8 (c : Nat) : List UInt8 :=
  if c < 128 then [UInt8.ofNat c] else if c < 2048 then [UInt8.ofNat (192 + c / 64), UInt8.ofNat (128 + c % 64)]
  else if c < 65536 then [UInt8.ofNat (224 + c / 4096), UInt8.ofNat (128 + c / 64 % 64), UInt8.ofNat (128 + c % 64)]
  else [UInt8.ofNat (240 + c / 262144), UInt8.ofNat (128 + c / 4096 % 64), UInt8.ofNat (128 + c / 64 % 64), UInt8.ofNat (128 + c % 64)]
def lows : List Nat := [0, 192, 224, 240]
def tops : List Nat := [127, 223, 239, 247]
def dcont : Nat → List UInt8 → Option Nat
  | c, [] => some c
  | c, b :: r => if b.toNat < 128 ∨ 191 < b.toNat then none else dcont (64 * c + b.toNat - 128) r
/-- what so many bytes are worth as one character -/
def dworth : List UInt8 → Option Nat
  | [] => none
  | b :: r => if b.toNat < lows.getD r.length 0 ∨ tops.getD r.length 0 < b.toNat then none else dcont (b.toNat - lows.getD r.length 0) r
def firstAt (s : List UInt8) (n : Nat) : Option (Nat × Nat) :=
  if s.length < n then none else match dworth (s.take n) with
    | some c => if dutf8 c = s.take n ∧ okChar c = true then some (c, n) else none
    | none => none
/-- the character at the beginning of bytes -/
def dfirst (s : List UInt8) : Option (Nat × Nat) := (List.range 4).findSome? fun k => firstAt s (k + 1)

theorem ofNat_lt {n : Nat} (h : n < 256) : (UInt8.ofNat n).toNat = n := by
  rw [UInt8.toNat_ofNat']
  omega
theorem first1 {c : Nat} {b0 : UInt8} (hw : dworth [b0] = some c) (hd : dutf8 c = [b0]) (h : okChar c = true) : dfirst [b0] = some (c, 1) := by
  simp [dfirst, firstAt, List.range_succ, hw, hd, h]
theorem first2 {c : Nat} {b0 b1 : UInt8} (w1 : dworth [b0] = none) (hw : dworth [b0, b1] = some c) (hd : dutf8 c = [b0, b1]) (h : okChar c = true) : dfirst [b0, b1] = some (c, 2) := by
  simp [dfirst, firstAt, List.range_succ, w1, hw, hd, h]
theorem first3 {c : Nat} {b0 b1 b2 : UInt8} (w1 : dworth [b0] = none) (w2 : dworth [b0, b1] = none) (hw : dworth [b0, b1, b2] = some c) (hd : dutf8 c = [b0, b1, b2]) (h : okChar c = true) : dfirst [b0, b1, b2] = some (c, 3) := by
  simp [dfirst, firstAt, List.range_succ, w1, w2, hw, hd, h]
theorem first4 {c : Nat} {b0 b1 b2 b3 : UInt8} (w1 : dworth [b0] = none) (w2 : dworth [b0, b1] = none) (w3 : dworth [b0, b1, b2] = none) (hw : dworth [b0, b1, b2, b3] = some c) (hd : dutf8 c = [b0, b1, b2, b3]) (h : okChar c = true) : dfirst [b0, b1, b2, b3] = some (c, 4) := by
  simp [dfirst, firstAt, List.range_succ, w1, w2, w3, hw, hd, h]
theorem worth_high {b : UInt8} {r : List UInt8} (h : tops.getD r.length 0 < b.toNat) : dworth (b :: r) = none := by
  rw [dworth, if_pos (.inr h)]
theorem dworth2 {b0 b1 : UInt8} (h0 : 192 ≤ b0.toNat ∧ b0.toNat ≤ 223) (h1 : 128 ≤ b1.toNat ∧ b1.toNat ≤ 191) : dworth [b0, b1] = some (64 * (b0.toNat - 192) + b1.toNat - 128) := by
  rw [dworth, if_neg (by simp [lows, tops]; omega), dcont, if_neg (by omega), dcont]
  rfl
theorem dworth3 {b0 b1 b2 : UInt8} (h0 : 224 ≤ b0.toNat ∧ b0.toNat ≤ 239) (h1 : 128 ≤ b1.toNat ∧ b1.toNat ≤ 191) (h2 : 128 ≤ b2.toNat ∧ b2.toNat ≤ 191) :
    dworth [b0, b1, b2] = some (64 * (64 * (b0.toNat - 224) + b1.toNat - 128) + b2.toNat - 128) := by
  rw [dworth, if_neg (by simp [lows, tops]; omega), dcont, if_neg (by omega), dcont, if_neg (by omega), dcont]
  rfl
theorem dworth4 {b0 b1 b2 b3 : UInt8} (h0 : 240 ≤ b0.toNat ∧ b0.toNat ≤ 247) (h1 : 128 ≤ b1.toNat ∧ b1.toNat ≤ 191) (h2 : 128 ≤ b2.toNat ∧ b2.toNat ≤ 191) (h3 : 128 ≤ b3.toNat ∧ b3.toNat ≤ 191) :
    dworth [b0, b1, b2, b3] = some (64 * (64 * (64 * (b0.toNat - 240) + b1.toNat - 128) + b2.toNat - 128) + b3.toNat - 128) := by
  rw [dworth, if_neg (by simp [lows, tops]; omega), dcont, if_neg (by omega), dcont, if_neg (by omega), dcont, if_neg (by omega), dcont]
  rfl
theorem first_utf8 {c : Nat} (h : okChar c = true) : dfirst (dutf8 c) = some (c, (dutf8 c).length) := by
  have h1 : c ≤ 1114111 := by simp [okChar] at h; omega
  by_cases a1 : c < 128
  · have hd : dutf8 c = [UInt8.ofNat c] := by unfold dutf8; rw [if_pos a1]
    have hw : dworth [UInt8.ofNat c] = some c := by
      simp [dworth, dcont, lows, tops, ofNat_lt (show c < 256 by omega)]
      omega
    rw [hd]
    exact first1 hw hd h
  by_cases a2 : c < 2048
  · have hd : dutf8 c = [UInt8.ofNat (192 + c / 64), UInt8.ofNat (128 + c % 64)] := by unfold dutf8; rw [if_neg a1, if_pos a2]
    have e0 : (UInt8.ofNat (192 + c / 64)).toNat = 192 + c / 64 := ofNat_lt (by omega)
    have e1 : (UInt8.ofNat (128 + c % 64)).toNat = 128 + c % 64 := ofNat_lt (by omega)
    have w1 : dworth [UInt8.ofNat (192 + c / 64)] = none := worth_high (by rw [e0]; show _ < _; simp [tops]; omega)
    have hw : dworth [UInt8.ofNat (192 + c / 64), UInt8.ofNat (128 + c % 64)] = some c := by
      rw [dworth2 (by rw [e0]; omega) (by rw [e1]; omega), e0, e1]
      exact congrArg some (by omega)
    rw [hd]
    exact first2 w1 hw hd h
  by_cases a3 : c < 65536
  · have hd : dutf8 c = [UInt8.ofNat (224 + c / 4096), UInt8.ofNat (128 + c / 64 % 64), UInt8.ofNat (128 + c % 64)] := by unfold dutf8; rw [if_neg a1, if_neg a2, if_pos a3]
    have e0 : (UInt8.ofNat (224 + c / 4096)).toNat = 224 + c / 4096 := ofNat_lt (by omega)
    have e1 : (UInt8.ofNat (128 + c / 64 % 64)).toNat = 128 + c / 64 % 64 := ofNat_lt (by omega)
    have e2 : (UInt8.ofNat (128 + c % 64)).toNat = 128 + c % 64 := ofNat_lt (by omega)
    have w1 : dworth [UInt8.ofNat (224 + c / 4096)] = none := worth_high (by rw [e0]; show _ < _; simp [tops]; omega)
    have w2 : dworth [UInt8.ofNat (224 + c / 4096), UInt8.ofNat (128 + c / 64 % 64)] = none := worth_high (by rw [e0]; show _ < _; simp [tops]; omega)
    have hw : dworth [UInt8.ofNat (224 + c / 4096), UInt8.ofNat (128 + c / 64 % 64), UInt8.ofNat (128 + c % 64)] = some c := by
      rw [dworth3 (by rw [e0]; omega) (by rw [e1]; omega) (by rw [e2]; omega), e0, e1, e2]
      exact congrArg some (by omega)
    rw [hd]
    exact first3 w1 w2 hw hd h
  · have hd : dutf8 c = [UInt8.ofNat (240 + c / 262144), UInt8.ofNat (128 + c / 4096 % 64), UInt8.ofNat (128 + c / 64 % 64), UInt8.ofNat (128 + c % 64)] := by unfold dutf8; rw [if_neg a1, if_neg a2, if_neg a3]
    have e0 : (UInt8.ofNat (240 + c / 262144)).toNat = 240 + c / 262144 := ofNat_lt (by omega)
    have e1 : (UInt8.ofNat (128 + c / 4096 % 64)).toNat = 128 + c / 4096 % 64 := ofNat_lt (by omega)
    have e2 : (UInt8.ofNat (128 + c / 64 % 64)).toNat = 128 + c / 64 % 64 := ofNat_lt (by omega)
    have e3 : (UInt8.ofNat (128 + c % 64)).toNat = 128 + c % 64 := ofNat_lt (by omega)
    have w1 : dworth [UInt8.ofNat (240 + c / 262144)] = none := worth_high (by rw [e0]; show _ < _; simp [tops]; omega)
    have w2 : dworth [UInt8.ofNat (240 + c / 262144), UInt8.ofNat (128 + c / 4096 % 64)] = none := worth_high (by rw [e0]; show _ < _; simp [tops]; omega)
    have w3 : dworth [UInt8.ofNat (240 + c / 262144), UInt8.ofNat (128 + c / 4096 % 64), UInt8.ofNat (128 + c / 64 % 64)] = none := worth_high (by rw [e0]; show _ < _; simp [tops]; omega)
    have hw : dworth [UInt8.ofNat (240 + c / 262144), UInt8.ofNat (128 + c / 4096 % 64), UInt8.ofNat (128 + c / 64 % 64), UInt8.ofNat (128 + c % 64)] = some c := by
      rw [dworth4 (by rw [e0]; omega) (by rw [e1]; omega) (by rw [e2]; omega) (by rw [e3]; omega), e0, e1, e2, e3]
      exact congrArg some (by omega)
    rw [hd]
    exact first4 w1 w2 w3 hw hd h

theorem enc_eq {c : Nat} (h : okChar c = true) : Utf8.encode (c : Int) = ⟨(dutf8 c).toArray⟩ := by
  have hv : Utf8.valid (c : Int) = true := by
    simp [okChar] at h
    simp [Utf8.valid]
    omega
  unfold Utf8.encode dutf8
  simp only [hv, if_true, Int.toNat_natCast]
  repeat' split
  all_goals rfl

/-- all keys that are no plain characters, as the document lists them -/
def blockKeys (m : Nat) : List (Int × Int) := (List.range 128).map (fun c : Nat => ((c : Int), (m : Int))) ++ (List.range 23).map (fun j : Nat => (16777217 + (j : Int), (m : Int)))
def allKeys : List (Int × Int) := (List.range 8).flatMap blockKeys
def isKey (s : ByteArray) (k : Int × Int) : Bool := validKey k.1 k.2 && sameS (nameKey k.1 k.2) s
/-- the rest of a name, and what is held down -/
def restKey (s : ByteArray) : ByteArray × Int := if 2 < s.size ∧ sameS (s.extract 0 2) ⟨#[77, 45]⟩ = true then (s.extract 2 s.size, 2) else (s, 0)
def charKey (s : ByteArray) : Option (Int × Int) := match dfirst (restKey s).1.data.toList with
  | some (c, n) => if n = (restKey s).1.size ∧ isKey s (c, (restKey s).2) = true then some ((c : Int), (restKey s).2) else none
  | none => none
/-- does the document read a key? -/
def docRead (s : ByteArray) : Bool := allKeys.any (isKey s) || (charKey s).isSome

theorem mem_all {c m : Int} (h0 : 0 ≤ m) (h1 : m ≤ 7) (hc : (0 ≤ c ∧ c < 128) ∨ (16777217 ≤ c ∧ c ≤ 16777239)) : (c, m) ∈ allKeys := by
  unfold allKeys blockKeys
  rw [List.mem_flatMap]
  refine ⟨m.toNat, by simp; omega, ?_⟩
  rw [List.mem_append]
  rcases hc with hc | hc
  · exact .inl (List.mem_map.2 ⟨c.toNat, by simp; omega, by rw [Int.toNat_of_nonneg hc.1, Int.toNat_of_nonneg h0]⟩)
  · exact .inr (List.mem_map.2 ⟨(c - 16777217).toNat, by simp; omega, by rw [Int.toNat_of_nonneg (by omega), Int.toNat_of_nonneg h0, show 16777217 + (c - 16777217) = c by omega]⟩)

theorem valid_mods {c m : Int} (h : validKey c m = true) : 0 ≤ m ∧ m ≤ 7 := by
  unfold validKey at h
  split at h
  · cases h
  · omega
theorem valid_kinds {c m : Int} (h : validKey c m = true) : ((0 ≤ c ∧ c < 128) ∨ (16777217 ≤ c ∧ c ≤ 16777239)) ∨ (160 ≤ c ∧ c ≤ 1114111 ∧ (c < 55296 ∨ 57343 < c) ∧ (m = 0 ∨ m = 2)) := by
  have hm := valid_mods h
  unfold validKey at h
  rw [if_neg (by omega)] at h
  split at h
  · rename_i hs
    simp [special] at hs
    omega
  · split at h
    · omega
    · split at h
      · omega
      · split at h
        · omega
        · split at h
          · rename_i hp
            simp [character] at h
            simp [plainMods] at hp
            omega
          · simp [QP.control] at h
            omega
theorem named_none {c : Int} (h0 : 160 ≤ c) (h1 : c ≤ 1114111) : named c = ⟨#[]⟩ := by
  have hs : special c = false := by rw [Bool.eq_false_iff]; intro h; simp [special] at h; omega
  unfold named
  rw [if_neg (by omega), if_neg (by omega), if_neg (by omega), if_neg (by omega), if_neg (by omega), if_neg (by omega), hs]
  split <;> rfl
theorem dutf8_head {c : Nat} (h : 160 ≤ c) (h1 : c ≤ 1114111) : ∃ b r, dutf8 c = b :: r ∧ 194 ≤ b.toNat ∧ r ≠ [] := by
  unfold dutf8
  rw [if_neg (by omega)]
  split
  · exact ⟨_, _, rfl, by rw [ofNat_lt (by omega)]; omega, by simp⟩
  split
  · exact ⟨_, _, rfl, by rw [ofNat_lt (by omega)]; omega, by simp⟩
  · exact ⟨_, _, rfl, by rw [ofNat_lt (by omega)]; omega, by simp⟩

theorem bytes_ext {s t : ByteArray} (h : s.data.toList = t.data.toList) : s = t := ByteArray.ext (Array.toList_inj.1 h)
theorem sameS_self (s : ByteArray) : sameS s s = true := (sameS_iff s s).2 rfl

theorem docRead_of {c m : Int} {s : ByteArray} (hv : validKey c m = true) (hn : nameKey c m = s) : docRead s = true := by
  have hm := valid_mods hv
  have hk : isKey s (c, m) = true := by
    unfold isKey
    simp only [hv, hn, sameS_self, Bool.and_self]
  unfold docRead
  rw [Bool.or_eq_true]
  rcases valid_kinds hv with h | ⟨h0, h1, h2, h3⟩
  · exact .inl (List.any_eq_true.2 ⟨_, mem_all hm.1 hm.2 h, hk⟩)
  · refine .inr ?_
    obtain ⟨n, rfl⟩ : ∃ n : Nat, c = n := ⟨c.toNat, by omega⟩
    have hok : okChar n = true := by simp [okChar]; omega
    have hname : s = marks m ++ ⟨(dutf8 n).toArray⟩ := by
      rw [← hn]
      unfold nameKey
      rw [hv, if_pos rfl, named_none h0 h1, if_pos (show ((⟨#[]⟩ : ByteArray).size = 0) from rfl), enc_eq hok]
    obtain ⟨b, r, hb, hb1, hr⟩ := dutf8_head (c := n) (by omega) (by omega)
    have hrest : restKey s = (⟨(dutf8 n).toArray⟩, m) := by
      unfold restKey
      rcases h3 with rfl | rfl
      · have hs : s = ⟨(dutf8 n).toArray⟩ := by rw [hname]; exact bytes_ext (by simp [marks])
        rw [if_neg, hs]
        rintro ⟨-, e⟩
        rw [sameS_iff] at e
        have e2 := congrArg (fun t : ByteArray => t.data.toList.head?) e
        rw [hs, hb] at e2
        simp at e2
        rw [e2] at hb1
        simp at hb1
      · have hs : s.data.toList = [77, 45] ++ dutf8 n := by rw [hname]; simp [marks]
        have hsz : s.size = 2 + (dutf8 n).length := by
          have := congrArg List.length hs
          simp only [Array.length_toList, List.length_append, List.length_cons, List.length_nil] at this
          exact this
        have hl : 0 < (dutf8 n).length := by rw [hb]; simp
        have hx : sameS (s.extract 0 2) ⟨#[77, 45]⟩ = true := by
          rw [sameS_iff]
          apply bytes_ext
          simp [hs]
        rw [if_pos ⟨by omega, hx⟩]
        refine Prod.ext ?_ rfl
        apply bytes_ext
        simp [hs, hsz]
    unfold charKey
    rw [hrest]
    have hf : dfirst ((⟨(dutf8 n).toArray⟩ : ByteArray)).data.toList = some (n, (dutf8 n).length) := first_utf8 hok
    simp only [hf]
    rw [if_pos ⟨by simp [ByteArray.size], hk⟩]
    rfl
theorem key_of_docRead {s : ByteArray} (h : docRead s = true) : ∃ c m, validKey c m = true ∧ nameKey c m = s := by
  have key : ∀ k, isKey s k = true → ∃ c m, validKey c m = true ∧ nameKey c m = s := fun k hk => by
    unfold isKey at hk
    rw [Bool.and_eq_true, sameS_iff] at hk
    exact ⟨_, _, hk.1, hk.2⟩
  unfold docRead at h
  rw [Bool.or_eq_true] at h
  rcases h with h | h
  · obtain ⟨k, -, hk⟩ := List.any_eq_true.1 h
    exact key k hk
  · unfold charKey at h
    split at h
    · split at h
      · rename_i hh
        exact key _ hh.2
      · cases h
    · cases h
theorem docRead_iff {s : ByteArray} : docRead s = true ↔ ∃ c m, validKey c m = true ∧ nameKey c m = s :=
  ⟨key_of_docRead, fun ⟨_, _, h1, h2⟩ => docRead_of h1 h2⟩

/-- what the program reads, the document reads -/
theorem doc_of_read {dec : ByteArray → Int × Int} {s : ByteArray} (h : readCode dec s = 0) : docRead s = true := by
  unfold readCode at h
  cases hr : readKey dec s with
  | none => rw [hr] at h; simp at h
  | some k =>
    unfold readKey at hr
    obtain ⟨m, -, hm⟩ := List.exists_of_findSome?_eq_some hr
    unfold readAt at hm
    split at hm
    · rename_i hp
      split at hm
      · rename_i hs
        rw [sameS_iff] at hs
        simp only [Bool.and_eq_true, Bool.not_eq_true', decide_eq_false_iff_not] at hp
        cases hv : validKey (baseKey dec (restOf s m)) m with
        | true => exact docRead_of hv hs
        | false =>
          exfalso
          unfold nameKey at hs
          rw [hv] at hs
          have hs0 : s = ⟨#[]⟩ := hs.symm
          apply hp.2
          rw [hs0]
          unfold restOf
          split
          · rw [ByteArray.size_extract]
            show _ - _ = 0
            have : (⟨#[]⟩ : ByteArray).size = 0 := rfl
            omega
          · rfl
      · cases hm
    · cases hm
end Go.Proofs.YtlmnhdpahmaccaaDoor
