/-
  Frames as plain Lean: what may be one, its bytes, what bytes are read as.
-/
import Derived.Test.YtdllocgonjbmlaaCrcPlain
import Derived.Test.YtdllocgonjbmlaaTexts
namespace Go.Proofs.Ytdllocgonjbmlaa
open Go.RowKit
set_option linter.unusedVariables false
set_option linter.unusedSimpArgs false

structure Fr where
  (a b c d e : Int)
  load : List UInt8
def Fr.zero : Fr := ⟨0, 0, 0, 0, 0, []⟩
def upto (m x : Int) : Bool := decide (0 ≤ x) && decide (x ≤ m)
abbrev nodeB (x : Int) : Bool := upto 15 x
abbrev numB (x : Int) : Bool := upto 2147483647 x
def Fr.fine (f : Fr) : Bool := nodeB f.a && nodeB f.b && (numB f.c && numB f.d && numB f.e)
def Fr.ints (f : Fr) : List Int := [f.a, f.b, f.c, f.d, f.e]
def Fr.i64s (f : Fr) : Prop := i64 f.a ∧ i64 f.b ∧ i64 f.c ∧ i64 f.d ∧ i64 f.e
def Fr.tail (f : Fr) : List UInt8 := nums f.ints ++ text f.load
def Fr.body (f : Fr) : List UInt8 := 70 :: f.tail
def Fr.bytes (f : Fr) : List UInt8 := sealB f.body
/-- Why a frame has no bytes; 0: it has. -/
def Fr.err (f : Fr) : Int := if f.fine then (if 4096 < f.load.length then 3 else 0) else 1
def Fr.pack (f : Fr) : List UInt8 := if f.err = 0 then f.bytes else []

theorem upto_iff {m x : Int} : upto m x = true ↔ 0 ≤ x ∧ x ≤ m := by simp [upto]
theorem Fr.fine_iff {f : Fr} : f.fine = true ↔ (0 ≤ f.a ∧ f.a ≤ 15) ∧ (0 ≤ f.b ∧ f.b ≤ 15) ∧ (0 ≤ f.c ∧ f.c ≤ 2147483647) ∧ (0 ≤ f.d ∧ f.d ≤ 2147483647) ∧ (0 ≤ f.e ∧ f.e ≤ 2147483647) := by
  unfold Fr.fine nodeB numB
  simp only [Bool.and_eq_true, upto_iff]
  constructor
  · rintro ⟨⟨h1, h2⟩, ⟨h3, h4⟩, h5⟩; exact ⟨h1, h2, h3, h4, h5⟩
  · rintro ⟨h1, h2, h3, h4, h5⟩; exact ⟨⟨h1, h2⟩, ⟨h3, h4⟩, h5⟩
theorem Fr.fine_i64 {f : Fr} (h : f.fine = true) : f.i64s := by
  have := Fr.fine_iff.1 h
  unfold Fr.i64s i64
  omega
theorem Fr.err0 {f : Fr} : f.err = 0 ↔ f.fine = true ∧ f.load.length ≤ 4096 := by
  unfold Fr.err
  by_cases h : f.fine = true
  · rw [if_pos h]
    by_cases h2 : 4096 < f.load.length
    · rw [if_pos h2]; omega
    · rw [if_neg h2]; simp [h]; omega
  · rw [if_neg h]
    constructor
    · intro e; cases e
    · intro e; exact absurd e.1 h
theorem Fr.mem_i64 {f : Fr} (h : f.i64s) : ∀ x ∈ f.ints, i64 x := by
  obtain ⟨h1, h2, h3, h4, h5⟩ := h
  intro x hx
  simp only [Fr.ints, List.mem_cons, List.not_mem_nil, or_false] at hx
  rcases hx with rfl | rfl | rfl | rfl | rfl <;> assumption

/-- Reading a number that is none leaves a bad one. -/
theorem cInt_stays (R : List UInt8) : (cInt R true).2.2 = true := by
  unfold cInt
  cases dnum 0 0 R with
  | none => rfl
  | some p => rfl
theorem cBytes_stays (R : List UInt8) : (cBytes R true).2.2 = true := by
  have := cInt_stays R
  unfold cBytes
  simp only
  split
  · rfl
  · exact this
/-- What is read as a number is its only form. -/
theorem dnum_form : ∀ (R : List UInt8) (j k u v : Nat) (R2 : List UInt8), j + k = 9 → u < 128 ^ k → dnum k u R = some (v, R2) → ∃ q, R = vi j q ++ R2 ∧ v = u + q * 128 ^ k ∧ q < 2 * 128 ^ j ∧ (q = 0 → k = 0)
  | [], _, _, _, _, _, _, _, h => by cases h
  | x :: R, j, k, u, v, R2, hjk, hu, h => by
    have hx := x.toNat_lt
    by_cases hb : (k = 9 ∧ 1 < x.toNat) ∨ (x.toNat = 0 ∧ 0 < k)
    · rw [dnum_bad hb] at h; cases h
    · by_cases hs : x.toNat < 128
      · rw [dnum_end (by omega) (fun e => by omega) (fun e => by omega) hs] at h
        simp only [Option.some.injEq, Prod.mk.injEq] at h
        obtain ⟨rfl, rfl⟩ := h
        refine ⟨x.toNat, ?_, by rw [Nat.mod_eq_of_lt hs], ?_, fun e => by omega⟩
        · rw [vi_small hs]; simp
        · rcases Nat.eq_zero_or_pos j with h0 | h0
          · subst h0; simp; omega
          · have : 128 ^ 1 ≤ 128 ^ j := Nat.pow_le_pow_right (by omega) h0
            omega
      · have hk : k < 9 := by
          rcases Nat.lt_or_ge k 9 with h1 | h1
          · exact h1
          · exact absurd (show k = 9 ∧ 1 < x.toNat by omega) (fun e => hb (.inl e))
        rw [dnum_on hk hs] at h
        obtain ⟨j2, rfl⟩ : ∃ j2, j = j2 + 1 := ⟨j - 1, by omega⟩
        obtain ⟨q, h1, h2, h3, h4⟩ := dnum_form R j2 (k + 1) _ v R2 (by omega) (dnum_lt hu) h
        have hq : q ≠ 0 := fun e => by have := h4 e; omega
        refine ⟨q * 128 + x.toNat % 128, ?_, ?_, ?_, fun e => by omega⟩
        · have hbig : ¬ q * 128 + x.toNat % 128 < 128 := by omega
          rw [vi_big hbig, show (q * 128 + x.toNat % 128) / 128 = q by omega, show (q * 128 + x.toNat % 128) % 128 = x.toNat % 128 by omega, show x.toNat % 128 + 128 = x.toNat by omega, h1]
          simp
        · rw [h2, Nat.pow_succ, Nat.add_mul, Nat.mul_assoc q 128, Nat.mul_comm 128 (128 ^ k), ← Nat.mul_assoc, Nat.add_assoc, Nat.add_comm (x.toNat % 128 * 128 ^ k)]
        · rw [Nat.pow_succ]; omega
theorem zz_unzz (u : Nat) : zz (unzz u) = u := by unfold zz unzz; split <;> (split <;> omega)
theorem cInt_form {R : List UInt8} (h : (cInt R false).2.2 = false) : R = num (cInt R false).1 ++ (cInt R false).2.1 := by
  cases hd : dnum 0 0 R with
  | none => rw [cInt_none hd] at h; cases h
  | some p =>
    obtain ⟨u, R2⟩ := p
    rw [cInt_some hd]
    obtain ⟨q, h1, h2, _, _⟩ := dnum_form R 9 0 0 u R2 rfl (by simp) hd
    simp only [Nat.pow_zero, Nat.mul_one, Nat.zero_add] at h2
    subst h2
    rw [h1]
    unfold num
    rw [zz_unzz]
theorem cBytes_form {R : List UInt8} (h : (cBytes R false).2.2 = false) : R = text (cBytes R false).1 ++ (cBytes R false).2.1 := by
  have hb : cBytes R false = if (cInt R false).1 < 0 ∨ (cInt R false).1 > (cInt R false).2.1.length then ([], [], true) else ((cInt R false).2.1.take (cInt R false).1.toNat, (cInt R false).2.1.drop (cInt R false).1.toNat, (cInt R false).2.2) := rfl
  rw [hb] at h ⊢
  split at h
  · cases h
  · rename_i hn
    rw [if_neg hn]
    have hf := cInt_form h
    unfold text
    simp only
    rw [List.length_take, Nat.min_eq_left (by omega), show (((cInt R false).1.toNat : Nat) : Int) = (cInt R false).1 by omega, List.append_assoc, List.take_append_drop]
    exact hf

/-- What bytes are read as: the frame, what is left, whether something was none. -/
def parse (R : List UInt8) : Fr × List UInt8 × Bool :=
  let a := cInt R false
  let b := cInt a.2.1 a.2.2
  let c := cInt b.2.1 b.2.2
  let d := cInt c.2.1 c.2.2
  let e := cInt d.2.1 d.2.2
  let t := cBytes e.2.1 e.2.2
  (⟨a.1, b.1, c.1, d.1, e.1, t.1⟩, t.2.1, t.2.2)
theorem cInt_of_ok {R : List UInt8} {bad : Bool} (h : (cInt R bad).2.2 = false) : bad = false := by
  cases bad with
  | false => rfl
  | true => rw [cInt_stays] at h; cases h
theorem cBytes_of_ok {R : List UInt8} {bad : Bool} (h : (cBytes R bad).2.2 = false) : bad = false := by
  cases bad with
  | false => rfl
  | true => rw [cBytes_stays] at h; cases h
theorem parse_form {R : List UInt8} (h : (parse R).2.2 = false) : R = (parse R).1.tail ++ (parse R).2.1 := by
  unfold parse at h ⊢
  simp only at h ⊢
  generalize ha : cInt R false = a at h ⊢
  generalize hb : cInt a.2.1 a.2.2 = b at h ⊢
  generalize hc : cInt b.2.1 b.2.2 = c at h ⊢
  generalize hd : cInt c.2.1 c.2.2 = d at h ⊢
  generalize he : cInt d.2.1 d.2.2 = e at h ⊢
  have e5 := cBytes_of_ok h
  have e4 : d.2.2 = false := by rw [← he] at e5; exact cInt_of_ok e5
  have e3 : c.2.2 = false := by rw [← hd] at e4; exact cInt_of_ok e4
  have e2 : b.2.2 = false := by rw [← hc] at e3; exact cInt_of_ok e3
  have e1 : a.2.2 = false := by rw [← hb] at e2; exact cInt_of_ok e2
  rw [e5] at h ⊢
  rw [e4] at he; rw [e3] at hd; rw [e2] at hc; rw [e1] at hb
  have f1 := cInt_form (R := R) (by rw [ha]; exact e1)
  have f2 := cInt_form (R := a.2.1) (by rw [hb]; exact e2)
  have f3 := cInt_form (R := b.2.1) (by rw [hc]; exact e3)
  have f4 := cInt_form (R := c.2.1) (by rw [hd]; exact e4)
  have f5 := cInt_form (R := d.2.1) (by rw [he]; exact e5)
  have f6 := cBytes_form h
  rw [ha] at f1; rw [hb] at f2; rw [hc] at f3; rw [hd] at f4; rw [he] at f5
  unfold Fr.tail Fr.ints nums
  simp only [List.flatMap_cons, List.flatMap_nil, List.append_nil, List.append_assoc]
  rw [← f6, ← f5, ← f4, ← f3, ← f2, ← f1]
theorem parse_tail {f : Fr} (hf : f.i64s) (hl : f.load.length ≤ 9223372036854775807) (R : List UInt8) : parse (f.tail ++ R) = (f, R, false) := by
  obtain ⟨h1, h2, h3, h4, h5⟩ := hf
  unfold parse Fr.tail Fr.ints nums text
  simp only [List.flatMap_cons, List.flatMap_nil, List.append_nil, List.append_assoc]
  rw [cInt_num h1]
  simp only
  rw [cInt_num h2]
  simp only
  rw [cInt_num h3]
  simp only
  rw [cInt_num h4]
  simp only
  rw [cInt_num h5]
  simp only
  rw [← List.append_assoc, cBytes_text hl]
theorem parse_i64 (R : List UInt8) : (parse R).1.i64s := ⟨cInt_i64 _ _, cInt_i64 _ _, cInt_i64 _ _, cInt_i64 _ _, cInt_i64 _ _⟩
theorem parse_load (R : List UInt8) : (parse R).1.load.length ≤ R.length := by
  unfold parse
  simp only
  have h1 := cInt_len R false
  generalize cInt R false = a at h1 ⊢
  have h2 := cInt_len a.2.1 a.2.2
  generalize cInt a.2.1 a.2.2 = b at h2 ⊢
  have h3 := cInt_len b.2.1 b.2.2
  generalize cInt b.2.1 b.2.2 = c at h3 ⊢
  have h4 := cInt_len c.2.1 c.2.2
  generalize cInt c.2.1 c.2.2 = d at h4 ⊢
  have h5 := cInt_len d.2.1 d.2.2
  generalize cInt d.2.1 d.2.2 = e at h5 ⊢
  have h6 : ∀ (R : List UInt8) (bad : Bool), (cBytes R bad).1.length ≤ R.length := fun R bad => by
    have := cInt_len R bad
    unfold cBytes
    simp only
    split
    · simp
    · simp only [List.length_take]; omega
  have := h6 e.2.1 e.2.2
  omega

/-- What bytes are as a frame, and why they are none. -/
def readOk (b : List UInt8) : Bool := !(parse ((b.take (b.length - 4)).drop 1)).2.2 && (parse ((b.take (b.length - 4)).drop 1)).2.1.isEmpty && (parse ((b.take (b.length - 4)).drop 1)).1.fine && decide ((parse ((b.take (b.length - 4)).drop 1)).1.load.length ≤ 4096)
def readErr (b : List UInt8) : Int :=
  if b.length < 5 ∨ b.head? ≠ some 70 then 4
  else if le4 (crc (b.take (b.length - 4))) = b.drop (b.length - 4) then (if readOk b then 0 else 4) else 5
def readFr (b : List UInt8) : Fr := if readErr b = 0 then (parse ((b.take (b.length - 4)).drop 1)).1 else Fr.zero
theorem readErr0 {b : List UInt8} : readErr b = 0 ↔ 5 ≤ b.length ∧ b.head? = some 70 ∧ le4 (crc (b.take (b.length - 4))) = b.drop (b.length - 4) ∧ readOk b = true := by
  unfold readErr
  by_cases h : b.length < 5 ∨ b.head? ≠ some 70
  · rw [if_pos h]
    constructor
    · intro e; cases e
    · rintro ⟨h1, h2, _⟩
      rcases h with h | h
      · omega
      · exact absurd h2 h
  · rw [if_neg h]
    have h1 : 5 ≤ b.length := by
      rcases Nat.lt_or_ge b.length 5 with h2 | h2
      · exact absurd (.inl h2) h
      · exact h2
    have h2 : b.head? = some 70 := by
      by_cases h3 : b.head? = some 70
      · exact h3
      · exact absurd (.inr h3) h
    by_cases h3 : le4 (crc (b.take (b.length - 4))) = b.drop (b.length - 4)
    · rw [if_pos h3]
      by_cases h4 : readOk b = true
      · rw [if_pos h4]; simp [h1, h2, h3, h4]
      · rw [if_neg h4]; simp [h4]
    · rw [if_neg h3]; simp [h3]
/-- What is read as a frame is that frame's bytes. -/
theorem read_form {b : List UInt8} (h : readErr b = 0) : b = (readFr b).bytes ∧ (readFr b).err = 0 ∧ (readFr b).i64s := by
  obtain ⟨h1, h2, h3, h4⟩ := readErr0.1 h
  unfold readFr
  rw [if_pos h]
  unfold readOk at h4
  simp only [Bool.and_eq_true, decide_eq_true_eq, Bool.not_eq_true'] at h4
  obtain ⟨⟨⟨h5, h6⟩, h7⟩, h8⟩ := h4
  have hf := parse_form h5
  have hi := parse_i64 ((b.take (b.length - 4)).drop 1)
  rw [List.isEmpty_iff.1 h6, List.append_nil] at hf
  refine ⟨?_, Fr.err0.2 ⟨h7, h8⟩, hi⟩
  generalize parse ((b.take (b.length - 4)).drop 1) = p at *
  unfold Fr.bytes Fr.body sealB
  rw [← hf]
  have hh : (70 : UInt8) :: (b.take (b.length - 4)).drop 1 = b.take (b.length - 4) := by
    cases b with
    | nil => cases h2
    | cons x r =>
      simp only [List.head?_cons, Option.some.injEq] at h2
      subst h2
      obtain ⟨m, hm⟩ : ∃ m, ((70 : UInt8) :: r).length - 4 = m + 1 := ⟨((70 : UInt8) :: r).length - 5, by omega⟩
      rw [hm]
      simp
  rw [hh, h3, List.take_append_drop]
theorem Fr.bytes_len (f : Fr) : f.bytes.length = f.tail.length + 5 := by unfold Fr.bytes Fr.body; rw [sealB_len]; simp
theorem Fr.tail_len (f : Fr) : f.tail.length ≤ 60 + f.load.length := by
  have h1 := nums_len f.ints
  have h2 := (num_len (f.load.length : Int)).2
  unfold Fr.tail text
  simp only [List.length_append]
  simp only [Fr.ints, List.length_cons, List.length_nil] at h1
  unfold Fr.ints
  omega
theorem Fr.take_bytes (f : Fr) : f.bytes.take (f.bytes.length - 4) = f.body := by
  unfold Fr.bytes
  rw [sealB_len]
  unfold sealB
  simp
theorem Fr.drop_bytes (f : Fr) : f.bytes.drop (f.bytes.length - 4) = le4 (crc f.body) := by
  unfold Fr.bytes
  rw [sealB_len]
  unfold sealB
  simp
/-- A frame's bytes are read as it. -/
theorem read_bytes {f : Fr} (h : f.err = 0) : readErr f.bytes = 0 ∧ readFr f.bytes = f := by
  obtain ⟨h1, h2⟩ := Fr.err0.1 h
  have hp : parse ((f.bytes.take (f.bytes.length - 4)).drop 1) = (f, [], false) := by
    rw [Fr.take_bytes]
    have := parse_tail (f := f) (Fr.fine_i64 h1) (by omega) []
    rw [List.append_nil] at this
    exact this
  have he : readErr f.bytes = 0 := by
    refine readErr0.2 ⟨by rw [Fr.bytes_len]; omega, rfl, by rw [Fr.take_bytes, Fr.drop_bytes], ?_⟩
    unfold readOk
    rw [hp]
    simp [h1, h2]
  refine ⟨he, ?_⟩
  unfold readFr
  rw [if_pos he, hp]
/-- No frame's bytes begin another one's. -/
theorem bytes_prefix {f g : Fr} (hf : f.i64s) (hg : g.i64s) (hfl : f.load.length ≤ 4096) (hgl : g.load.length ≤ 4096) {R : List UInt8} (h : f.bytes ++ R = g.bytes) : R = [] := by
  unfold Fr.bytes Fr.body sealB at h
  simp only [List.cons_append, List.append_assoc, List.cons.injEq, true_and] at h
  have h1 := parse_tail hf (by omega) (le4 (crc (70 :: f.tail)) ++ R)
  have h2 := parse_tail hg (by omega) (le4 (crc (70 :: g.tail)))
  rw [h, h2] at h1
  simp only [Prod.mk.injEq, and_true] at h1
  have h3 := congrArg List.length h1.2
  rw [List.length_append, le4_len, le4_len] at h3
  exact List.length_eq_zero_iff.1 (by omega)
end Go.Proofs.Ytdllocgonjbmlaa
