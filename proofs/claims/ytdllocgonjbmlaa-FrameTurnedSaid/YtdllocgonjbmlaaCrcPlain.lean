/-
  The sum that frames carry, as plain Lean over Nat: a register, a step of one bit, and that a burst of at most 32 bits is seen.
-/
import Derived.Test.YtdllocgonjbmlaaCurState
namespace Go.Proofs.Ytdllocgonjbmlaa
open Go.RowKit
set_option linter.unusedVariables false
set_option linter.unusedSimpArgs false

/-- One bit of the sum. -/
def tb (c : Nat) : Nat := c / 2 ^^^ (if c % 2 = 1 then 3988292384 else 0)
def tn : Nat → Nat → Nat
  | 0, c => c
  | n + 1, c => tn n (tb c)
def reg (c : Nat) : List UInt8 → Nat
  | [] => c
  | x :: l => reg (tn 8 (c ^^^ x.toNat)) l
def crc (l : List UInt8) : Nat := reg 4294967295 l ^^^ 4294967295
def le4 (c : Nat) : List UInt8 := [UInt8.ofNat c, UInt8.ofNat (c / 256), UInt8.ofNat (c / 65536), UInt8.ofNat (c / 16777216)]
def sealB (l : List UInt8) : List UInt8 := l ++ le4 (crc l)

theorem xor_eq_of {a b : Nat} (h : a ^^^ b = 0) : a = b := by
  have h2 : a ^^^ b ^^^ b = 0 ^^^ b := by rw [h]
  rwa [Nat.xor_assoc, Nat.xor_self, Nat.xor_zero, Nat.zero_xor] at h2
theorem tb_xor (a b : Nat) : tb (a ^^^ b) = tb a ^^^ tb b := by
  have h1 : (a ^^^ b) / 2 = a / 2 ^^^ b / 2 := by
    have := Nat.shiftRight_xor_distrib (a := a) (b := b) (i := 1)
    simpa [Nat.shiftRight_eq_div_pow] using this
  have h2 : (a ^^^ b) % 2 = (a % 2 + b % 2) % 2 := by
    have h3 := Nat.xor_mod_two_pow (a := a) (b := b) (n := 1)
    rw [Nat.pow_one] at h3
    rw [h3]
    rcases Nat.mod_two_eq_zero_or_one a with ha | ha <;> rcases Nat.mod_two_eq_zero_or_one b with hb | hb <;> rw [ha, hb] <;> rfl
  unfold tb
  rw [h1, h2]
  rcases Nat.mod_two_eq_zero_or_one a with ha | ha <;> rcases Nat.mod_two_eq_zero_or_one b with hb | hb <;> simp only [ha, hb]
  · simp
  · simp [Nat.xor_assoc]
  · simp only [Nat.reduceAdd, Nat.reduceMod, if_pos, Nat.zero_ne_one, if_false, Nat.xor_zero]
    rw [Nat.xor_assoc, Nat.xor_assoc, Nat.xor_comm (b / 2)]
  · simp only [Nat.reduceAdd, Nat.reduceMod, Nat.zero_ne_one, if_false, Nat.xor_zero, if_true]
    rw [Nat.xor_assoc, ← Nat.xor_assoc 3988292384, Nat.xor_comm 3988292384, Nat.xor_assoc (b / 2), Nat.xor_self, Nat.xor_zero]
theorem tn_xor : ∀ (n a b : Nat), tn n (a ^^^ b) = tn n a ^^^ tn n b
  | 0, _, _ => rfl
  | n + 1, a, b => by
    show tn n (tb (a ^^^ b)) = _
    rw [tb_xor, tn_xor n]
    rfl
theorem tn_zero (c : Nat) : tn 0 c = c := rfl
theorem tn_add : ∀ (m n c : Nat), tn (m + n) c = tn n (tn m c)
  | 0, n, c => by simp [tn]
  | m + 1, n, c => by
    rw [show m + 1 + n = (m + n) + 1 by omega]
    show tn (m + n) (tb c) = _
    rw [tn_add m]
    rfl
theorem tb_double (x : Nat) : tb (2 * x) = x := by
  unfold tb
  rw [if_neg (by omega), Nat.xor_zero]
  omega
theorem tn_shift : ∀ (n x : Nat), tn n (x * 2 ^ n) = x
  | 0, x => by simp [tn]
  | n + 1, x => by
    show tn n (tb (x * 2 ^ (n + 1))) = _
    rw [show x * 2 ^ (n + 1) = 2 * (x * 2 ^ n) by rw [Nat.pow_succ, ← Nat.mul_assoc, Nat.mul_comm], tb_double, tn_shift n]
theorem tb_lt {c : Nat} (h : c < 2 ^ 32) : tb c < 2 ^ 32 := by
  unfold tb
  exact Nat.xor_lt_two_pow (by omega) (by split <;> omega)
theorem tn_lt : ∀ (n : Nat) {c : Nat}, c < 2 ^ 32 → tn n c < 2 ^ 32
  | 0, _, h => h
  | n + 1, _, h => tn_lt n (tb_lt h)
theorem tb_ne {c : Nat} (h : c < 2 ^ 32) (h0 : c ≠ 0) : tb c ≠ 0 := by
  unfold tb
  intro e
  have e := xor_eq_of e
  split at e <;> omega
theorem tn_ne : ∀ (n : Nat) {c : Nat}, c < 2 ^ 32 → c ≠ 0 → tn n c ≠ 0
  | 0, _, _, h => h
  | n + 1, _, h, h0 => tn_ne n (tb_lt h) (tb_ne h h0)
theorem reg_lt : ∀ (l : List UInt8) {c : Nat}, c < 2 ^ 32 → reg c l < 2 ^ 32
  | [], _, h => h
  | x :: l, c, h => reg_lt l (tn_lt 8 (Nat.xor_lt_two_pow h (by have := x.toNat_lt; omega)))
theorem crc_lt (l : List UInt8) : crc l < 2 ^ 32 := Nat.xor_lt_two_pow (reg_lt l (by decide)) (by decide)
theorem reg_snoc (x : UInt8) : ∀ (l : List UInt8) (c : Nat), reg c (l ++ [x]) = tn 8 (reg c l ^^^ x.toNat)
  | [], _ => rfl
  | y :: l, c => reg_snoc x l _

attribute [local irreducible] tn

/-- The bytes as one number, the first byte lowest. -/
def val : List UInt8 → Nat
  | [] => 0
  | x :: l => x.toNat ^^^ (val l * 256)
theorem xor_low {x : Nat} (v : Nat) (h : x < 256) : x ^^^ (v * 256) = x + v * 256 := by
  apply Nat.eq_of_testBit_eq
  intro j
  have h2 := Nat.testBit_two_pow_mul_add v (b := x) (i := 8) (by omega) j
  have h3 := Nat.testBit_two_pow_mul_add v (b := 0) (i := 8) (by omega) j
  rw [show x + v * 256 = 2 ^ 8 * v + x by omega, h2, Nat.testBit_xor, show v * 256 = 2 ^ 8 * v + 0 by omega, h3]
  by_cases hj : j < 8
  · simp [hj]
  · have : x.testBit j = false := Nat.testBit_lt_two_pow (Nat.lt_of_lt_of_le h (by
      have := Nat.pow_le_pow_right (n := 2) (by omega) (show 8 ≤ j by omega)
      omega))
    simp [hj, this]
theorem reg_val : ∀ (l : List UInt8) (c : Nat), reg c l = tn (8 * l.length) (c ^^^ val l)
  | [], c => by
    rw [show 8 * ([] : List UInt8).length = 0 from rfl, tn_zero]
    exact (Nat.xor_zero c).symm
  | x :: l, c => by
    have h1 : reg c (x :: l) = reg (tn 8 (c ^^^ x.toNat)) l := rfl
    have h2 : val (x :: l) = x.toNat ^^^ (val l * 2 ^ 8) := rfl
    rw [h1, h2, reg_val l, List.length_cons, show 8 * (l.length + 1) = 8 + 8 * l.length by omega, tn_add 8, ← Nat.xor_assoc, tn_xor 8 (c ^^^ x.toNat), tn_shift 8]
theorem xor_shift (a b k : Nat) : (a ^^^ b) * 2 ^ k = a * 2 ^ k ^^^ b * 2 ^ k := by
  have := Nat.shiftLeft_xor_distrib (a := a) (b := b) (i := k)
  simpa [Nat.shiftLeft_eq] using this
theorem val_append : ∀ (a b : List UInt8), val (a ++ b) = val a ^^^ val b * 2 ^ (8 * a.length)
  | [], b => by simp [val]
  | x :: a, b => by
    show x.toNat ^^^ (val (a ++ b) * 256) = (x.toNat ^^^ (val a * 256)) ^^^ _
    rw [val_append a b, show (256 : Nat) = 2 ^ 8 from rfl, xor_shift, Nat.xor_assoc, List.length_cons, Nat.mul_assoc, ← Nat.pow_add]
    congr 3
theorem val_le4 {c : Nat} (h : c < 2 ^ 32) : val (le4 c) = c := by
  unfold le4
  simp only [val]
  rw [xor_low _ (UInt8.toNat_lt _), xor_low _ (UInt8.toNat_lt _), xor_low _ (UInt8.toNat_lt _), xor_low _ (UInt8.toNat_lt _)]
  simp only [UInt8.toNat_ofNat']
  omega
theorem sealed_val (y : List UInt8) : tn (8 * (sealB y).length) (4294967295 ^^^ val (sealB y)) = tn 32 4294967295 := by
  have hl : 8 * (sealB y).length = 8 * y.length + 32 := by simp [sealB, le4]; omega
  rw [hl, tn_add]
  congr 1
  unfold sealB
  rw [val_append, val_le4 (crc_lt y), ← Nat.xor_assoc, tn_xor, tn_shift, ← reg_val]
  unfold crc
  rw [← Nat.xor_assoc, Nat.xor_self, Nat.zero_xor]
/-- Of two rows of bytes that differ in a burst, one is no sealed one. -/
theorem burst_seen {x y : List UInt8} {W k : Nat} (hl : (sealB x).length = (sealB y).length) (h : val (sealB y) = val (sealB x) ^^^ W * 2 ^ k) (hk : k + 32 ≤ 8 * (sealB x).length) (hw : W < 2 ^ 32) (h0 : W ≠ 0) : False := by
  have h1 := sealed_val x
  have h2 := sealed_val y
  rw [← hl, h, ← Nat.xor_assoc, tn_xor, h1] at h2
  have h3 : tn (8 * (sealB x).length) (W * 2 ^ k) = 0 := by
    have := congrArg (fun z => tn 32 4294967295 ^^^ z) h2
    simpa [← Nat.xor_assoc] using this
  obtain ⟨m, hm⟩ : ∃ m, 8 * (sealB x).length = k + m := ⟨8 * (sealB x).length - k, by omega⟩
  rw [hm, tn_add, tn_shift] at h3
  exact tn_ne m hw h0 h3
theorem val_set {l : List UInt8} {j : Nat} {b : UInt8} (q : Nat) (hq : q < 256) (hj : l[j]? = some b) : val (l.set j (UInt8.ofNat (b.toNat ^^^ q))) = val l ^^^ q * 2 ^ (8 * j) := by
  induction l generalizing j with
  | nil => cases hj
  | cons x l ih =>
    cases j with
    | zero =>
      simp only [List.getElem?_cons_zero, Option.some.injEq] at hj
      subst hj
      simp only [List.set_cons_zero, val, Nat.mul_zero, Nat.pow_zero, Nat.mul_one, UInt8.toNat_ofNat']
      rw [Nat.mod_eq_of_lt (Nat.xor_lt_two_pow (n := 8) (UInt8.toNat_lt _) hq), Nat.xor_assoc, Nat.xor_assoc, Nat.xor_comm q]
    | succ j =>
      simp only [List.getElem?_cons_succ] at hj
      simp only [List.set_cons_succ, val]
      rw [ih hj, show (256 : Nat) = 2 ^ 8 from rfl, xor_shift, ← Nat.xor_assoc, Nat.mul_assoc, ← Nat.pow_add]
      congr 3
theorem le4_len (c : Nat) : (le4 c).length = 4 := rfl
theorem sealB_len (l : List UInt8) : (sealB l).length = l.length + 4 := by simp [sealB, le4]
end Go.Proofs.Ytdllocgonjbmlaa
