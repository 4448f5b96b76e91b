/-
  Numbers as bytes: plain lists, no program in sight.
-/
import Derived.Test.YtflaliomkfbagaaLaw
import Derived.Laws.DeepNot64
namespace Go.Proofs.Ytflaliomkfbagaa

/-- The bytes of a number below 2 * 128 ^ k. -/
def vi : Nat → Nat → List UInt8
  | 0, u => [UInt8.ofNat u]
  | k + 1, u => if u < 128 then [UInt8.ofNat u] else UInt8.ofNat (u % 128 + 128) :: vi k (u / 128)

def zz (x : Int) : Nat := if x < 0 then (-2 * x - 1).toNat else (2 * x).toNat
def num (x : Int) : List UInt8 := vi 9 (zz x)
def nums (l : List Int) : List UInt8 := l.flatMap num



theorem zz_lt {x : Int} (h : i64 x) : zz x < 2 * 128 ^ 9 := by unfold zz; unfold i64 at h; split <;> omega
theorem vi_small {k u : Nat} (h : u < 128) : vi k u = [UInt8.ofNat u] := by cases k <;> simp [vi, h]
theorem vi_big {k u : Nat} (h : ¬ u < 128) : vi (k + 1) u = UInt8.ofNat (u % 128 + 128) :: vi k (u / 128) := by simp [vi, h]
theorem vi_len (k : Nat) : ∀ u, 1 ≤ (vi k u).length ∧ (vi k u).length ≤ k + 1 := by
  induction k with
  | zero => intro u; simp [vi]
  | succ k ih =>
    intro u
    unfold vi
    split
    · simp
    · have := ih (u / 128); simp; omega
theorem num_len (x : Int) : 1 ≤ (num x).length ∧ (num x).length ≤ 10 := vi_len 9 _
theorem nums_len (l : List Int) : (nums l).length ≤ 10 * l.length := by
  induction l with
  | nil => simp [nums]
  | cons a l ih => have := (num_len a).2; simp [nums] at *; omega
theorem nums_snoc (l : List Int) (x : Int) : nums (l ++ [x]) = nums l ++ num x := by simp [nums]
theorem toNat_byte {u : Nat} (h : u < 256) : ((UInt8.ofNat u).toNat : Int) = u := by
  rw [UInt8.toNat_ofNat']; omega
theorem or128 {x : Nat} (h : x < 256) : x ||| 128 = x % 128 + 128 := by
  have := (by decide +kernel : ∀ x : Fin 256, (x.1 ||| 128) = x.1 % 128 + 128) ⟨x, h⟩
  exact this
theorem byte_more (u : Nat) : bits .or .u8 (IntKind.u8.wrap (u : Int)) 128 = ((UInt8.ofNat (u % 128 + 128)).toNat : Int) := by
  have e : IntKind.u8.wrap (u : Int) = ((u % 256 : Nat) : Int) := by rw [IntKind.wrap_u8]; omega
  rw [e]
  have := u8_or_nat (u % 256) 128 (by omega) (by omega)
  rw [toNat_byte (by omega)]
  refine this.trans ?_
  rw [or128 (by omega)]; omega
theorem byte_last {u : Nat} (h : u < 128) : IntKind.u8.wrap (u : Int) = ((UInt8.ofNat u).toNat : Int) := by
  rw [toNat_byte (by omega), IntKind.wrap_u8]; omega
theorem u64_not (b : Nat) (hb : b < 18446744073709551616) : bits .xor .u64 IntKind.u64.max (b : Int) = ((18446744073709551615 - b : Nat) : Int) := by
  show IntKind.u64.wrap ((BitVec.ofInt 64 IntKind.u64.max ^^^ BitVec.ofInt 64 (b : Int)).toNat : Int) = _
  have h1 : BitVec.ofInt 64 IntKind.u64.max = BitVec.allOnes 64 := by decide
  rw [h1, BitVec.allOnes_xor, BitVec.toNat_not, ofInt_u64 b hb, IntKind.wrap_u64]
  omega
theorem zz_pos {x : Int} (h : i64 x) (h0 : ¬ x < 0) : IntKind.u64.wrap (IntKind.u64.wrap x * 2) = (zz x : Int) := by
  unfold i64 at h
  unfold zz
  rw [if_neg h0, IntKind.wrap_u64, IntKind.wrap_u64]
  omega
theorem zz_neg {x : Int} (h : i64 x) (h0 : x < 0) : bits .xor .u64 IntKind.u64.max (IntKind.u64.wrap (IntKind.u64.wrap x * 2)) = (zz x : Int) := by
  unfold i64 at h
  have e : IntKind.u64.wrap (IntKind.u64.wrap x * 2) = ((2 * x + 18446744073709551616).toNat : Int) := by
    rw [IntKind.wrap_u64, IntKind.wrap_u64]; omega
  rw [e, u64_not _ (by omega)]
  unfold zz
  rw [if_pos h0]
  omega
theorem zz_half_neg {x : Int} (h : x < 0) : -(x + 1) = ((zz x / 2 : Nat) : Int) := by unfold zz; rw [if_pos h]; omega
theorem zz_half_pos {x : Int} (h : ¬ x < 0) : x = ((zz x / 2 : Nat) : Int) := by unfold zz; rw [if_neg h]; omega
/-- The last byte of a number is below 128. -/
theorem vi_last (k : Nat) : ∀ u, u < 2 * 128 ^ k → ∃ (l : List UInt8) (b : UInt8), vi k u = l ++ [b] ∧ b.toNat < 128 := by
  induction k with
  | zero => intro u hu; exact ⟨[], UInt8.ofNat u, rfl, by rw [UInt8.toNat_ofNat']; simp at hu; omega⟩
  | succ k ih =>
    intro u hu
    by_cases h : u < 128
    · exact ⟨[], UInt8.ofNat u, by rw [vi_small h]; rfl, by rw [UInt8.toNat_ofNat']; omega⟩
    · obtain ⟨l, b, h1, h2⟩ := ih (u / 128) (by rw [Nat.pow_succ] at hu; omega)
      exact ⟨UInt8.ofNat (u % 128 + 128) :: l, b, by rw [vi_big h, h1]; rfl, h2⟩
theorem num_last {x : Int} (h : i64 x) : ∃ (l : List UInt8) (b : UInt8), num x = l ++ [b] ∧ b.toNat < 128 := vi_last 9 _ (zz_lt h)
theorem vi_len_big {k u : Nat} (h : ¬ u < 128) : (vi (k + 1) u).length = (vi k (u / 128)).length + 1 := by rw [vi_big h]; rfl
theorem p128 (k : Nat) : 128 ^ k = 2 ^ (7 * k) := by rw [Nat.pow_mul]
/-- A number's next seven bits. -/
theorem bits_step {q k x : Nat} (hq : q < 128 ^ k) (hk : k ≤ 9) (hx : x < 256) (h9 : k = 9 → x % 128 ≤ 1) :
    bits .or .u64 (q : Int) (IntKind.u64.wrap (IntKind.u64.wrap (bits .and .u8 (x : Int) 127) * 2 ^ (7 * k))) = ((q + x % 128 * 128 ^ k : Nat) : Int) := by
  have e1 : bits .and .u8 (x : Int) 127 = ((x % 128 : Nat) : Int) := by
    have := u8_and_nat x 127 hx (by omega)
    rw [nat_mask7] at this
    exact this
  have e2 : IntKind.u64.wrap ((x % 128 : Nat) : Int) = ((x % 128 : Nat) : Int) := by rw [IntKind.wrap_u64]; omega
  have e3 : ((x % 128 : Nat) : Int) * 2 ^ (7 * k) = ((x % 128 * 128 ^ k : Nat) : Int) := by
    rw [p128, Int.natCast_mul, Int.natCast_pow]
    rfl
  have hb : x % 128 * 128 ^ k ≤ 9223372036854775808 ∧ 128 ^ k ≤ 9223372036854775808 := by
    have h2 : 128 ^ k ≤ 128 ^ 9 := Nat.pow_le_pow_right (by omega) hk
    refine ⟨?_, by omega⟩
    rcases Nat.lt_or_ge k 9 with h | h
    · have h1 : 128 ^ k ≤ 128 ^ 8 := Nat.pow_le_pow_right (by omega) (by omega)
      have h3 : x % 128 * 128 ^ k ≤ 127 * 128 ^ 8 := Nat.mul_le_mul (by omega) h1
      omega
    · have h3 : x % 128 * 128 ^ k ≤ 1 * 128 ^ 9 := Nat.mul_le_mul (h9 (by omega)) h2
      omega
  have e4 : IntKind.u64.wrap ((x % 128 * 128 ^ k : Nat) : Int) = ((x % 128 * 128 ^ k : Nat) : Int) := by rw [IntKind.wrap_u64]; omega
  rw [e1, e2, e3, e4, u64_or_nat q (x % 128 * 128 ^ k) (by omega) (by omega)]
  congr 1
  rw [Nat.or_comm, nat_join (7 * k) (x % 128 * 128 ^ k) q (by rw [p128]; exact Nat.mul_mod_left _ _) (by rw [← p128]; exact hq), Nat.add_comm]

/-- Reading a number's bits, from byte k on, with u so far. -/
def dnum : Nat → Nat → List UInt8 → Option (Nat × List UInt8)
  | _, _, [] => none
  | k, u, x :: R =>
    if k = 10 ∨ (k = 9 ∧ 1 < x.toNat) ∨ (x.toNat = 0 ∧ 0 < k) then none
    else if x.toNat < 128 then some (u + x.toNat % 128 * 128 ^ k, R) else dnum (k + 1) (u + x.toNat % 128 * 128 ^ k) R

theorem dnum_bad {k u : Nat} {x : UInt8} {R : List UInt8} (h : (k = 9 ∧ 1 < x.toNat) ∨ (x.toNat = 0 ∧ 0 < k)) : dnum k u (x :: R) = none := by
  unfold dnum; rw [if_pos (.inr h)]
theorem dnum_end {k u : Nat} {x : UInt8} {R : List UInt8} (hk : k ≤ 9) (h9 : k = 9 → x.toNat ≤ 1) (h0 : x.toNat = 0 → k = 0) (h : x.toNat < 128) : dnum k u (x :: R) = some (u + x.toNat % 128 * 128 ^ k, R) := by
  unfold dnum; rw [if_neg (by omega), if_pos h]
theorem dnum_on {k u : Nat} {x : UInt8} {R : List UInt8} (hk : k < 9) (h : ¬ x.toNat < 128) : dnum k u (x :: R) = dnum (k + 1) (u + x.toNat % 128 * 128 ^ k) R := by
  rw [dnum, if_neg (by omega), if_neg h]
theorem dnum_lt {q k x : Nat} (hq : q < 128 ^ k) : q + x % 128 * 128 ^ k < 128 ^ (k + 1) := by
  have h1 : (x % 128 + 1) * 128 ^ k ≤ 128 * 128 ^ k := Nat.mul_le_mul_right _ (by omega)
  rw [Nat.add_mul] at h1
  rw [Nat.pow_succ]; omega
theorem dnum_bound : ∀ (R : List UInt8) (k u v : Nat) (R2 : List UInt8), k ≤ 9 → u < 128 ^ k → dnum k u R = some (v, R2) → v < 18446744073709551616 := by
  intro R
  induction R with
  | nil => intro k u v R2 _ _ h; cases h
  | cons x R ih =>
    intro k u v R2 hk hu h
    unfold dnum at h
    split at h
    · cases h
    · rename_i hn
      split at h
      · injection h with h
        injection h with h1 h2
        have h3 : 128 ^ k ≤ 128 ^ 9 := Nat.pow_le_pow_right (by omega) hk
        rcases Nat.lt_or_ge k 9 with h4 | h4
        · have h5 := dnum_lt (x := x.toNat) hu
          have h6 : 128 ^ (k + 1) ≤ 128 ^ 9 := Nat.pow_le_pow_right (by omega) (by omega)
          omega
        · have h5 : x.toNat % 128 * 128 ^ k ≤ 1 * 128 ^ 9 := Nat.mul_le_mul (by omega) h3
          omega
      · have hk9 : k < 9 := by
          rcases Nat.lt_or_ge k 9 with h4 | h4
          · exact h4
          · omega
        exact ih (k + 1) _ v R2 (by omega) (dnum_lt hu) h

/-- The number of bits. -/
def unzz (u : Nat) : Int := if u % 2 = 1 then -((u / 2 : Nat) : Int) - 1 else ((u / 2 : Nat) : Int)
/-- What reading a number answers, what is left, whether it is bad. -/
def cInt (R : List UInt8) (bad : Bool) : Int × List UInt8 × Bool :=
  match dnum 0 0 R with
  | some (u, R2) => (unzz u, R2, bad)
  | none => (0, [], true)
theorem cInt_some {R R2 : List UInt8} {u : Nat} {bad : Bool} (h : dnum 0 0 R = some (u, R2)) : cInt R bad = (unzz u, R2, bad) := by unfold cInt; rw [h]
theorem cInt_none {R : List UInt8} {bad : Bool} (h : dnum 0 0 R = none) : cInt R bad = (0, [], true) := by unfold cInt; rw [h]
theorem dnum_len : ∀ (R : List UInt8) (k u v : Nat) (R2 : List UInt8), dnum k u R = some (v, R2) → R2.length < R.length := by
  intro R
  induction R with
  | nil => intro k u v R2 h; cases h
  | cons x R ih =>
    intro k u v R2 h
    unfold dnum at h
    split at h
    · cases h
    · split at h
      · injection h with h
        injection h with h1 h2
        subst h2; simp
      · have := ih _ _ _ _ h
        simp; omega
theorem unzz_i64 {u : Nat} (h : u < 18446744073709551616) : i64 (unzz u) := by unfold unzz i64; split <;> omega
theorem cInt_i64 (R : List UInt8) (bad : Bool) : i64 (cInt R bad).1 := by
  unfold cInt
  split
  · rename_i u R2 h
    exact unzz_i64 (dnum_bound R 0 0 _ _ (by omega) (by omega) h)
  · unfold i64; simp
theorem cInt_len (R : List UInt8) (bad : Bool) : (cInt R bad).2.1.length ≤ R.length := by
  unfold cInt
  split
  · rename_i u R2 h
    have := dnum_len _ _ _ _ _ h
    simp; omega
  · simp
theorem unzz_zz (x : Int) : unzz (zz x) = x := by unfold unzz zz; split <;> (split <;> omega)
theorem dnum_vi : ∀ (j k u q : Nat) (R : List UInt8), j + k = 9 → u < 128 ^ k → q < 2 * 128 ^ j → (q = 0 → k = 0) → dnum k u (vi j q ++ R) = some (u + q * 128 ^ k, R) := by
  intro j
  induction j with
  | zero =>
    intro k u q R hk hu hq h0
    have hq2 : q < 2 := by simpa using hq
    have ht : (UInt8.ofNat q).toNat = q := by rw [UInt8.toNat_ofNat']; omega
    show dnum k u (UInt8.ofNat q :: R) = _
    rw [dnum_end (by omega) (by rw [ht]; omega) (by rw [ht]; exact h0) (by rw [ht]; omega), ht, Nat.mod_eq_of_lt (by omega)]
  | succ j ih =>
    intro k u q R hk hu hq h0
    by_cases h : q < 128
    · rw [vi_small h]
      have ht : (UInt8.ofNat q).toNat = q := by rw [UInt8.toNat_ofNat']; omega
      show dnum k u (UInt8.ofNat q :: R) = _
      rw [dnum_end (by omega) (by omega) (by rw [ht]; exact h0) (by rw [ht]; omega), ht, Nat.mod_eq_of_lt (by omega)]
    · rw [vi_big h]
      have ht : (UInt8.ofNat (q % 128 + 128)).toNat = q % 128 + 128 := by rw [UInt8.toNat_ofNat']; omega
      show dnum k u (UInt8.ofNat (q % 128 + 128) :: (vi j (q / 128) ++ R)) = _
      rw [dnum_on (by omega) (by rw [ht]; omega), ht, ih (k + 1) _ (q / 128) R (by omega) (by rw [show (q % 128 + 128) % 128 = q % 128 by omega]; exact dnum_lt hu) (by rw [Nat.pow_succ] at hq; omega) (by omega)]
      congr 2
      rw [show (q % 128 + 128) % 128 = q % 128 by omega, Nat.pow_succ, Nat.add_assoc, show q / 128 * (128 ^ k * 128) = 128 * (q / 128) * 128 ^ k by rw [Nat.mul_comm (128 ^ k), ← Nat.mul_assoc, Nat.mul_comm 128], ← Nat.add_mul]
      congr 2
      omega
/-- A number is read as it was written. -/
theorem cInt_num {x : Int} (h : i64 x) (R : List UInt8) (bad : Bool) : cInt (num x ++ R) bad = (x, R, bad) := by
  have := dnum_vi 9 0 0 (zz x) R rfl (by omega) (zz_lt h) (fun _ => rfl)
  rw [cInt_some (u := zz x) (R2 := R) (by unfold num; rw [this]; simp), unzz_zz]
theorem and1 {u : Nat} (h : u < 18446744073709551616) : bits .and .u64 (u : Int) 1 = ((u % 2 : Nat) : Int) := by
  have := u64_and_nat u 1 h (by omega)
  rw [nat_mask1] at this
  exact this
theorem odd_test {u : Nat} (h : u < 18446744073709551616) (h1 : u % 2 = 1) : (bits .and .u64 (u : Int) 1 != 0) = true := by rw [and1 h, h1]; rfl
theorem even_test {u : Nat} (h : u < 18446744073709551616) (h1 : u % 2 ≠ 1) : (bits .and .u64 (u : Int) 1 != 0) = false := by rw [and1 h, show u % 2 = 0 by omega]; rfl
theorem not_half {u : Nat} (h : u < 18446744073709551616) (h1 : u % 2 = 1) : bits .xor .i64 (-1) ((u : Int) / 2) = unzz u := by
  have := i64_not (u / 2) (by omega)
  rw [show ((u : Int) / 2) = ((u / 2 : Nat) : Int) by omega, this]
  unfold unzz; rw [if_pos h1]; omega
theorem half {u : Nat} (h1 : u % 2 ≠ 1) : ((u : Int) / 2) = unzz u := by unfold unzz; rw [if_neg h1]; omega
end Go.Proofs.Ytflaliomkfbagaa
