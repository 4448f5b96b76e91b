/-
  Numbers as bytes: plain lists, no program in sight.
-/
import Derived.Test.YtbjpnnpbhocffaaLaw
namespace Go.Proofs.Ytbjpnnpbhocffaa

/-- The bytes of a number below 2 * 128 ^ k. -/
def vi : Nat → Nat → List UInt8
  | 0, u => [UInt8.ofNat u]
  | k + 1, u => if u < 128 then [UInt8.ofNat u] else UInt8.ofNat (u % 128 + 128) :: vi k (u / 128)

def zz (x : Int) : Nat := if x < 0 then (-2 * x - 1).toNat else (2 * x).toNat
def num (x : Int) : List UInt8 := vi 9 (zz x)
def nums (l : List Int) : List UInt8 := l.flatMap num



theorem zz_lt {x : Int} (h : i64 x) : zz x < 2 * 128 ^ 9 := by unfold zz; unfold i64 at h; split <;> omega
theorem vi_small {k u : Nat} (h : u < 128) : vi k u = [UInt8.ofNat u] := by cases k <;> simp [vi, h]
theorem vi_big {k u : Nat} (h : ¬ u < 128) : vi (k + 1) u = UInt8.ofNat (u % 128 + 128) :: vi k (u / 128) := by simp [vi, h]
theorem vi_len (k : Nat) : ∀ u, 1 ≤ (vi k u).length ∧ (vi k u).length ≤ k + 1 := by
  induction k with
  | zero => intro u; simp [vi]
  | succ k ih =>
    intro u
    unfold vi
    split
    · simp
    · have := ih (u / 128); simp; omega
theorem num_len (x : Int) : 1 ≤ (num x).length ∧ (num x).length ≤ 10 := vi_len 9 _
theorem nums_len (l : List Int) : (nums l).length ≤ 10 * l.length := by
  induction l with
  | nil => simp [nums]
  | cons a l ih => have := (num_len a).2; simp [nums] at *; omega
theorem nums_snoc (l : List Int) (x : Int) : nums (l ++ [x]) = nums l ++ num x := by simp [nums]
theorem toNat_byte {u : Nat} (h : u < 256) : ((UInt8.ofNat u).toNat : Int) = u := by
  rw [UInt8.toNat_ofNat']; omega
theorem or128 {x : Nat} (h : x < 256) : x ||| 128 = x % 128 + 128 := by
  have := (by decide +kernel : ∀ x : Fin 256, (x.1 ||| 128) = x.1 % 128 + 128) ⟨x, h⟩
  exact this
theorem byte_more (u : Nat) : bits .or .u8 (IntKind.u8.wrap (u : Int)) 128 = ((UInt8.ofNat (u % 128 + 128)).toNat : Int) := by
  have e : IntKind.u8.wrap (u : Int) = ((u % 256 : Nat) : Int) := by rw [IntKind.wrap_u8]; omega
  rw [e]
  have := u8_or_nat (u % 256) 128 (by omega) (by omega)
  rw [toNat_byte (by omega)]
  refine this.trans ?_
  rw [or128 (by omega)]; omega
theorem byte_last {u : Nat} (h : u < 128) : IntKind.u8.wrap (u : Int) = ((UInt8.ofNat u).toNat : Int) := by
  rw [toNat_byte (by omega), IntKind.wrap_u8]; omega
theorem u64_not (b : Nat) (hb : b < 18446744073709551616) : bits .xor .u64 IntKind.u64.max (b : Int) = ((18446744073709551615 - b : Nat) : Int) := by
  show IntKind.u64.wrap ((BitVec.ofInt 64 IntKind.u64.max ^^^ BitVec.ofInt 64 (b : Int)).toNat : Int) = _
  have h1 : BitVec.ofInt 64 IntKind.u64.max = BitVec.allOnes 64 := by decide
  rw [h1, BitVec.allOnes_xor, BitVec.toNat_not, ofInt_u64 b hb, IntKind.wrap_u64]
  omega
theorem zz_pos {x : Int} (h : i64 x) (h0 : ¬ x < 0) : IntKind.u64.wrap (IntKind.u64.wrap x * 2) = (zz x : Int) := by
  unfold i64 at h
  unfold zz
  rw [if_neg h0, IntKind.wrap_u64, IntKind.wrap_u64]
  omega
theorem zz_neg {x : Int} (h : i64 x) (h0 : x < 0) : bits .xor .u64 IntKind.u64.max (IntKind.u64.wrap (IntKind.u64.wrap x * 2)) = (zz x : Int) := by
  unfold i64 at h
  have e : IntKind.u64.wrap (IntKind.u64.wrap x * 2) = ((2 * x + 18446744073709551616).toNat : Int) := by
    rw [IntKind.wrap_u64, IntKind.wrap_u64]; omega
  rw [e, u64_not _ (by omega)]
  unfold zz
  rw [if_pos h0]
  omega
theorem zz_half_neg {x : Int} (h : x < 0) : -(x + 1) = ((zz x / 2 : Nat) : Int) := by unfold zz; rw [if_pos h]; omega
theorem zz_half_pos {x : Int} (h : ¬ x < 0) : x = ((zz x / 2 : Nat) : Int) := by unfold zz; rw [if_neg h]; omega
/-- The last byte of a number is below 128. -/
theorem vi_last (k : Nat) : ∀ u, u < 2 * 128 ^ k → ∃ (l : List UInt8) (b : UInt8), vi k u = l ++ [b] ∧ b.toNat < 128 := by
  induction k with
  | zero => intro u hu; exact ⟨[], UInt8.ofNat u, rfl, by rw [UInt8.toNat_ofNat']; simp at hu; omega⟩
  | succ k ih =>
    intro u hu
    by_cases h : u < 128
    · exact ⟨[], UInt8.ofNat u, by rw [vi_small h]; rfl, by rw [UInt8.toNat_ofNat']; omega⟩
    · obtain ⟨l, b, h1, h2⟩ := ih (u / 128) (by rw [Nat.pow_succ] at hu; omega)
      exact ⟨UInt8.ofNat (u % 128 + 128) :: l, b, by rw [vi_big h, h1]; rfl, h2⟩
theorem num_last {x : Int} (h : i64 x) : ∃ (l : List UInt8) (b : UInt8), num x = l ++ [b] ∧ b.toNat < 128 := vi_last 9 _ (zz_lt h)
theorem vi_len_big {k u : Nat} (h : ¬ u < 128) : (vi (k + 1) u).length = (vi k (u / 128)).length + 1 := by rw [vi_big h]; rfl
end Go.Proofs.Ytbjpnnpbhocffaa
