/-
  Names of one and two bytes.
-/
import Derived.Test.YtogmnhneobdklaaCacheW
namespace Go.Proofs.Ytogmnhneobdklaa
open Go.RowKit
set_option linter.unusedVariables false
set_option linter.unusedSimpArgs false

theorem Chg.newF {F : Nat → Prop} {w w1 w2 : World} (h : Chg Non w w1) (k : Chg F w1 w2) (hF : ∀ b, F b → w.heap.size ≤ b) : Chg Non w w2 := h.trans2 k fun b e => .inr (hF b e)
def id1 (k : Nat) : ByteArray := ⟨#[UInt8.ofNat k]⟩
def id2 (j k : Nat) : ByteArray := ⟨#[UInt8.ofNat j, UInt8.ofNat k]⟩
theorem id1_inj {j k : Nat} (hj : j < 256) (hk : k < 256) (h : id1 j = id1 k) : j = k := by
  unfold id1 at h
  injection h with h
  injection h with h
  injection h with h1 h2
  have := congrArg UInt8.toNat h1
  simp at this
  omega
theorem id2_inj {i j k m : Nat} (hj : j < 256) (hk : k < 256) (h : id2 i j = id2 m k) : j = k := by
  unfold id2 at h
  injection h with h
  injection h with h
  injection h with h1 h2
  injection h2 with h2 _
  have := congrArg UInt8.toNat h2
  simp at this
  omega
theorem id1_vid {k : Nat} (h : k < 16) : vid (id1 k) = true := by
  unfold vid id1
  simp [okD, ByteArray.size]
  omega
theorem id2_vid {j k : Nat} (hj : j < 16) (h : k < 16) : vid (id2 j k) = true := by
  unfold vid id2
  simp [okD, ByteArray.size]
  omega
theorem id1_lt {j k : Nat} (hk : k < 256) (h : j < k) : ltS (id1 j) (id1 k) := by
  show [UInt8.ofNat j] < [UInt8.ofNat k]
  refine List.Lex.rel ?_
  show (UInt8.ofNat j).toNat < (UInt8.ofNat k).toNat
  simp
  omega
theorem id_small {a : ByteArray} (h : vid a = true) : a.size ≤ maxLen := by
  have := vid_small h
  unfold maxLen
  omega
theorem conv1 {k : Nat} (hk : k < 256) (w : World) : (convert 28 27 (.slice (some ⟨w.heap.size, 0, none⟩) 1 1)).run Try.prog (w.alloc (.cells #[.int .u8 (k : Int)] 5)) = .ok (.string (id1 k)) (w.alloc (.cells #[.int .u8 (k : Int)] 5)) := by
  have h1 : Rds (w.alloc (.cells #[.int .u8 (k : Int)] 5)) 1 (some ⟨w.heap.size, 0, none⟩) 1 (bv [UInt8.ofNat k]) := by
    have := Rds.block (Blk.new w 5 #[.int .u8 (k : Int)]) (n := 1) rfl
    simpa [bv, show k % 256 = k by omega] using this
  exact run_string_rds (L := [UInt8.ofNat k]) Try.underlying28 Try.underlying5 Try.underlying27 h1 1
theorem conv2 {j k : Nat} (hj : j < 256) (hk : k < 256) (w : World) : (convert 28 27 (.slice (some ⟨w.heap.size, 0, none⟩) 2 2)).run Try.prog (w.alloc (.cells #[.int .u8 (j : Int), .int .u8 (k : Int)] 5)) = .ok (.string (id2 j k)) (w.alloc (.cells #[.int .u8 (j : Int), .int .u8 (k : Int)] 5)) := by
  have h1 : Rds (w.alloc (.cells #[.int .u8 (j : Int), .int .u8 (k : Int)] 5)) 1 (some ⟨w.heap.size, 0, none⟩) 2 (bv [UInt8.ofNat j, UInt8.ofNat k]) := by
    have := Rds.block (Blk.new w 5 #[.int .u8 (j : Int), .int .u8 (k : Int)]) (n := 2) rfl
    simpa [bv, show k % 256 = k by omega, show j % 256 = j by omega] using this
  exact run_string_rds (L := [UInt8.ofNat j, UInt8.ofNat k]) Try.underlying28 Try.underlying5 Try.underlying27 h1 2
theorem and_low (x : Int) (j : Nat) (hj : j ≤ 8) : bits .and .i64 x (2 ^ j - 1 : Nat) = x % ((2 ^ j : Nat) : Int) := by
  have hp : 2 ^ j ≤ 256 := Nat.pow_le_pow_right (by omega) hj
  have hp0 : 0 < 2 ^ j := Nat.two_pow_pos j
  show IntKind.i64.wrap ((BitVec.ofInt 64 x &&& BitVec.ofInt 64 ((2 ^ j - 1 : Nat) : Int)).toNat : Int) = _
  have h1 : (BitVec.ofInt 64 ((2 ^ j - 1 : Nat) : Int)).toNat = 2 ^ j - 1 := by
    rw [BitVec.toNat_ofInt]
    omega
  rw [BitVec.toNat_and, h1, Nat.and_two_pow_sub_one_eq_mod, BitVec.toNat_ofInt, IntKind.wrap_i64]
  have h2 : (2 : Nat) ^ 64 = 2 ^ j * 2 ^ (64 - j) := by rw [← Nat.pow_add]; congr 1; omega
  have hm : (x % ((2 ^ 64 : Nat) : Int)).toNat % 2 ^ j = (x % ((2 ^ j : Nat) : Int)).toNat := by
    have e1 : (((x % ((2 ^ 64 : Nat) : Int)).toNat % 2 ^ j : Nat) : Int) = ((x % ((2 ^ j : Nat) : Int)).toNat : Nat) := by
      rw [Int.natCast_emod, Int.toNat_of_nonneg (Int.emod_nonneg _ (by omega)), Int.toNat_of_nonneg (Int.emod_nonneg _ (by omega))]
      refine Int.emod_emod_of_dvd x ?_
      rw [h2]
      exact ⟨((2 ^ (64 - j) : Nat) : Int), by push_cast; rfl⟩
    omega
  rw [hm]
  have h3 := Int.emod_nonneg x (show ((2 ^ j : Nat) : Int) ≠ 0 by omega)
  have h4 := Int.emod_lt_of_pos x (show (0 : Int) < ((2 ^ j : Nat) : Int) by omega)
  omega
theorem and15 (x : Int) : ∃ y : Nat, y < 16 ∧ bits .and .i64 x 15 = (y : Int) ∧ (y : Int) = x % 16 := ⟨(x % 16).toNat, by omega, by have := and_low x 4 (by omega); rw [show ((2 ^ 4 - 1 : Nat) : Int) = 15 from rfl] at this; rw [this]; show x % 16 = _; omega, by omega⟩
theorem and3 (x : Int) : ∃ y : Nat, y < 4 ∧ bits .and .i64 x 3 = (y : Int) := ⟨(x % 4).toNat, by omega, by have := and_low x 2 (by omega); rw [show ((2 ^ 2 - 1 : Nat) : Int) = 3 from rfl] at this; rw [this]; show x % 4 = _; omega⟩
theorem OwnR.lenS {w : World} {base n : Nat} {v : Value} {l : List ByteArray} (h : OwnR rkI w base v n (sv l)) : n = l.length := by
  have h1 := h.len
  have e : (rkI).size = 1 := rfl
  rw [e] at h1
  simp [sv] at h1
  exact h1.symm
end Go.Proofs.Ytogmnhneobdklaa
