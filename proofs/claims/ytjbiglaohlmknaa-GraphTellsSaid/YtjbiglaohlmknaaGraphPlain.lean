/-
  Lifelines, as plain Lean.
-/
import Derived.Test.YtjbiglaohlmknaaRise
import Derived.Test.YtjbiglaohlmknaaLaw
namespace Go.Proofs.Ytjbiglaohlmknaa
open Go.RowKit
set_option linter.unusedVariables false
set_option linter.unusedSimpArgs false

def xorI (a b : Int) : Int := ((a.toNat ^^^ b.toNat : Nat) : Int)
theorem i64_xor (a b : Int) (ha : 0 ≤ a) (ha2 : a < 9223372036854775808) (hb : 0 ≤ b) (hb2 : b < 9223372036854775808) : bits .xor .i64 a b = xorI a b := by
  obtain ⟨x, rfl⟩ : ∃ x : Nat, a = x := ⟨a.toNat, by omega⟩
  obtain ⟨y, rfl⟩ : ∃ y : Nat, b = y := ⟨b.toNat, by omega⟩
  have hx : x < 2 ^ 63 := by omega
  have hy : y < 2 ^ 63 := by omega
  have h3 : x ^^^ y < 2 ^ 63 := Nat.xor_lt_two_pow hx hy
  show IntKind.i64.wrap ((BitVec.ofInt 64 (x : Int) ^^^ BitVec.ofInt 64 (y : Int)).toNat : Int) = _
  rw [BitVec.toNat_xor, BitVec.toNat_ofInt, BitVec.toNat_ofInt, IntKind.wrap_i64]
  have e1 : ((x : Int) % ((2 ^ 64 : Nat) : Int)).toNat = x := by omega
  have e2 : ((y : Int) % ((2 ^ 64 : Nat) : Int)).toNat = y := by omega
  rw [e1, e2]
  unfold xorI
  simp only [Int.toNat_natCast]
  omega
theorem xorI_ge (a b : Int) : 0 ≤ xorI a b := by unfold xorI; omega
theorem xorI_lt {a b : Int} (ha : a < 4096) (hb : b < 4096) : xorI a b < 4096 := by
  unfold xorI
  have := Nat.xor_lt_two_pow (n := 12) (show a.toNat < 2 ^ 12 by omega) (show b.toNat < 2 ^ 12 by omega)
  omega
theorem xorI_inj {a b c : Int} (hb : 0 ≤ b) (hc : 0 ≤ c) (h : xorI a b = xorI a c) : b = c := by
  unfold xorI at h
  have h2 : a.toNat ^^^ b.toNat = a.toNat ^^^ c.toNat := by omega
  have h3 := congrArg (fun z => a.toNat ^^^ z) h2
  simp only [← Nat.xor_assoc, Nat.xor_self, Nat.zero_xor] at h3
  omega
def pw (i : Nat) : Int := ((2 ^ i : Nat) : Int)
theorem pw_succ (i : Nat) : pw (i + 1) = 2 * pw i := by unfold pw; rw [Nat.pow_succ]; omega
theorem pw_pos (i : Nat) : 1 ≤ pw i := by unfold pw; have := Nat.two_pow_pos i; omega
theorem pw_mono {i j : Nat} (h : i ≤ j) : pw i ≤ pw j := by unfold pw; have := Nat.pow_le_pow_right (show 0 < 2 by omega) h; omega
theorem pw_lt {i j : Nat} (h : pw i < pw j) : i < j := by
  rcases Nat.lt_or_ge i j with h2 | h2
  · exact h2
  · have := pw_mono h2; omega
theorem pw_inj {i j : Nat} (h : pw i = pw j) : i = j := by
  rcases Nat.lt_trichotomy i j with h2 | h2 | h2
  · have := pw_mono h2; rw [pw_succ] at this; have := pw_pos i; omega
  · exact h2
  · have := pw_mono h2; rw [pw_succ] at this; have := pw_pos j; omega
theorem pw12 : pw 12 = 4096 := rfl
/-- The first k lines that there may be, in their order. -/
def linesK (nodes node : Int) (k : Nat) : List Int := ((List.range k).map fun i => xorI node (pw i)).filter fun n => decide (n < nodes)
theorem linesK_succ (nodes node : Int) (k : Nat) : linesK nodes node (k + 1) = linesK nodes node k ++ (if xorI node (pw k) < nodes then [xorI node (pw k)] else []) := by
  unfold linesK
  rw [List.range_succ, List.map_append, List.filter_append]
  simp only [List.map_cons, List.map_nil, List.filter_cons, List.filter_nil, decide_eq_true_eq]
theorem linesK_len (nodes node : Int) (k : Nat) : (linesK nodes node k).length ≤ k := by
  have := List.length_filter_le (fun n => decide (n < nodes)) ((List.range k).map fun i => xorI node (pw i))
  rw [List.length_map, List.length_range] at this
  exact this
theorem linesK_nodup (nodes node : Int) (k : Nat) : (linesK nodes node k).Nodup := by
  unfold linesK
  refine List.Pairwise.filter _ ?_
  rw [List.pairwise_map]
  refine List.Pairwise.imp (fun {i j} h e => ?_) (show (List.range k).Pairwise (· ≠ ·) from List.nodup_range)
  exact h (pw_inj (xorI_inj (by have := pw_pos i; omega) (by have := pw_pos j; omega) e))
theorem linesK_mem {nodes node z : Int} {k : Nat} (h : z ∈ linesK nodes node k) : 0 ≤ z ∧ z < nodes ∧ ∃ i, i < k ∧ z = xorI node (pw i) := by
  unfold linesK at h
  rw [List.mem_filter, List.mem_map] at h
  obtain ⟨⟨i, hi, rfl⟩, h2⟩ := h
  exact ⟨xorI_ge _ _, by simpa using h2, i, List.mem_range.1 hi, rfl⟩
/-- Is there such a node? -/
def isG (nodes n : Int) : Bool := decide (1 ≤ nodes) && decide (nodes ≤ 4096) && decide (0 ≤ n) && decide (n < nodes)
theorem isG_iff {nodes n : Int} : isG nodes n = true ↔ 1 ≤ nodes ∧ nodes ≤ 4096 ∧ 0 ≤ n ∧ n < nodes := by
  unfold isG
  simp only [Bool.and_eq_true, decide_eq_true_eq, and_assoc]
/-- How many bits are tried: the least k with nodes ≤ 2^k. -/
def bitsN (nodes : Int) : Nat := ((List.range 12).filter fun i => decide (pw i < nodes)).length
theorem bitsN_at {nodes : Int} {k : Nat} (hk : k ≤ 12) (h1 : ∀ i, i < k → pw i < nodes) (h2 : nodes ≤ pw k) : bitsN nodes = k := by
  unfold bitsN
  have e : List.range 12 = List.range k ++ (List.range' k (12 - k)) := by
    rw [List.range_eq_range', List.range_eq_range', show 12 = k + (12 - k) by omega, ← List.range'_append_1]
    simp
  rw [e, List.filter_append]
  have e1 : (List.range k).filter (fun i => decide (pw i < nodes)) = List.range k := by
    rw [List.filter_eq_self]
    intro i hi
    exact decide_eq_true (h1 i (List.mem_range.1 hi))
  have e2 : (List.range' k (12 - k)).filter (fun i => decide (pw i < nodes)) = [] := by
    rw [List.filter_eq_nil_iff]
    intro i hi
    have := pw_mono (List.mem_range'_1.1 hi).1
    simp
    omega
  rw [e1, e2]
  simp
/-- The lifelines of a node, rising. -/
def linesG (nodes node : Int) : List Int := if isG nodes node then risen (linesK nodes node (bitsN nodes)) else []
theorem linesG_mem {nodes node z : Int} (h : z ∈ linesG nodes node) : 0 ≤ z ∧ z < nodes := by
  unfold linesG at h
  split at h
  · have := linesK_mem ((risen_spec _).2 z |>.1 h)
    exact ⟨this.1, this.2.1⟩
  · cases h
end Go.Proofs.Ytjbiglaohlmknaa
