/-
  Bytes that are no number: plain lists.
-/
import Derived.Test.YtbjpnnpbhocffaaVarint
namespace Go.Proofs.Ytbjpnnpbhocffaa

/-- All bytes but the last are at least 128. -/
theorem vi_init (k : Nat) : ∀ u, u < 2 * 128 ^ k → ∃ (l : List UInt8) (b : UInt8), vi k u = l ++ [b] ∧ b.toNat < 128 ∧ ∀ x ∈ l, 128 ≤ x.toNat := by
  induction k with
  | zero => intro u hu; exact ⟨[], UInt8.ofNat u, rfl, by rw [UInt8.toNat_ofNat']; simp at hu; omega, by simp⟩
  | succ k ih =>
    intro u hu
    by_cases h : u < 128
    · exact ⟨[], UInt8.ofNat u, by rw [vi_small h]; rfl, by rw [UInt8.toNat_ofNat']; omega, by simp⟩
    · obtain ⟨l, b, h1, h2, h3⟩ := ih (u / 128) (by rw [Nat.pow_succ] at hu; omega)
      refine ⟨UInt8.ofNat (u % 128 + 128) :: l, b, by rw [vi_big h, h1]; rfl, h2, ?_⟩
      intro x hx
      rcases List.mem_cons.1 hx with rfl | hx
      · rw [UInt8.toNat_ofNat']; omega
      · exact h3 x hx
theorem dnum_goes {L R : List UInt8} : ∀ (k u : Nat), k ≤ 9 → (∀ x ∈ L, 128 ≤ x.toNat) → dnum k u (L ++ R) = none ∨ ∃ u2, dnum k u (L ++ R) = dnum (k + L.length) u2 R ∧ k + L.length ≤ 9 := by
  induction L with
  | nil => intro k u hk _; exact .inr ⟨u, rfl, by simpa using hk⟩
  | cons x L ih =>
    intro k u hk h
    have hx := h x (by simp)
    by_cases h9 : k = 9
    · left
      exact dnum_bad (.inl ⟨h9, by omega⟩)
    · have := ih (k + 1) (u + x.toNat % 128 * 128 ^ k) (by omega) (fun y hy => h y (by simp [hy]))
      rw [List.cons_append, dnum_on (by omega) (by omega)]
      rw [show k + (x :: L).length = k + 1 + L.length by simp; omega]
      exact this
theorem cInt_cut {L : List UInt8} (h : ∀ x ∈ L, 128 ≤ x.toNat) (bad : Bool) : cInt L bad = (0, [], true) := by
  apply cInt_none
  rcases dnum_goes (L := L) (R := []) 0 0 (by omega) h with h1 | ⟨u2, h1, _⟩
  · rw [List.append_nil] at h1; exact h1
  · rw [List.append_nil] at h1
    rw [h1]; rfl
theorem cInt_long {L : List UInt8} (h : ∀ x ∈ L, 128 ≤ x.toNat) (h0 : 0 < L.length) (bad : Bool) : cInt (L ++ [0]) bad = (0, [], true) := by
  apply cInt_none
  rcases dnum_goes (L := L) (R := [0]) 0 0 (by omega) h with h1 | ⟨u2, h1, _⟩
  · exact h1
  · rw [h1]
    exact dnum_bad (.inr ⟨rfl, by omega⟩)
theorem and7 (y : Int) : ∃ m : Nat, m ≤ 7 ∧ bits .and .i64 y 7 = (m : Int) := by
  refine ⟨(BitVec.ofInt 64 y &&& BitVec.ofInt 64 7).toNat, ?_, ?_⟩
  · rw [BitVec.toNat_and]
    exact Nat.and_le_right
  · show IntKind.i64.wrap ((BitVec.ofInt 64 y &&& BitVec.ofInt 64 7).toNat : Int) = _
    have : (BitVec.ofInt 64 y &&& BitVec.ofInt 64 7).toNat ≤ 7 := by
      rw [BitVec.toNat_and]
      exact Nat.and_le_right
    rw [IntKind.wrap_i64]; omega
theorem or128_last {b : UInt8} (h : b.toNat < 128) : bits .or .u8 (b.toNat : Int) 128 = ((UInt8.ofNat (b.toNat + 128)).toNat : Int) := by
  have h1 := u8_or_nat b.toNat 128 (by omega) (by omega)
  rw [toNat_byte (by omega)]
  refine h1.trans ?_
  rw [or128 (by omega)]; omega
end Go.Proofs.Ytbjpnnpbhocffaa
