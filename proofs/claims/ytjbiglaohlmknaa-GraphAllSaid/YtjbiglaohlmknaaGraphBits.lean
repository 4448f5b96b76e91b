/-
  graph: how many bits two numbers differ in, and ways of that many lines.
-/
import Derived.Test.YtjbiglaohlmknaaGraphLaw
namespace Go.Proofs.Ytjbiglaohlmknaa
set_option linter.unusedVariables false
set_option linter.unusedSimpArgs false

/-- How many of the first k bits are set. -/
def cntB (x : Nat) (k : Nat) : Nat := ((List.range k).filter fun i => x.testBit i).length
theorem cntB_succ (x k : Nat) : cntB x (k + 1) = cntB x k + (if x.testBit k then 1 else 0) := by
  unfold cntB
  rw [List.range_succ, List.filter_append, List.length_append]
  cases h : x.testBit k <;> simp [h]
/-- Turning one bit. -/
theorem cntB_turn (x i : Nat) : ∀ k, cntB (x ^^^ 2 ^ i) k = if i < k then (if x.testBit i then cntB x k - 1 else cntB x k + 1) else cntB x k
  | 0 => by simp [cntB]
  | k + 1 => by
    have ih := cntB_turn x i k
    have hle : x.testBit i = true → i < k → 1 ≤ cntB x k := fun h hik => by
      unfold cntB
      exact List.length_pos_of_mem (List.mem_filter.2 ⟨List.mem_range.2 hik, h⟩)
    rw [cntB_succ, cntB_succ, ih, Nat.testBit_xor, Nat.testBit_two_pow]
    by_cases hik : i = k
    · subst hik
      cases h : x.testBit i <;> simp
    · by_cases h2 : i < k
      · have h3 : i < k + 1 := by omega
        have h4 := fun h => hle h h2
        cases h : x.testBit i
        · cases hk : x.testBit k <;> simp [hik, h2, h3] <;> omega
        · have := h4 h
          cases hk : x.testBit k <;> simp [hik, h2, h3] <;> omega
      · have h3 : ¬ i < k + 1 := by omega
        simp [hik, h2, h3]
theorem pw_toNat (i : Nat) : (pw i).toNat = 2 ^ i := by unfold pw; exact Int.toNat_natCast _
theorem xorI_toNat (a b : Int) : (xorI a b).toNat = a.toNat ^^^ b.toNat := by unfold xorI; omega
theorem cntB_zero (k : Nat) : cntB 0 k = 0 := by
  unfold cntB
  simp
theorem Way.bits {nodes a y : Int} {gone : List Int} {n : Nat} (k : Nat) (h : Way nodes gone a n y) : cntB (a.toNat ^^^ y.toNat) k ≤ n := by
  induction h with
  | here => rw [Nat.xor_self, cntB_zero]; exact Nat.le_refl _
  | next _ h2 ih =>
    obtain ⟨_, _, i, _, rfl⟩ := linesG_iff.1 h2.1
    rw [xorI_toNat, pw_toNat, ← Nat.xor_assoc, cntB_turn]
    split
    · split <;> omega
    · omega
theorem bitsN_gt {nodes : Int} {i : Nat} (hi : i < 12) (h : pw i < nodes) : i < bitsN nodes := by
  unfold bitsN
  have e : List.range 12 = List.range (i + 1) ++ (List.range' (i + 1) (12 - (i + 1))) := by
    rw [List.range_eq_range', List.range_eq_range', show 12 = (i + 1) + (12 - (i + 1)) by omega, ← List.range'_append_1]
    simp
  rw [e, List.filter_append, List.length_append]
  have e1 : (List.range (i + 1)).filter (fun j => decide (pw j < nodes)) = List.range (i + 1) := by
    rw [List.filter_eq_self]
    intro j hj
    have := pw_mono (show j ≤ i by have := List.mem_range.1 hj; omega)
    exact decide_eq_true (by omega)
  rw [e1, List.length_range]
  omega
theorem turn_line {N x i : Nat} (hN : N ≤ 4096) (hx : x < N) (hi : 2 ^ i < N) (h : x ^^^ 2 ^ i < N) : adj N [] x ((x ^^^ 2 ^ i : Nat) : Int) := by
  have hi12 : i < 12 := by
    rcases Nat.lt_or_ge i 12 with h2 | h2
    · exact h2
    · have := Nat.pow_le_pow_right (show 0 < 2 by omega) h2
      omega
  refine ⟨linesG_iff.2 ⟨isG_iff.2 ⟨by omega, by omega, by omega, by omega⟩, by omega, i, bitsN_gt hi12 (by unfold pw; omega), ?_⟩, by simp⟩
  unfold xorI
  rw [pw_toNat, Int.toNat_natCast]
theorem bit_le {x i : Nat} (h : x.testBit i = true) : 2 ^ i ≤ x := Nat.ge_two_pow_of_testBit h
/-- From any node to the last one: as many lines as bits differ. -/
theorem way_last (N : Nat) (h1 : 1 ≤ N) (hN : N ≤ 4096) : ∀ c x, x < N → cntB (x ^^^ (N - 1)) 12 = c → Way N [] x c ((N - 1 : Nat) : Int)
  | 0, x, hx, hc => by
    have hz : x ^^^ (N - 1) = 0 := by
      apply Nat.eq_of_testBit_eq
      intro i
      rw [Nat.zero_testBit]
      by_cases hi : i < 12
      · cases h : (x ^^^ (N - 1)).testBit i with
        | false => rfl
        | true =>
          exfalso
          unfold cntB at hc
          have hc : (List.filter (x ^^^ (N - 1)).testBit (List.range 12)).length = 0 := hc
          have := List.length_pos_of_mem (List.mem_filter.2 ⟨List.mem_range.2 hi, h⟩)
          omega
      · have h12 : x ^^^ (N - 1) < 2 ^ 12 := Nat.xor_lt_two_pow (by omega) (by omega)
        exact Nat.testBit_lt_two_pow (Nat.lt_of_lt_of_le h12 (Nat.pow_le_pow_right (by omega) (by omega)))
    have e : x = N - 1 := by
      have h2 := congrArg (fun z => z ^^^ (N - 1)) hz
      simpa [Nat.xor_assoc] using h2
    subst e
    exact .here
  | c + 1, x, hx, hc => by
    have hex : ∃ i, i < 12 ∧ (x ^^^ (N - 1)).testBit i = true := by
      unfold cntB at hc
      obtain ⟨i, hi⟩ := List.exists_mem_of_length_pos (show 0 < ((List.range 12).filter fun i => (x ^^^ (N - 1)).testBit i).length by omega)
      have := List.mem_filter.1 hi
      exact ⟨i, List.mem_range.1 this.1, this.2⟩
    have step : ∀ i, i < 12 → (x ^^^ (N - 1)).testBit i = true → 2 ^ i < N → x ^^^ 2 ^ i < N → Way N [] x (c + 1) ((N - 1 : Nat) : Int) := by
      intro i hi hb h2 h3
      refine Way.front (turn_line hN hx h2 h3) (way_last N h1 hN c _ h3 ?_)
      rw [show x ^^^ 2 ^ i ^^^ (N - 1) = (x ^^^ (N - 1)) ^^^ 2 ^ i by rw [Nat.xor_assoc, Nat.xor_comm (2 ^ i), ← Nat.xor_assoc], cntB_turn, if_pos hi, if_pos hb]
      omega
    have sub : ∀ u v i, (∀ j, (u ^^^ 2 ^ i).testBit j = true → v.testBit j = true) → u ^^^ 2 ^ i ≤ v := by
      intro u v i h
      have e : (u ^^^ 2 ^ i) &&& v = u ^^^ 2 ^ i := by
        apply Nat.eq_of_testBit_eq
        intro j
        rw [Nat.testBit_and]
        cases hj : (u ^^^ 2 ^ i).testBit j with
        | false => rfl
        | true => rw [h j hj]; rfl
      rw [← e]
      exact Nat.and_le_right
    by_cases hA : ∃ i, x.testBit i = true ∧ (N - 1).testBit i = false
    · obtain ⟨i, hi1, hi2⟩ := hA
      have hp := bit_le hi1
      have hi12 : i < 12 := by
        rcases Nat.lt_or_ge i 12 with h | h
        · exact h
        · have := Nat.pow_le_pow_right (show 0 < 2 by omega) h
          omega
      refine step i hi12 (by rw [Nat.testBit_xor, hi1, hi2]; rfl) (by omega) ?_
      have := sub x x i fun j hj => by
        rw [Nat.testBit_xor, Nat.testBit_two_pow] at hj
        by_cases e : i = j
        · subst e; exact hi1
        · simpa [e] using hj
      omega
    · obtain ⟨i, hi, hb⟩ := hex
      have hA2 : ∀ j, x.testBit j = true → (N - 1).testBit j = true := fun j hj => by
        cases h : (N - 1).testBit j with
        | true => rfl
        | false => exact (hA ⟨j, hj, h⟩).elim
      have hxi : x.testBit i = false ∧ (N - 1).testBit i = true := by
        rw [Nat.testBit_xor] at hb
        cases h : x.testBit i with
        | true => rw [h, hA2 i h] at hb; cases hb
        | false => rw [h] at hb; exact ⟨rfl, by simpa using hb⟩
      have hp := bit_le hxi.2
      refine step i hi hb (by omega) ?_
      have := sub x (N - 1) i fun j hj => by
        rw [Nat.testBit_xor, Nat.testBit_two_pow] at hj
        by_cases e : i = j
        · subst e; exact hxi.2
        · exact hA2 j (by simpa [e] using hj)
      omega
end Go.Proofs.Ytjbiglaohlmknaa
