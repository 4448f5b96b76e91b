/-
  Is a number in a row: slices.Index, slices.Contains, gleanerref1.In.
-/
import Derived.Test.YtjbiglaohlmknaaGraphLines
namespace Go.Proofs.Ytjbiglaohlmknaa
open Go.RowKit
set_option linter.unusedVariables false
set_option linter.unusedSimpArgs false

def inI (L : List Int) (x : Int) : Bool := decide (x ∈ L)
theorem inI_iff {L : List Int} {x : Int} : inI L x = true ↔ x ∈ L := by unfold inI; simp
theorem inI_no {L : List Int} {x : Int} : inI L x = false ↔ x ∉ L := by unfold inI; simp
theorem inI_end {L : List Int} {x : Int} {n k : Nat} (hn : n = L.length) (hk : n ≤ k) (h : ∀ j, j < k → L[j]? ≠ some x) : inI L x = false := by
  rw [inI_no]
  intro hm
  obtain ⟨j, hj, e⟩ := List.getElem_of_mem hm
  exact h j (by omega) (by rw [List.getElem?_eq_getElem hj, e])

set_option maxRecDepth 100000 in
theorem indexN_any (w : World) (A : Option Addr) (n c : Nat) (L : List Int) (x : Int) (h1 : Rds w 1 A n (iv L)) (hn : n ≤ 9223372036854775807) :
    Calls Try.prog 20 #[.slice A n c, .int .i64 x] w fun e w2 => ∃ r, e = .returned (.int .i64 r) ∧ Hid (decide (0 ≤ r) = inI L x) ∧ w = w2 := by
  have H1 := Lib.hid h1
  have Hl := Lib.hid h1.lenMap
  clear h1
  go_enter Try.func20, Try.ntmps20
  go_wp2_with fail
  go_loop [8] (fun i => ∃ k : Nat, k ≤ n ∧ i = .int .i64 k ∧ Hid (∀ j, j < k → L[j]? ≠ some x)) (fun i => n - (intOf i).toNat)
  case atStart => exact ⟨0, Nat.zero_le _, rfl, (fun j h => by omega)⟩
  case round =>
    obtain ⟨k, hk, rfl, hno⟩ := hrel
    by_cases hlt : k < n
    · obtain ⟨ad, y, rfl, hy, hc⟩ := H1.out.getI hlt
      by_cases heq : x = y
      · subst heq
        have Hy := Lib.hid hy
        clear hy
        go_wp2_with fail
        go_ret
        exact ⟨_, rfl, by show _ = _; rw [inI_iff.2 (List.mem_of_getElem? Hy.out)]; simp, rfl⟩
      · have t1 : (x == y) = false := beq_eq_false_iff_ne.2 heq
        have hno2 : Hid (∀ j, j < k + 1 → L[j]? ≠ some x) := by
          intro j hj
          by_cases h2 : j < k
          · exact hno.out j h2
          · obtain rfl : j = k := by omega
            rw [hy]
            intro e
            exact heq (Option.some.inj e).symm
        clear hy hno
        go_wp2_with fail
        go_round
        case rel => exact ⟨k + 1, by omega, by go_num, hno2⟩
        case measure => simp [intOf]; omega
    · have Hno := Lib.hid (inI_end Hl.out (by omega) hno.out)
      clear hno
      go_wp2_with fail
      go_ret
      exact ⟨_, rfl, by show _ = _; rw [Hno.out]; rfl, rfl⟩
set_option maxRecDepth 100000 in
theorem contains_any (w : World) (A : Option Addr) (n c : Nat) (L : List Int) (x : Int) (h1 : Rds w 1 A n (iv L)) (hn : n ≤ 9223372036854775807) :
    Calls Try.prog 16 #[.slice A n c, .int .i64 x] w fun e w2 => e = .returned (.bool (inI L x)) ∧ w = w2 := by
  go_enter Try.func16, Try.ntmps16
  go_wp2_with fail
  refine (indexN_any w A n c L x h1 hn).mono ?_
  rintro e w2 ⟨r, rfl, hr, rfl⟩
  go_wp2_with fail
  go_ret
  exact ⟨by rw [← hr.out]; rfl, rfl⟩
set_option maxRecDepth 100000 in
theorem refIn_any (w : World) (A : Option Addr) (n c : Nat) (L : List Int) (x : Int) (h1 : Rds w 1 A n (iv L)) (hn : n ≤ 9223372036854775807) :
    Calls Try.prog 8 #[.slice A n c, .int .i64 x] w fun e w2 => e = .returned (.bool (inI L x)) ∧ w = w2 := by
  have H1 := Lib.hid h1
  have Hl := Lib.hid h1.lenMap
  clear h1
  go_enter Try.func8, Try.ntmps8
  go_wp2_with fail
  go_loop [5] (fun i => ∃ k : Nat, k ≤ n ∧ i = .int .i64 k ∧ Hid (∀ j, j < k → L[j]? ≠ some x)) (fun i => n - (intOf i).toNat)
  case atStart => exact ⟨0, Nat.zero_le _, rfl, (fun j h => by omega)⟩
  case round =>
    obtain ⟨k, hk, rfl, hno⟩ := hrel
    by_cases hlt : k < n
    · obtain ⟨ad, y, rfl, hy, hc⟩ := H1.out.getI hlt
      by_cases heq : y = x
      · subst heq
        have Hy := Lib.hid (inI_iff.2 (List.mem_of_getElem? hy))
        clear hy
        go_wp2_with fail
        go_ret
        exact ⟨by rw [Hy.out]; rfl, rfl⟩
      · have t1 : (y == x) = false := beq_eq_false_iff_ne.2 heq
        have hno2 : Hid (∀ j, j < k + 1 → L[j]? ≠ some x) := by
          intro j hj
          by_cases h2 : j < k
          · exact hno.out j h2
          · obtain rfl : j = k := by omega
            rw [hy]
            intro e
            exact heq (Option.some.inj e)
        clear hy hno
        go_wp2_with fail
        go_round
        case rel => exact ⟨k + 1, by omega, by go_num, hno2⟩
        case measure => simp [intOf]; omega
    · have Hno := Lib.hid (inI_end Hl.out (by omega) hno.out)
      clear hno
      go_wp2_with fail
      go_ret
      exact ⟨by rw [Hno.out]; rfl, rfl⟩
end Go.Proofs.Ytjbiglaohlmknaa
