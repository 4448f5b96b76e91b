/-
  gleanerref1.SameInts.
-/
import Derived.Test.YtclpmadecibofaaLaw
import Derived.Test.YtclpmadecibofaaGet
namespace Go.Proofs.Ytclpmadecibofaa
open Go.RowKit
set_option linter.unusedVariables false
set_option linter.unusedSimpArgs false

theorem take_same {α : Type} {l m : List α} {k : Nat} {x y : α} (hl : l[k]? = some x) (hm : m[k]? = some y) (h : l.take k = m.take k) : l.take (k + 1) = m.take (k + 1) ↔ x = y := by
  rw [List.take_add_one, List.take_add_one, h, hl, hm]
  simp
theorem not_same {α : Type} {l m : List α} {k : Nat} {x y : α} (hl : l[k]? = some x) (hm : m[k]? = some y) (h : x ≠ y) : l ≠ m := by
  rintro rfl
  rw [hl] at hm
  exact h (Option.some.inj hm)

set_option maxRecDepth 100000 in
set_option maxHeartbeats 1000000 in
theorem sameInts_any (w : World) (A : Option Addr) (n c : Nat) (l : List Int) (B : Option Addr) (m d : Nat) (l2 : List Int) (h1 : Rds w 1 A n (iv l)) (h2 : Rds w 1 B m (iv l2)) (hn : n ≤ 9223372036854775807) :
    Calls Try.prog 26 #[.slice A n c, .slice B m d] w fun e w2 => e = .returned (.bool (l == l2)) ∧ Chg Non w w2 := by
  have H1 := Lib.hid h1
  have H2 := Lib.hid h2
  have Hl := Lib.hid h1.lenMap
  have Hm := Lib.hid h2.lenMap
  clear h1 h2
  by_cases hnm : n = m
  · subst hnm
    go_enter Try.func26, Try.ntmps26
    go_wp2_with fail
    go_loopw [5] (fun i wr => ∃ k : Nat, k ≤ n ∧ i = .int .i64 k ∧ Hid (l.take k = l2.take k) ∧ Chg Non w wr) (fun i _ => n - (intOf i).toNat)
    case atStart => exact ⟨0, Nat.zero_le _, rfl, rfl, Chg.refl _ _⟩
    case round =>
      obtain ⟨k, hk, rfl, hs, hC⟩ := hrel
      by_cases hlt : k < n
      · obtain ⟨ad, x, rfl, hx, hcx⟩ := H1.out.getI hlt
        obtain ⟨bd, y, rfl, hy, hcy⟩ := H2.out.getI hlt
        have hsame := take_same hx hy hs.out
        replace hcx := hC.cell hcx id
        replace hcy := hC.cell hcy id
        cases hxy : (x != y) with
        | false =>
          have hs2 : Hid (l.take (k + 1) = l2.take (k + 1)) := hsame.2 (by simpa using hxy)
          clear hx hy hsame
          go_wp2_with fail
          go_quiet (fail)
          go_wp2_with fail
          go_roundw
          case rel => exact ⟨k + 1, by omega, by go_num, hs2, hC.drewN _⟩
          case measure => simp [intOf]; omega
        | true =>
          have hno : Hid ((l == l2) = false) := beq_eq_false_iff_ne.2 (not_same hx hy (by simpa using hxy))
          clear hx hy hsame
          go_wp2_with fail
          go_quiet (fail)
          go_wp2_with fail
          go_ret
          exact ⟨by rw [hno.out]; rfl, hC.drewN _⟩
      · obtain rfl : k = n := by omega
        have hyes : Hid ((l == l2) = true) := by
          show _ = _
          have := hs.out
          rw [List.take_of_length_le (by have := Hl.out; omega), List.take_of_length_le (by have := Hm.out; omega)] at this
          rw [this]
          simp
        go_wp2_with fail
        go_ret
        exact ⟨by rw [hyes.out]; rfl, hC⟩
  · have hne : ((n : Int) != (m : Int)) = true := by rw [bne_iff_ne]; omega
    have hno : Hid ((l == l2) = false) := beq_eq_false_iff_ne.2 (fun e => hnm (by have := Hl.out; have := Hm.out; rw [e] at Hl; have := Hl.out; omega))
    go_enter Try.func26, Try.ntmps26
    go_wp2_with fail
    go_ret
    exact ⟨by rw [hno.out]; rfl, Chg.refl _ _⟩
end Go.Proofs.Ytclpmadecibofaa
