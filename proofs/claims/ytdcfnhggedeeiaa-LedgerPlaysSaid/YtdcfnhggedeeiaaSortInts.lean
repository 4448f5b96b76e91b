/-
  slices.Sort of a row of numbers of the call's own.
-/
import Derived.Test.YtdcfnhggedeeiaaShelf
import Derived.Test.YtdcfnhggedeeiaaRow
import Derived.Test.YtdcfnhggedeeiaaRise
import Derived.Sort.OwnSortedInts
namespace Go.Proofs.Ytdcfnhggedeeiaa
open Go.RowKit
set_option linter.unusedVariables false
set_option linter.unusedSimpArgs false

abbrev rkN : RowKind Try.prog where
  t := 22
  e := 3
  z := .int .i64 0
  size := 1
  bytes := 8
  ht := Try.underlying22
  info := by kernel_rfl
  hz := rfl
  hs := by decide
  hb := by decide

theorem sort_own (w : World) (base : Nat) (v : Value) (n : Nat) (l : List Int) (h : OwnR rkN w base v n (iv l)) (hn : n ≤ 1099511627776) :
    Calls Try.prog 28 #[v] w fun e w2 => e = .returned (.tuple #[]) ∧ OwnR rkN w2 base v n (iv (l.mergeSort leI)) ∧ Chg (fun g => v.ownBlock = some g) w w2 := by
  have hl : l.length = n := by have := h.len; rw [iv_len] at this; simpa using this
  have h0 := h
  rcases h.2 with ⟨rfl, rfl⟩ | ⟨g, cap, cur, rfl, hbase, hb, h1, h2, h3, h4⟩
  · have hl0 : l = [] := List.eq_nil_of_length_eq_zero hl
    subst hl0
    refine (Try.slices_Sort_int_none none 0 w).mono ?_
    rintro e w2 ⟨rfl, rfl⟩
    exact ⟨rfl, by simpa [iv] using h, Chg.refl _ _⟩
  · subst hl
    have h4 : cur.toList.take l.length = l.map (Value.int .i64) := by have h5 : cur.toList.take (l.length * 1) = iv l := h4; rw [Nat.mul_one] at h5; exact h5
    refine (Try.slices_Sort_int g 0 cap l w (holds_of_blockI hb h4) (Array.getElem?_eq_some_iff.1 hb).1 (by omega)).mono ?_
    rintro e w2 ⟨rfl, n, os, rfl⟩
    exact ⟨rfl, ownsRow_sortedI (List.length_mergeSort l) hbase hb h1 h2 h3, Chg.of_grown (grownBy_sortedI _) |>.mono (fun b e => e)⟩
end Go.Proofs.Ytdcfnhggedeeiaa
