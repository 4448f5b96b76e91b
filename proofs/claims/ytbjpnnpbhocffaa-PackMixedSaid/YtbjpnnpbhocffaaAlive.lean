/-
  alive: the example of the document.
-/
import Derived.Test.YtbjpnnpbhocffaaPackInt
namespace Go.Proofs.Ytbjpnnpbhocffaa
open Go.RowKit

theorem alive_any (w : World) : Calls Try.prog 10 #[] w fun e w2 => e = .returned (.bool true) ∧ Chg Non w w2 := by
  have hr : Rds (w.alloc (.cells #[.int .i64 1, .int .i64 (-1), .int .i64 64] 3)) 1 (some ⟨w.heap.size, 0, none⟩) 3 (iv [1, -1, 64]) := Rds.block (Blk.new _ _ _) rfl
  go_enter Try.func10, Try.ntmps10
  go_wp2_with fail
  refine (packInt_any _ _ _ [] _ _ _ _ _ Rds.nil_ hr (by simp [i64]) (by decide)).mono ?_
  rintro e w2 ⟨v, rfl, hown, hchg⟩
  obtain ⟨A, n, c, rfl, _, _, _, hrd⟩ := hown.open_
  have q := run_string_rds Try.underlying23 Try.underlying5 Try.underlying9 hrd c
  have e : [] ++ nums [1, -1, 64] = [2, 1, 128, 1] := by decide
  rw [e] at q
  clear hown hrd
  go_wp2_with fail
  go_ret
  exact ⟨rfl, ((Chg.refl _ w).alloc _).trans hchg⟩
end Go.Proofs.Ytbjpnnpbhocffaa
