/-
  note's reader: count.
-/
import Derived.Test.YtclpmadecibofaaNotePack
import Derived.Test.YtclpmadecibofaaReadBits
namespace Go.Proofs.Ytclpmadecibofaa
open Go.RowKit
set_option linter.unusedVariables false
set_option linter.unusedSimpArgs false

theorem cnt_min (most x : Int) (hm : 0 ≤ most) : min (max 0 x) (most + 1) = ((cnt most x : Nat) : Int) := by unfold cnt; omega
theorem count_any {Dp : Nat → Prop} (w : World) (g : Nat) (R : List UInt8) (bad : Bool) (most : Int) (hm : 0 ≤ most ∧ most ≤ 100) (hc : CurP Dp w g R bad) :
    Calls Try.prog 49 #[.agg #[.pointer (some ⟨g, 0, none⟩)], .int .i64 most] w fun e w2 => e = .returned (.int .i64 (cnt most (cInt R bad).1 : Nat)) ∧ CurP Dp w2 g (cInt R bad).2.1 (cInt R bad).2.2 ∧ Chg (fun b => b = g) w w2 := by
  obtain ⟨w1, hw1⟩ : ∃ w1, w.alloc (.cells #[.pointer (some ⟨g, 0, none⟩)] 65) = w1 := ⟨_, rfl⟩
  have hC1 : Chg Non w w1 := hw1 ▸ (Chg.refl _ _).alloc _
  have hb1 : Blk w1 w.heap.size 65 #[.pointer (some ⟨g, 0, none⟩)] := hw1 ▸ Blk.new _ _ _
  have x0 := hb1.cell 0
  simp only [List.getElem?_toArray, List.getElem?_cons_zero] at x0
  have hc1 := hc.non hC1
  go_enter Try.func49, Try.ntmps49
  go_wp2_with fail
  refine (int_any g R bad w1 hc1).mono ?_
  rintro e w2 ⟨rfl, hcur, hc2⟩
  have hcn := cnt_min most (cInt R bad).1 hm.1
  have hi := cInt_i64 R bad
  obtain ⟨x, hx⟩ : ∃ x, (cInt R bad).1 = x := ⟨_, rfl⟩
  rw [hx] at hcn hi ⊢
  have Hx := Lib.hid hx
  have Hcn := Lib.hid hcn
  clear hx hcn
  go_wp2_with fail
  all_goals
    go_ret
    refine ⟨?_, hcur, ?_⟩
    · rw [Hx.out, ← Hcn.out]
      show Ending.returned (.int .i64 _) = Ending.returned (.int .i64 _)
      congr 2
      omega
    · exact (hC1.mono (fun _ e => e.elim)).trans hc2
end Go.Proofs.Ytclpmadecibofaa
