/-
  gleanerref14.With, at the last epoch.
-/
import Derived.Test.YtojlglkefiddnaaViewRefWithP
namespace Go.Proofs.Ytojlglkefiddnaa
open Go.RowKit
set_option linter.unusedVariables false
set_option linter.unusedSimpArgs false

set_option maxRecDepth 100000 in
set_option maxHeartbeats 8000000 in
theorem refWith_last (w : World) (ep : Int) (A : Option Addr) (n c : Nat) (L : List Mb) (x life : Int) (h1 : Rds w 2 A n (mv L)) (hn : n ≤ 1000000000) (hy : mayB ep L = true) (hh : hasN L x = false) (t1 : 0 ≤ x) (t2 : x ≤ 15) (t3 : 1 ≤ life) (t4 : life ≤ 2147483647) (hep : ep = 2147483647) :
    Calls Try.prog 21 #[.agg #[.int .i64 ep, .slice A n c], .int .i64 x, .int .i64 life] w (VwR w 0 [] 16) := by
  obtain ⟨w1, hw1⟩ : ∃ w1, (w.alloc (.cells #[.int .i64 ep, .slice A n c] 26)).alloc (.cells #[.int .i64 0, .slice none 0 0] 26) = w1 := ⟨_, rfl⟩
  have hC : Chg Non w w1 := hw1 ▸ ((Chg.refl _ _).alloc _).alloc _
  have hbV : Blk w1 w.heap.size 26 #[.int .i64 ep, .slice A n c] := hw1 ▸ (Blk.new w _ _).alloc _
  have hbR : Blk w1 (w.heap.size + 1) 26 #[.int .i64 0, .slice none 0 0] := by
    have := Blk.new (w.alloc (.cells #[.int .i64 ep, .slice A n c] 26)) 26 #[.int .i64 0, .slice none 0 0]
    rw [hw1, World.size_alloc] at this
    exact this
  have h1' := h1.non hC
  have Hll := Lib.hid (mv_len h1)
  have hw1s : w.heap.size + 2 ≤ w1.heap.size := by rw [← hw1]; simp
  have hA : ∀ ad, A = some ad → 0 < n → ad.block < w.heap.size := fun ad e h => by
    obtain ⟨ad2, m2, e2, _, h3, _⟩ := h1.getM h
    rw [e] at e2
    obtain rfl := Option.some.inj e2
    exact World.block_lt_of_cell? w _ h3
  have v0 := hbV.cell 0
  have v1 := hbV.cell 1
  simp only [List.getElem?_toArray, List.getElem?_cons_zero, List.getElem?_cons_succ] at v0 v1
  clear h1
  have hep2 : (ep == 2147483647) = true := by rw [hep]; rfl
  clear hep
  have D1 : decide (x < 0) = false := decide_eq_false (by omega)
  have D2 : decide (15 < x) = false := decide_eq_false (by omega)
  have D3 : decide (life < 1) = false := decide_eq_false (by omega)
  have D4 : decide (2147483647 < life) = false := decide_eq_false (by omega)
  have T1 := Lib.hid t1
  have T2 := Lib.hid t2
  have T3 := Lib.hid t3
  have T4 := Lib.hid t4
  clear t1 t2 t3 t4
  have Hy := Lib.hid hy
  clear hy
  go_enter Try.func21, Try.ntmps21
  go_wp2_with fail
  refine (refMay_any _ ep A n c L h1' (by omega)).mono ?_
  rintro e w9 ⟨rfl, hc9⟩
  rw [Hy.out]
  try clear hw1
  replace hC := hC.non hc9
  replace hbV := hbV.non hc9
  replace hbR := hbR.non hc9
  replace h1' := h1'.non hc9
  replace hw1s : w.heap.size + 2 ≤ w9.heap.size := Nat.le_trans hw1s hc9.size
  clear v0 v1 hc9
  have v0 := hbV.cell 0
  have v1 := hbV.cell 1
  simp only [List.getElem?_toArray, List.getElem?_cons_zero, List.getElem?_cons_succ] at v0 v1
  have hbl := hbV.lt
  go_wp2_with fail
  refine (refMember_any w9 ep A n c L x h1' (by omega)).mono ?_
  rintro e w9 ⟨rfl, hc9⟩
  rw [hh]
  clear hh
  replace hC := hC.non hc9
  replace hbV := hbV.non hc9
  replace hbR := hbR.non hc9
  replace h1' := h1'.non hc9
  replace hw1s := Nat.le_trans hw1s hc9.size
  clear v0 v1 hc9
  have v0 := hbV.cell 0
  have v1 := hbV.cell 1
  simp only [List.getElem?_toArray, List.getElem?_cons_zero, List.getElem?_cons_succ] at v0 v1
  clear h1' hbV
  have d0 := hbR.cell 0
  have d1 := hbR.cell 1
  have e0 := hbR.frozen 0
  have e1 := hbR.frozen 1
  simp only [List.getElem?_toArray, List.getElem?_cons_zero, List.getElem?_cons_succ] at d0 d1
  have hb4 := (hbR.put 0 (.int .i64 0)).put 1 (.slice none 0 0)
  simp only [List.setIfInBounds_toArray, List.set_cons_succ, List.set_cons_zero] at hb4
  have r0 := hb4.cell 0
  have r1 := hb4.cell 1
  simp only [List.getElem?_toArray, List.getElem?_cons_zero, List.getElem?_cons_succ] at r0 r1
  have hC4 := Lib.hid (VwR.no (x := 16) ((hC.setCell (p := ⟨w.heap.size + 1, 0, none⟩) (.inr (by simp)) (.int .i64 0)).setCell (p := ⟨w.heap.size + 1, 1, none⟩) (.inr (by simp)) (.slice none 0 0)))
  clear hb4
  go_wp2_with fail
  exact bodyPost_ret (v := .tuple #[.agg #[.int .i64 0, .slice none 0 0], .int .i64 16]) (by simp [results, Try.results21, go_sem, r0, r1]) rfl hC4.out
end Go.Proofs.Ytojlglkefiddnaa
