/-
  move.Giver: Again, In.
-/
import Derived.Test.YtflaliomkfbagaaMvOffer
namespace Go.Proofs.Ytflaliomkfbagaa
open Go.RowKit
set_option linter.unusedVariables false
set_option linter.unusedSimpArgs false

def againV (s : GvS) (a : ByteArray) : Value := match s.off a with | some o => .tuple #[offV o a, .bool true] | none => .tuple #[noneV, .bool false]

set_option maxRecDepth 100000 in
set_option maxHeartbeats 8000000 in
theorem gvAgain_any (w : World) (F : Nat → Prop) (g sm om ns no : Nat) (s : GvS) (h : Gv w F g sm om ns no s) (a : ByteArray) (ha : a.size ≤ maxLen) :
    Calls Try.prog 15 #[.pointer (some ⟨g, 0, none⟩), .string a] w fun e w2 => e = .returned (againV s a) ∧ Chg Non w w2 := by
  obtain ⟨w1, hw1⟩ : ∃ w1, w.alloc (.cells #[.int .i64 0, .int .i64 0, .int .i64 0, .int .i64 0, .string ⟨#[]⟩, .int .i64 0, .slice none 0 0, .int .i64 0, .int .i64 0, .int .i64 0, .slice none 0 0] 59) = w1 := ⟨_, rfl⟩
  have hc1 : Chg Non w w1 := hw1 ▸ (Chg.refl _ _).alloc _
  have hbR : Blk w1 w.heap.size 59 #[.int .i64 0, .int .i64 0, .int .i64 0, .int .i64 0, .string ⟨#[]⟩, .int .i64 0, .slice none 0 0, .int .i64 0, .int .i64 0, .int .i64 0, .slice none 0 0] := hw1 ▸ Blk.new _ _ _
  have h := h.non hc1
  have c2 : w1.cell? ⟨g, 2, none⟩ = some (.map (some om)) := h.hb.cell 2
  have gl := h.hb.lt
  have hcase : ∃ o b, ((s.off a).map ofV).getD (.agg #[.int .i64 0, .int .i64 0, .int .i64 0]) = ofV o ∧ ((s.off a).map ofV).isSome = b ∧ againV s a = if b then .tuple #[offV o a, .bool true] else .tuple #[noneV, .bool false] := by
    unfold againV
    cases hf : s.off a with
    | none => exact ⟨⟨0, 0, 0⟩, false, rfl, rfl, rfl⟩
    | some x => exact ⟨x, true, rfl, rfl, rfl⟩
  obtain ⟨o, b, hb2, hsm, hA⟩ := hcase
  have q1 := h.ho.look_okS Try.underlying46 (z := .agg #[.int .i64 0, .int .i64 0, .int .i64 0]) (by kernel_rfl) ha rfl
  rw [hb2, hsm] at q1
  unfold ofV at q1
  obtain ⟨w2, hw2⟩ : ∃ w2, w1.alloc (.cells #[.int .i64 o.to, .int .i64 o.epoch, .int .i64 o.num] 95) = w2 := ⟨_, rfl⟩
  have hc2 : Chg Non w1 w2 := hw2 ▸ (Chg.refl _ _).alloc _
  have hbO : Blk w2 w1.heap.size 95 #[.int .i64 o.to, .int .i64 o.epoch, .int .i64 o.num] := hw2 ▸ Blk.new _ _ _
  have hR2 := hbR.non hc2
  clear hbR h hb2 hsm
  cases b with
  | false =>
    have HA : Hid (againV s a = .tuple #[noneV, .bool false]) := hA
    clear hA
    have d0 := hR2.cell 0
    have d1 := hR2.cell 1
    have d2 := hR2.cell 2
    have d3 := hR2.cell 3
    have d4 := hR2.cell 4
    have d5 := hR2.cell 5
    have d6 := hR2.cell 6
    have d7 := hR2.cell 7
    have d8 := hR2.cell 8
    have d9 := hR2.cell 9
    have d10 := hR2.cell 10
    simp only [List.getElem?_toArray, List.getElem?_cons_zero, List.getElem?_cons_succ] at d0 d1 d2 d3 d4 d5 d6 d7 d8 d9 d10
    have f0 := hR2.frozen 0
    have f1 := hR2.frozen 1
    have f2 := hR2.frozen 2
    have f3 := hR2.frozen 3
    have f4 := hR2.frozen 4
    have f5 := hR2.frozen 5
    have f6 := hR2.frozen 6
    have f7 := hR2.frozen 7
    have f8 := hR2.frozen 8
    have f9 := hR2.frozen 9
    have f10 := hR2.frozen 10
    have rl := hR2.lt
    have hb4 := (((((((((((hR2.put 0 (.int .i64 0)).put 1 (.int .i64 0)).put 2 (.int .i64 0)).put 3 (.int .i64 0)).put 4 (.string ⟨#[]⟩)).put 5 (.int .i64 0)).put 6 (.slice none 0 0)).put 7 (.int .i64 0)).put 8 (.int .i64 0)).put 9 (.int .i64 0)).put 10 (.slice none 0 0))
    simp only [List.setIfInBounds_toArray, List.set_cons_succ, List.set_cons_zero] at hb4
    have r0 := hb4.cell 0
    have r1 := hb4.cell 1
    have r2 := hb4.cell 2
    have r3 := hb4.cell 3
    have r4 := hb4.cell 4
    have r5 := hb4.cell 5
    have r6 := hb4.cell 6
    have r7 := hb4.cell 7
    have r8 := hb4.cell 8
    have r9 := hb4.cell 9
    have r10 := hb4.cell 10
    simp only [List.getElem?_toArray, List.getElem?_cons_zero, List.getElem?_cons_succ] at r0 r1 r2 r3 r4 r5 r6 r7 r8 r9 r10
    have hC4 := ((((((((((((hc1.non hc2).setCell (p := ⟨w.heap.size, 0, none⟩) (.inr (by show w.heap.size ≤ w.heap.size; omega)) (.int .i64 0)).setCell (p := ⟨w.heap.size, 1, none⟩) (.inr (by show w.heap.size ≤ w.heap.size; omega)) (.int .i64 0)).setCell (p := ⟨w.heap.size, 2, none⟩) (.inr (by show w.heap.size ≤ w.heap.size; omega)) (.int .i64 0)).setCell (p := ⟨w.heap.size, 3, none⟩) (.inr (by show w.heap.size ≤ w.heap.size; omega)) (.int .i64 0)).setCell (p := ⟨w.heap.size, 4, none⟩) (.inr (by show w.heap.size ≤ w.heap.size; omega)) (.string ⟨#[]⟩)).setCell (p := ⟨w.heap.size, 5, none⟩) (.inr (by show w.heap.size ≤ w.heap.size; omega)) (.int .i64 0)).setCell (p := ⟨w.heap.size, 6, none⟩) (.inr (by show w.heap.size ≤ w.heap.size; omega)) (.slice none 0 0)).setCell (p := ⟨w.heap.size, 7, none⟩) (.inr (by show w.heap.size ≤ w.heap.size; omega)) (.int .i64 0)).setCell (p := ⟨w.heap.size, 8, none⟩) (.inr (by show w.heap.size ≤ w.heap.size; omega)) (.int .i64 0)).setCell (p := ⟨w.heap.size, 9, none⟩) (.inr (by show w.heap.size ≤ w.heap.size; omega)) (.int .i64 0)).setCell (p := ⟨w.heap.size, 10, none⟩) (.inr (by show w.heap.size ≤ w.heap.size; omega)) (.slice none 0 0))
    obtain ⟨w10, hw10⟩ : ∃ w10, (((((((((((w2.setCell ⟨w.heap.size, 0, none⟩ (.int .i64 0)).setCell ⟨w.heap.size, 1, none⟩ (.int .i64 0)).setCell ⟨w.heap.size, 2, none⟩ (.int .i64 0)).setCell ⟨w.heap.size, 3, none⟩ (.int .i64 0)).setCell ⟨w.heap.size, 4, none⟩ (.string ⟨#[]⟩)).setCell ⟨w.heap.size, 5, none⟩ (.int .i64 0)).setCell ⟨w.heap.size, 6, none⟩ (.slice none 0 0)).setCell ⟨w.heap.size, 7, none⟩ (.int .i64 0)).setCell ⟨w.heap.size, 8, none⟩ (.int .i64 0)).setCell ⟨w.heap.size, 9, none⟩ (.int .i64 0)).setCell ⟨w.heap.size, 10, none⟩ (.slice none 0 0)) = w10 := ⟨_, rfl⟩
    rw [hw10] at hC4 r0 r1 r2 r3 r4 r5 r6 r7 r8 r9 r10
    clear hb4 hR2 hbO
    go_enter Try.func15, Try.ntmps15
    go_wp2_with fail
    exact bodyPost_ret (v := .tuple #[noneV, .bool false]) (by simp [results, Try.results15, go_sem, noneV, NtC, Nt.zero, r0, r1, r2, r3, r4, r5, r6, r7, r8, r9, r10]) rfl ⟨by rw [HA.out], hC4⟩
  | true =>
    have HA : Hid (againV s a = .tuple #[offV o a, .bool true]) := hA
    have p0 : w2.cell? ⟨w1.heap.size, 0, none⟩ = some (.int .i64 o.to) := hbO.cell 0
    have p1 : w2.cell? ⟨w1.heap.size, 1, none⟩ = some (.int .i64 o.epoch) := hbO.cell 1
    have p2 : w2.cell? ⟨w1.heap.size, 2, none⟩ = some (.int .i64 o.num) := hbO.cell 2
    have pl := hbO.lt
    have hNt := offNote_any w2 o a
    clear hA
    go_enter Try.func15, Try.ntmps15
    go_wp2_with fail
    refine hNt.mono ?_
    rintro e w3 ⟨rfl, hc3⟩
    have hR3 := hR2.non hc3
    have hC3 := (hc1.non hc2).non hc3
    clear hNt p0 p1 p2 pl c2 gl q1 hw1 hw2 hR2 hbO
    unfold offV offN Nt.zero NtC
    dsimp only
    have d0 := hR3.cell 0
    have d1 := hR3.cell 1
    have d2 := hR3.cell 2
    have d3 := hR3.cell 3
    have d4 := hR3.cell 4
    have d5 := hR3.cell 5
    have d6 := hR3.cell 6
    have d7 := hR3.cell 7
    have d8 := hR3.cell 8
    have d9 := hR3.cell 9
    have d10 := hR3.cell 10
    simp only [List.getElem?_toArray, List.getElem?_cons_zero, List.getElem?_cons_succ] at d0 d1 d2 d3 d4 d5 d6 d7 d8 d9 d10
    have f0 := hR3.frozen 0
    have f1 := hR3.frozen 1
    have f2 := hR3.frozen 2
    have f3 := hR3.frozen 3
    have f4 := hR3.frozen 4
    have f5 := hR3.frozen 5
    have f6 := hR3.frozen 6
    have f7 := hR3.frozen 7
    have f8 := hR3.frozen 8
    have f9 := hR3.frozen 9
    have f10 := hR3.frozen 10
    have rl := hR3.lt
    have hb4 := (((((((((((hR3.put 0 (.int .i64 4)).put 1 (.int .i64 0)).put 2 (.int .i64 o.num)).put 3 (.int .i64 o.epoch)).put 4 (.string a)).put 5 (.int .i64 0)).put 6 (.slice none 0 0)).put 7 (.int .i64 0)).put 8 (.int .i64 0)).put 9 (.int .i64 0)).put 10 (.slice none 0 0))
    simp only [List.setIfInBounds_toArray, List.set_cons_succ, List.set_cons_zero] at hb4
    have r0 := hb4.cell 0
    have r1 := hb4.cell 1
    have r2 := hb4.cell 2
    have r3 := hb4.cell 3
    have r4 := hb4.cell 4
    have r5 := hb4.cell 5
    have r6 := hb4.cell 6
    have r7 := hb4.cell 7
    have r8 := hb4.cell 8
    have r9 := hb4.cell 9
    have r10 := hb4.cell 10
    simp only [List.getElem?_toArray, List.getElem?_cons_zero, List.getElem?_cons_succ] at r0 r1 r2 r3 r4 r5 r6 r7 r8 r9 r10
    have hC4 := (((((((((((hC3.setCell (p := ⟨w.heap.size, 0, none⟩) (.inr (by show w.heap.size ≤ w.heap.size; omega)) (.int .i64 4)).setCell (p := ⟨w.heap.size, 1, none⟩) (.inr (by show w.heap.size ≤ w.heap.size; omega)) (.int .i64 0)).setCell (p := ⟨w.heap.size, 2, none⟩) (.inr (by show w.heap.size ≤ w.heap.size; omega)) (.int .i64 o.num)).setCell (p := ⟨w.heap.size, 3, none⟩) (.inr (by show w.heap.size ≤ w.heap.size; omega)) (.int .i64 o.epoch)).setCell (p := ⟨w.heap.size, 4, none⟩) (.inr (by show w.heap.size ≤ w.heap.size; omega)) (.string a)).setCell (p := ⟨w.heap.size, 5, none⟩) (.inr (by show w.heap.size ≤ w.heap.size; omega)) (.int .i64 0)).setCell (p := ⟨w.heap.size, 6, none⟩) (.inr (by show w.heap.size ≤ w.heap.size; omega)) (.slice none 0 0)).setCell (p := ⟨w.heap.size, 7, none⟩) (.inr (by show w.heap.size ≤ w.heap.size; omega)) (.int .i64 0)).setCell (p := ⟨w.heap.size, 8, none⟩) (.inr (by show w.heap.size ≤ w.heap.size; omega)) (.int .i64 0)).setCell (p := ⟨w.heap.size, 9, none⟩) (.inr (by show w.heap.size ≤ w.heap.size; omega)) (.int .i64 0)).setCell (p := ⟨w.heap.size, 10, none⟩) (.inr (by show w.heap.size ≤ w.heap.size; omega)) (.slice none 0 0))
    obtain ⟨w10, hw10⟩ : ∃ w10, (((((((((((w3.setCell ⟨w.heap.size, 0, none⟩ (.int .i64 4)).setCell ⟨w.heap.size, 1, none⟩ (.int .i64 0)).setCell ⟨w.heap.size, 2, none⟩ (.int .i64 o.num)).setCell ⟨w.heap.size, 3, none⟩ (.int .i64 o.epoch)).setCell ⟨w.heap.size, 4, none⟩ (.string a)).setCell ⟨w.heap.size, 5, none⟩ (.int .i64 0)).setCell ⟨w.heap.size, 6, none⟩ (.slice none 0 0)).setCell ⟨w.heap.size, 7, none⟩ (.int .i64 0)).setCell ⟨w.heap.size, 8, none⟩ (.int .i64 0)).setCell ⟨w.heap.size, 9, none⟩ (.int .i64 0)).setCell ⟨w.heap.size, 10, none⟩ (.slice none 0 0)) = w10 := ⟨_, rfl⟩
    rw [hw10] at hC4 r0 r1 r2 r3 r4 r5 r6 r7 r8 r9 r10
    clear hb4 hR3
    go_wp2_with fail
    exact bodyPost_ret (v := .tuple #[.agg #[.int .i64 4, .int .i64 0, .int .i64 o.num, .int .i64 o.epoch, .string a, .int .i64 0, .slice none 0 0, .int .i64 0, .int .i64 0, .int .i64 0, .slice none 0 0], .bool true]) (by simp [results, Try.results15, go_sem, r0, r1, r2, r3, r4, r5, r6, r7, r8, r9, r10]) rfl ⟨by rw [HA.out]; rfl, hC4⟩
end Go.Proofs.Ytflaliomkfbagaa
