/-
  move.Giver.Offer that refuses.
-/
import Derived.Test.YtflaliomkfbagaaMvOffer
import Derived.Test.YtflaliomkfbagaaMvTaker
namespace Go.Proofs.Ytflaliomkfbagaa
section
open Go.RowKit
set_option linter.unusedVariables false
set_option linter.unusedSimpArgs false

/-- What an offer may be. -/
def offB (s : GvS) (a : ByteArray) (to epoch : Int) : Bool := s.has a && !(to == s.node) && decide (0 ≤ to) && decide (to < 16) && decide (0 ≤ epoch) && decide (epoch ≤ 2147483647)

set_option maxRecDepth 100000 in
set_option maxHeartbeats 8000000 in
theorem gvOffer_no (w : World) (F : Nat → Prop) (g sm om ns no : Nat) (s : GvS) (h : Gv w F g sm om ns no s) (a : ByteArray) (ha : a.size ≤ maxLen) (to epoch : Int) (hno : offB s a to epoch = false) :
    Calls Try.prog 16 #[.pointer (some ⟨g, 0, none⟩), .string a, .int .i64 to, .int .i64 epoch] w fun e w2 => e = .returned (.tuple #[noneV, .int .i64 1]) ∧ Chg Non w w2 := by
  obtain ⟨w1, hw1⟩ : ∃ w1, w.alloc (.cells #[.int .i64 0, .int .i64 0, .int .i64 0, .int .i64 0, .string ⟨#[]⟩, .int .i64 0, .slice none 0 0, .int .i64 0, .int .i64 0, .int .i64 0, .slice none 0 0] 59) = w1 := ⟨_, rfl⟩
  have hc1 : Chg Non w w1 := hw1 ▸ (Chg.refl _ _).alloc _
  have hbR : Blk w1 w.heap.size 59 #[.int .i64 0, .int .i64 0, .int .i64 0, .int .i64 0, .string ⟨#[]⟩, .int .i64 0, .slice none 0 0, .int .i64 0, .int .i64 0, .int .i64 0, .slice none 0 0] := hw1 ▸ Blk.new _ _ _
  have h := h.non hc1
  have c0 : w1.cell? ⟨g, 0, none⟩ = some (.map (some sm)) := h.hb.cell 0
  have c1 : w1.cell? ⟨g, 1, none⟩ = some (.int .i64 s.node) := h.hb.cell 1
  have gl := h.hb.lt
  have q1 := h.hs.lookS Try.underlying45 (z := .bool false) (by kernel_rfl) ha rfl
  have hin : (inB s.has a).getD (.bool false) = .bool (s.has a) := by unfold inB; cases s.has a <;> rfl
  rw [hin] at q1
  have d0 := hbR.cell 0
  have d1 := hbR.cell 1
  have d2 := hbR.cell 2
  have d3 := hbR.cell 3
  have d4 := hbR.cell 4
  have d5 := hbR.cell 5
  have d6 := hbR.cell 6
  have d7 := hbR.cell 7
  have d8 := hbR.cell 8
  have d9 := hbR.cell 9
  have d10 := hbR.cell 10
  simp only [List.getElem?_toArray, List.getElem?_cons_zero, List.getElem?_cons_succ] at d0 d1 d2 d3 d4 d5 d6 d7 d8 d9 d10
  have f0 := hbR.frozen 0
  have f1 := hbR.frozen 1
  have f2 := hbR.frozen 2
  have f3 := hbR.frozen 3
  have f4 := hbR.frozen 4
  have f5 := hbR.frozen 5
  have f6 := hbR.frozen 6
  have f7 := hbR.frozen 7
  have f8 := hbR.frozen 8
  have f9 := hbR.frozen 9
  have f10 := hbR.frozen 10
  have rl := hbR.lt
  have hb4 := (((((((((((hbR.put 0 (.int .i64 0)).put 1 (.int .i64 0)).put 2 (.int .i64 0)).put 3 (.int .i64 0)).put 4 (.string ⟨#[]⟩)).put 5 (.int .i64 0)).put 6 (.slice none 0 0)).put 7 (.int .i64 0)).put 8 (.int .i64 0)).put 9 (.int .i64 0)).put 10 (.slice none 0 0))
  simp only [List.setIfInBounds_toArray, List.set_cons_succ, List.set_cons_zero] at hb4
  have r0 := hb4.cell 0
  have r1 := hb4.cell 1
  have r2 := hb4.cell 2
  have r3 := hb4.cell 3
  have r4 := hb4.cell 4
  have r5 := hb4.cell 5
  have r6 := hb4.cell 6
  have r7 := hb4.cell 7
  have r8 := hb4.cell 8
  have r9 := hb4.cell 9
  have r10 := hb4.cell 10
  simp only [List.getElem?_toArray, List.getElem?_cons_zero, List.getElem?_cons_succ] at r0 r1 r2 r3 r4 r5 r6 r7 r8 r9 r10
  have hC4 := (((((((((((hc1.setCell (p := ⟨w.heap.size, 0, none⟩) (.inr (Nat.le_refl _)) (.int .i64 0)).setCell (p := ⟨w.heap.size, 1, none⟩) (.inr (Nat.le_refl _)) (.int .i64 0)).setCell (p := ⟨w.heap.size, 2, none⟩) (.inr (Nat.le_refl _)) (.int .i64 0)).setCell (p := ⟨w.heap.size, 3, none⟩) (.inr (Nat.le_refl _)) (.int .i64 0)).setCell (p := ⟨w.heap.size, 4, none⟩) (.inr (Nat.le_refl _)) (.string ⟨#[]⟩)).setCell (p := ⟨w.heap.size, 5, none⟩) (.inr (Nat.le_refl _)) (.int .i64 0)).setCell (p := ⟨w.heap.size, 6, none⟩) (.inr (Nat.le_refl _)) (.slice none 0 0)).setCell (p := ⟨w.heap.size, 7, none⟩) (.inr (Nat.le_refl _)) (.int .i64 0)).setCell (p := ⟨w.heap.size, 8, none⟩) (.inr (Nat.le_refl _)) (.int .i64 0)).setCell (p := ⟨w.heap.size, 9, none⟩) (.inr (Nat.le_refl _)) (.int .i64 0)).setCell (p := ⟨w.heap.size, 10, none⟩) (.inr (Nat.le_refl _)) (.slice none 0 0))
  have Hc := Lib.hid hC4
  have hcase : s.has a = false ∨ (s.has a = true ∧ (to == s.node) = true) ∨ (s.has a = true ∧ (to == s.node) = false ∧ to < 0) ∨ (s.has a = true ∧ (to == s.node) = false ∧ 0 ≤ to ∧ 16 ≤ to) ∨ (s.has a = true ∧ (to == s.node) = false ∧ 0 ≤ to ∧ to < 16 ∧ epoch < 0) ∨ (s.has a = true ∧ (to == s.node) = false ∧ 0 ≤ to ∧ to < 16 ∧ 0 ≤ epoch ∧ 2147483647 < epoch) := by
    unfold offB at hno
    cases h1 : s.has a with
    | false => exact .inl rfl
    | true =>
      cases h2 : (to == s.node) with
      | true => exact .inr (.inl ⟨rfl, rfl⟩)
      | false =>
        rw [h1, h2] at hno
        simp at hno
        refine .inr (.inr ?_)
        by_cases h3 : to < 0
        · exact .inl ⟨rfl, rfl, h3⟩
        · by_cases h4 : 16 ≤ to
          · exact .inr (.inl ⟨rfl, rfl, by omega, h4⟩)
          · by_cases h5 : epoch < 0
            · exact .inr (.inr (.inl ⟨rfl, rfl, by omega, by omega, h5⟩))
            · exact .inr (.inr (.inr ⟨rfl, rfl, by omega, by omega, by omega, hno (by omega) (by omega) (by omega)⟩))
  clear h hbR hin hb4 hC4 hno hc1
  rcases hcase with e1 | ⟨e1, e2⟩ | ⟨e1, e2, e3⟩ | ⟨e1, e2, e3, e4⟩ | ⟨e1, e2, e3, e4, e5⟩ | ⟨e1, e2, e3, e4, e5, e6⟩
  all_goals
    rw [e1] at q1
    clear e1
    go_enter Try.func16, Try.ntmps16
    go_wp2_with fail
    exact bodyPost_ret (v := .tuple #[noneV, .int .i64 1]) (by simp [results, Try.results16, go_sem, noneV, NtC, Nt.zero, r0, r1, r2, r3, r4, r5, r6, r7, r8, r9, r10]) rfl ⟨rfl, Hc.out⟩
end

section
open Go.RowKit
set_option linter.unusedVariables false
set_option linter.unusedSimpArgs false

def doneS (s : TkS) (a : ByteArray) : TkS := { s with has := fun c => !decide (c = a) && s.has c }
set_option maxRecDepth 100000 in
set_option maxHeartbeats 4000000 in
theorem tkDone_any (w : World) (F : Nat → Prop) (g sm tm ns nt : Nat) (s : TkS) (h : Tk w F g sm tm ns nt s) (a : ByteArray) (ha : a.size ≤ maxLen) :
    Calls Try.prog 32 #[.pointer (some ⟨g, 0, none⟩), .string a] w fun e w2 => e = .returned (.bool (s.has a)) ∧ (∃ ns2, ns2 ≤ ns ∧ Tk w2 F g sm tm ns2 nt (doneS s a)) ∧ Chg F w w2 := by
  have c0 : w.cell? ⟨g, 0, none⟩ = some (.map (some sm)) := h.hb.cell 0
  have gl := h.hb.lt
  have q1 := h.hs.lookS Try.underlying45 (z := .bool false) (by kernel_rfl) ha rfl
  have hin : (inB s.has a).getD (.bool false) = .bool (s.has a) := by unfold inB; cases s.has a <;> rfl
  rw [hin] at q1
  have hsg : g ≠ sm := fun e => h.hs.apart h.hb e.symm
  have H := Lib.hid h
  clear h hin
  go_enter Try.func32, Try.ntmps32
  go_wp2_with (at_delete; refine wp_delete_Mp (K := nmKey) rfl (.tmp 15) (.tmp 16) 45 rfl H.out.hs Try.underlying45 rfl (b := a) ha rfl ?_; intro w2 hm2 hc2)
  go_ret
  rw [inB_del] at hm2
  obtain ⟨n2, hn2⟩ : ∃ n2, (if (inB s.has a).isSome = true then ns - 1 else ns) = n2 := ⟨_, rfl⟩
  rw [hn2] at hm2
  have hle : n2 ≤ ns := by rw [← hn2]; split <;> omega
  exact ⟨rfl, ⟨n2, hle, ⟨H.out.hb.chg hc2 (fun e => hsg e), hm2, H.out.ht.chg hc2 (fun e => H.out.ne (show tm = sm from e).symm), H.out.ne, H.out.Fg, H.out.Fs, H.out.Ft, fun b hb => Nat.lt_of_lt_of_le (H.out.lt b hb) hc2.size⟩⟩, hc2.mono fun b e => by rw [show b = sm from e]; exact H.out.Fs⟩
end

section
open Go.RowKit
set_option linter.unusedVariables false
set_option linter.unusedSimpArgs false

set_option maxRecDepth 100000 in
set_option maxHeartbeats 8000000 in
theorem tkIn_no (w : World) (g : Nat) (n : Nt) (A : Option Addr) (k c : Nat) (B : Option Addr) (m d : Nat) (hN : NtAt w n A k c B m d) (hk : k ≤ 1099511627776) (hm : m ≤ 1099511627776) (hno : n.clear.may = false ∨ (n.clear.may = true ∧ (n.kind != 4) = true)) :
    Calls Try.prog 17 #[.pointer (some ⟨g, 0, none⟩), .agg (NtC n A k c B m d)] w fun e w2 => e = .returned (.tuple #[noneV, .bool false]) ∧ Chg Non w w2 := by
  obtain ⟨w1, hw1⟩ : ∃ w1, (w.alloc (.cells #[.int .i64 n.kind, .int .i64 n.node, .int .i64 n.life, .int .i64 n.epoch, .string n.id, .int .i64 n.fn, .slice A k c, .int .i64 n.err, .int .i64 n.val, .int .i64 n.vep, .slice B m d] 59)).alloc (.cells #[.int .i64 0, .int .i64 0, .int .i64 0, .int .i64 0, .string ⟨#[]⟩, .int .i64 0, .slice none 0 0, .int .i64 0, .int .i64 0, .int .i64 0, .slice none 0 0] 59) = w1 := ⟨_, rfl⟩
  have hc1 : Chg Non w w1 := hw1 ▸ ((Chg.refl _ _).alloc _).alloc _
  have hbN : Blk w1 w.heap.size 59 #[.int .i64 n.kind, .int .i64 n.node, .int .i64 n.life, .int .i64 n.epoch, .string n.id, .int .i64 n.fn, .slice A k c, .int .i64 n.err, .int .i64 n.val, .int .i64 n.vep, .slice B m d] := hw1 ▸ (Blk.new w _ _).alloc _
  have hbR : Blk w1 (w.heap.size + 1) 59 #[.int .i64 0, .int .i64 0, .int .i64 0, .int .i64 0, .string ⟨#[]⟩, .int .i64 0, .slice none 0 0, .int .i64 0, .int .i64 0, .int .i64 0, .slice none 0 0] := by
    have := Blk.new (w.alloc (.cells #[.int .i64 n.kind, .int .i64 n.node, .int .i64 n.life, .int .i64 n.epoch, .string n.id, .int .i64 n.fn, .slice A k c, .int .i64 n.err, .int .i64 n.val, .int .i64 n.vep, .slice B m d] 59)) 59 #[.int .i64 0, .int .i64 0, .int .i64 0, .int .i64 0, .string ⟨#[]⟩, .int .i64 0, .slice none 0 0, .int .i64 0, .int .i64 0, .int .i64 0, .slice none 0 0]
    rw [hw1, World.size_alloc] at this
    exact this
  have hpk := pack_any w1 n A k c B m d (hN.non hc1) hk hm
  have HbN := Lib.hid hbN
  have HbR := Lib.hid hbR
  have Hc1 := Lib.hid hc1
  have hz1 := hc1.size
  have y0 : w1.cell? ⟨w.heap.size, 0, none⟩ = some (.int .i64 n.kind) := hbN.cell 0
  have y1 : w1.cell? ⟨w.heap.size, 1, none⟩ = some (.int .i64 n.node) := hbN.cell 1
  have y2 : w1.cell? ⟨w.heap.size, 2, none⟩ = some (.int .i64 n.life) := hbN.cell 2
  have y3 : w1.cell? ⟨w.heap.size, 3, none⟩ = some (.int .i64 n.epoch) := hbN.cell 3
  have y4 : w1.cell? ⟨w.heap.size, 4, none⟩ = some (.string n.id) := hbN.cell 4
  have y5 : w1.cell? ⟨w.heap.size, 5, none⟩ = some (.int .i64 n.fn) := hbN.cell 5
  have y6 : w1.cell? ⟨w.heap.size, 6, none⟩ = some (.slice A k c) := hbN.cell 6
  have y7 : w1.cell? ⟨w.heap.size, 7, none⟩ = some (.int .i64 n.err) := hbN.cell 7
  have y8 : w1.cell? ⟨w.heap.size, 8, none⟩ = some (.int .i64 n.val) := hbN.cell 8
  have y9 : w1.cell? ⟨w.heap.size, 9, none⟩ = some (.int .i64 n.vep) := hbN.cell 9
  have y10 : w1.cell? ⟨w.heap.size, 10, none⟩ = some (.slice B m d) := hbN.cell 10
  have yl := hbN.lt
  clear hbN hbR hc1
  rcases hno with hmay | ⟨hmay, hkind⟩
  all_goals
    have hpe : n.packErr = (if n.clear.may then 0 else 1) := rfl
    rw [hmay] at hpe
    simp only [Bool.false_eq_true, if_true, if_false] at hpe
    rw [hpe] at hpk
    clear hpe hmay hN
    go_enter Try.func17, Try.ntmps17
    unfold NtC at hpk ⊢
    go_wp2_with fail
    refine hpk.mono ?_
    clear hpk y0 y1 y2 y3 y4 y5 y6 y7 y8 y9 y10 yl hw1
    rintro e w2 ⟨v, rfl, _, hc2⟩
    have hN2 := HbN.out.non hc2
    have hR2 := HbR.out.non hc2
    have y0 : w2.cell? ⟨w.heap.size, 0, none⟩ = some (.int .i64 n.kind) := hN2.cell 0
    have yl := hN2.lt
    have d0 := hR2.cell 0
    have d1 := hR2.cell 1
    have d2 := hR2.cell 2
    have d3 := hR2.cell 3
    have d4 := hR2.cell 4
    have d5 := hR2.cell 5
    have d6 := hR2.cell 6
    have d7 := hR2.cell 7
    have d8 := hR2.cell 8
    have d9 := hR2.cell 9
    have d10 := hR2.cell 10
    simp only [List.getElem?_toArray, List.getElem?_cons_zero, List.getElem?_cons_succ] at d0 d1 d2 d3 d4 d5 d6 d7 d8 d9 d10
    have f0 := hR2.frozen 0
    have f1 := hR2.frozen 1
    have f2 := hR2.frozen 2
    have f3 := hR2.frozen 3
    have f4 := hR2.frozen 4
    have f5 := hR2.frozen 5
    have f6 := hR2.frozen 6
    have f7 := hR2.frozen 7
    have f8 := hR2.frozen 8
    have f9 := hR2.frozen 9
    have f10 := hR2.frozen 10
    have rl := hR2.lt
    have hb4 := (((((((((((hR2.put 0 (.int .i64 0)).put 1 (.int .i64 0)).put 2 (.int .i64 0)).put 3 (.int .i64 0)).put 4 (.string ⟨#[]⟩)).put 5 (.int .i64 0)).put 6 (.slice none 0 0)).put 7 (.int .i64 0)).put 8 (.int .i64 0)).put 9 (.int .i64 0)).put 10 (.slice none 0 0))
    simp only [List.setIfInBounds_toArray, List.set_cons_succ, List.set_cons_zero] at hb4
    have r0 := hb4.cell 0
    have r1 := hb4.cell 1
    have r2 := hb4.cell 2
    have r3 := hb4.cell 3
    have r4 := hb4.cell 4
    have r5 := hb4.cell 5
    have r6 := hb4.cell 6
    have r7 := hb4.cell 7
    have r8 := hb4.cell 8
    have r9 := hb4.cell 9
    have r10 := hb4.cell 10
    simp only [List.getElem?_toArray, List.getElem?_cons_zero, List.getElem?_cons_succ] at r0 r1 r2 r3 r4 r5 r6 r7 r8 r9 r10
    have hC4 := ((((((((((((Hc1.out.non hc2).setCell (p := ⟨w.heap.size + 1, 0, none⟩) (.inr (by show w.heap.size ≤ w.heap.size + 1; omega)) (.int .i64 0)).setCell (p := ⟨w.heap.size + 1, 1, none⟩) (.inr (by show w.heap.size ≤ w.heap.size + 1; omega)) (.int .i64 0)).setCell (p := ⟨w.heap.size + 1, 2, none⟩) (.inr (by show w.heap.size ≤ w.heap.size + 1; omega)) (.int .i64 0)).setCell (p := ⟨w.heap.size + 1, 3, none⟩) (.inr (by show w.heap.size ≤ w.heap.size + 1; omega)) (.int .i64 0)).setCell (p := ⟨w.heap.size + 1, 4, none⟩) (.inr (by show w.heap.size ≤ w.heap.size + 1; omega)) (.string ⟨#[]⟩)).setCell (p := ⟨w.heap.size + 1, 5, none⟩) (.inr (by show w.heap.size ≤ w.heap.size + 1; omega)) (.int .i64 0)).setCell (p := ⟨w.heap.size + 1, 6, none⟩) (.inr (by show w.heap.size ≤ w.heap.size + 1; omega)) (.slice none 0 0)).setCell (p := ⟨w.heap.size + 1, 7, none⟩) (.inr (by show w.heap.size ≤ w.heap.size + 1; omega)) (.int .i64 0)).setCell (p := ⟨w.heap.size + 1, 8, none⟩) (.inr (by show w.heap.size ≤ w.heap.size + 1; omega)) (.int .i64 0)).setCell (p := ⟨w.heap.size + 1, 9, none⟩) (.inr (by show w.heap.size ≤ w.heap.size + 1; omega)) (.int .i64 0)).setCell (p := ⟨w.heap.size + 1, 10, none⟩) (.inr (by show w.heap.size ≤ w.heap.size + 1; omega)) (.slice none 0 0))
    have Hc := Lib.hid hC4
    clear hN2 hR2 hb4 hC4
    go_wp2_with fail
    exact bodyPost_ret (v := .tuple #[noneV, .bool false]) (by simp [results, Try.results17, go_sem, noneV, NtC, Nt.zero, r0, r1, r2, r3, r4, r5, r6, r7, r8, r9, r10]) rfl ⟨rfl, Hc.out⟩
end
end Go.Proofs.Ytflaliomkfbagaa
