/-
  gleanerref1.In, gleanerref14.First.
-/
import Derived.Test.YtbkjpeelabdkfaaVwPlain
import Derived.Test.YtbkjpeelabdkfaaVwRefHas
namespace Go.Proofs.Ytbkjpeelabdkfaa
open Go.RowKit
set_option linter.unusedVariables false
set_option linter.unusedSimpArgs false

/-- What a call of First, Without, With leaves: a view, an error. -/
def VwR (w : World) (ep : Int) (M : List Mb) (x : Int) (e : Ending) (w2 : World) : Prop :=
  ∃ A n c, e = .returned (.tuple #[.agg #[.int .i64 ep, .slice A n c], .int .i64 x]) ∧ Win rkM w2 (.slice A n c) n (mv M) ∧ (∀ b, (Value.slice A n c).ownBlock = some b → w.heap.size ≤ b) ∧ Chg Non w w2
theorem VwR.no {w w2 : World} {x : Int} (hc : Chg Non w w2) : VwR w 0 [] x (.returned (.tuple #[.agg #[.int .i64 0, .slice none 0 0], .int .i64 x])) w2 :=
  ⟨none, 0, 0, rfl, Win.nil _ _, fun b hb => by simp [Value.ownBlock] at hb, hc⟩

set_option maxRecDepth 100000 in
set_option maxHeartbeats 600000 in
theorem refIn_any (w : World) (A : Option Addr) (n c : Nat) (L : List Int) (x : Int) (h1 : Rds w 1 A n (iv L)) (hn : n ≤ 9223372036854775807) :
    Calls Try.prog 33 #[.slice A n c, .int .i64 x] w fun e w2 => e = .returned (.bool (inI L x)) ∧ w = w2 := by
  have H1 := Lib.hid h1
  have Hl := Lib.hid h1.lenMap
  clear h1
  go_enter Try.func33, Try.ntmps33
  go_wp2_with fail
  go_loop [5] (fun i => ∃ k : Nat, k ≤ n ∧ i = .int .i64 k ∧ Hid ((L.take k).any (fun y => x == y) = false)) (fun i => n - (intOf i).toNat)
  case atStart => exact ⟨0, Nat.zero_le _, rfl, rfl⟩
  case round =>
    obtain ⟨k, hk, rfl, hno⟩ := hrel
    by_cases hlt : k < n
    · obtain ⟨ad, y, rfl, hx, hc⟩ := H1.out.getI hlt
      cases hp : y == x with
      | true =>
        have Hy : Hid (inI L x = true) := any_at (p := fun y : Int => x == y) hx (by rw [show (x == y) = (y == x) from BEq.comm]; exact hp)
        clear hx hno
        go_wp2_with fail
        go_ret
        exact ⟨by rw [Hy.out]; rfl, rfl⟩
      | false =>
        have hst : Hid ((L.take (k + 1)).any (fun y => x == y) = false) := by have h9 := any_step (p := fun y : Int => x == y) hx; rw [hno.out, show (x == y) = (y == x) from BEq.comm, hp] at h9; exact h9
        clear hx hno
        go_wp2_with fail
        go_round
        case rel => exact ⟨k + 1, by omega, by go_num, hst⟩
        case measure => simp [intOf]; omega
    · have Hy : Hid (inI L x = false) := by have h9 := hno.out; rw [List.take_of_length_le (by have := Hl.out; omega)] at h9; exact h9
      clear hno
      go_wp2_with fail
      go_ret
      exact ⟨by rw [Hy.out]; rfl, rfl⟩

set_option maxRecDepth 100000 in
set_option maxHeartbeats 600000 in
theorem refFirst_no (w : World) (x : Int) (h : ¬ (1 ≤ x ∧ x ≤ 16)) :
    Calls Try.prog 12 #[.int .i64 x] w (VwR w 0 [] 1) := by
  obtain ⟨w1, hw1⟩ : ∃ w1, w.alloc (.cells #[.int .i64 0, .slice none 0 0] 34) = w1 := ⟨_, rfl⟩
  have hC : Chg Non w w1 := hw1 ▸ (Chg.refl _ _).alloc _
  have hbR : Blk w1 w.heap.size 34 #[.int .i64 0, .slice none 0 0] := hw1 ▸ Blk.new _ _ _
  have d0 := hbR.cell 0
  have d1 := hbR.cell 1
  have e0 := hbR.frozen 0
  have e1 := hbR.frozen 1
  simp only [List.getElem?_toArray, List.getElem?_cons_zero, List.getElem?_cons_succ] at d0 d1
  have hb4 := (hbR.put 0 (.int .i64 0)).put 1 (.slice none 0 0)
  simp only [List.setIfInBounds_toArray, List.set_cons_succ, List.set_cons_zero] at hb4
  have r0 := hb4.cell 0
  have r1 := hb4.cell 1
  simp only [List.getElem?_toArray, List.getElem?_cons_zero, List.getElem?_cons_succ] at r0 r1
  have hC4 := Lib.hid (VwR.no (x := 1) ((hC.setCell (p := ⟨w.heap.size, 0, none⟩) (.inr (by simp)) (.int .i64 0)).setCell (p := ⟨w.heap.size, 1, none⟩) (.inr (by simp)) (.slice none 0 0)))
  have hcase : x < 1 ∨ (1 ≤ x ∧ 16 < x) := by omega
  clear hb4 hbR hC h
  rcases hcase with h | ⟨h, h2⟩
  all_goals
    go_enter Try.func12, Try.ntmps12
    go_wp2_with fail
    exact bodyPost_ret (v := .tuple #[.agg #[.int .i64 0, .slice none 0 0], .int .i64 1]) (by simp [results, Try.results12, go_sem, r0, r1]) rfl hC4.out

set_option maxRecDepth 100000 in
set_option maxHeartbeats 600000 in
theorem refFirst_yes (w : World) (n : Nat) (h1 : 1 ≤ n) (h16 : n ≤ 16) :
    Calls Try.prog 12 #[.int .i64 (n : Int)] w (VwR w 1 (firstM n) 0) := by
  go_enter Try.func12, Try.ntmps12
  go_wp2_with fail
  go_loopw [5] (fun i wr => ∃ (k : Nat) (A : Option Addr) (c : Nat), k ≤ n ∧ i = .int .i64 k ∧ Blk wr (w.heap.size + 1) 34 #[.int .i64 1, .slice A k c] ∧ Blk wr w.heap.size 34 #[.int .i64 0, .slice none 0 0] ∧ OwnR rkM wr w.heap.size (.slice A k c) k (mv (firstM k)) ∧ Chg Non w wr) (fun i _ => n - (intOf i).toNat)
  case atStart =>
    have hb0 := (Blk.new w 34 #[.int .i64 0, .slice none 0 0]).alloc (.cells #[.int .i64 1, .slice none 0 0] 34)
    have hb1 := Blk.new (w.alloc (.cells #[.int .i64 0, .slice none 0 0] 34)) 34 #[.int .i64 1, .slice none 0 0]
    rw [World.size_alloc] at hb1
    exact ⟨0, none, 0, Nat.zero_le _, rfl, hb1, hb0, OwnR.nil _ _ _, ((Chg.refl _ _).alloc _).alloc _⟩
  case round =>
    obtain ⟨k, A, c, hk, rfl, hb1, hb0, hown, hC⟩ := hrel
    by_cases hlt : k < n
    · have c1 := hb1.cell 1
      simp only [List.getElem?_toArray, List.getElem?_cons_zero, List.getElem?_cons_succ] at c1
      have hst := Lib.hid (firstM_step k)
      go_wp2_with (at_builtin; refine appR1 (K := rkM) rfl (.tmp 20) (.tmp 23) rfl hown rfl (cs := #[.int .i64 k, .int .i64 1]) rfl rfl (cellM_one ((k : Int), 1)) ?_ ?_ ?_; (next => omega); (next => exact hC.size); intro v6 w6 h6 hc6 hv6; obtain ⟨A6, c6, rfl, _⟩ := h6.open_; have hb16 := hb1.chg hc6 (fun e => hown.apart hb1 (by decide) e); have c16 := hb16.cell 1; have f16 := hb16.frozen 1; simp only [List.getElem?_toArray, List.getElem?_cons_zero, List.getElem?_cons_succ] at c16)
      have hb06 := hb0.chg hc6 (fun e => hown.apart hb0 (by decide) e)
      have hC6 : Chg Non w w6 := OwnR.chgApp hown hC (Nat.le_refl _) hc6
      have hS : Chg (fun b => b = w.heap.size + 1) w6 (w6.setCell ⟨w.heap.size + 1, 1, none⟩ (.slice A6 (k + 1) c6)) := (Chg.refl _ _).set1 1 _
      have hb17 := hb16.put 1 (.slice A6 (k + 1) c6)
      simp only [List.setIfInBounds_toArray, List.set_cons_succ, List.set_cons_zero] at hb17
      have h7 : OwnR rkM (w6.setCell ⟨w.heap.size + 1, 1, none⟩ (.slice A6 (k + 1) c6)) w.heap.size (.slice A6 (k + 1) c6) (k + 1) (mv (firstM (k + 1))) := by
        rw [hst.out, mv_snoc]
        exact h6.chg hS (fun b hb e => h6.apart hb16 (by decide) (by rw [hb, show b = w.heap.size + 1 from e]))
      go_roundw
      case rel => exact ⟨k + 1, A6, c6, by omega, by go_num, hb17, hb06.chg hS (fun e => by have e : w.heap.size = w.heap.size + 1 := e; omega), h7, hC6.setCell (p := ⟨w.heap.size + 1, 1, none⟩) (.inr (by simp)) _⟩
      case measure => simp [intOf]; omega
    · obtain rfl : k = n := by omega
      have c0 := hb1.cell 0
      have c1 := hb1.cell 1
      have d0 := hb0.cell 0
      have d1 := hb0.cell 1
      have e0 := hb0.frozen 0
      have e1 := hb0.frozen 1
      simp only [List.getElem?_toArray, List.getElem?_cons_zero, List.getElem?_cons_succ] at c0 c1 d0 d1
      have hb2 := (hb0.put 0 (.int .i64 1)).put 1 (.slice A k c)
      simp only [List.setIfInBounds_toArray, List.set_cons_succ, List.set_cons_zero] at hb2
      have r0 := hb2.cell 0
      have r1 := hb2.cell 1
      simp only [List.getElem?_toArray, List.getElem?_cons_zero, List.getElem?_cons_succ] at r0 r1
      have hS : Chg (fun b => b = w.heap.size) wr ((wr.setCell ⟨w.heap.size, 0, none⟩ (.int .i64 1)).setCell ⟨w.heap.size, 1, none⟩ (.slice A k c)) := ((Chg.refl _ _).set1 0 _).set1 1 _
      have hwin := (Win.of_own hown).chg hS (fun b hb e => hown.apart hb0 (by decide) (by rw [hb, show b = w.heap.size from e]))
      have hC2 := hC.trans2 hS (fun b e => .inr (by have e : b = w.heap.size := e; omega))
      have hge := fun b (hb : (Value.slice A k c).ownBlock = some b) => (hown.lt hb).1
      clear hown hb0 hb1 hb2
      go_wp2_with fail
      exact bodyPost_ret (v := .tuple #[.agg #[.int .i64 1, .slice A k c], .int .i64 0]) (by simp [results, Try.results12, go_sem, r0, r1]) rfl ⟨A, _, c, rfl, hwin, hge, hC2⟩
end Go.Proofs.Ytbkjpeelabdkfaa
