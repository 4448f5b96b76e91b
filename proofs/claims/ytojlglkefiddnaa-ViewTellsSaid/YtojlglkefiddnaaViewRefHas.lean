/-
  gleanerref14.Member and Has: is a node in a view?
-/
import Derived.Test.YtojlglkefiddnaaViewHas
namespace Go.Proofs.Ytojlglkefiddnaa
open Go.RowKit
set_option linter.unusedVariables false
set_option linter.unusedSimpArgs false

theorem any_step {α : Type} {L : List α} {p : α → Bool} {k : Nat} {m : α} (h : L[k]? = some m) : (L.take (k + 1)).any p = ((L.take k).any p || p m) := by
  rw [List.take_add_one, h]
  simp
theorem any_at {α : Type} {L : List α} {p : α → Bool} {k : Nat} {m : α} (h : L[k]? = some m) (hp : p m = true) : L.any p = true := List.any_eq_true.2 ⟨m, List.mem_of_getElem? h, hp⟩

set_option maxRecDepth 100000 in
set_option maxHeartbeats 600000 in
theorem refMember_any (w : World) (ep : Int) (A : Option Addr) (n c : Nat) (L : List Mb) (x : Int) (h1 : Rds w 2 A n (mv L)) (hn : n ≤ 9223372036854775807) :
    Calls Try.prog 38 #[.agg #[.int .i64 ep, .slice A n c], .int .i64 x] w fun e w2 => e = .returned (.bool (hasN L x)) ∧ Chg Non w w2 := by
  obtain ⟨w1, hw1⟩ : ∃ w1, w.alloc (.cells #[.int .i64 ep, .slice A n c] 26) = w1 := ⟨_, rfl⟩
  have hC : Chg Non w w1 := hw1 ▸ (Chg.refl _ _).alloc _
  have hb : Blk w1 w.heap.size 26 #[.int .i64 ep, .slice A n c] := hw1 ▸ Blk.new _ _ _
  have H1 := Lib.hid (h1.non hC)
  have Hl := Lib.hid (mv_len h1)
  have c1 : w1.cell? ⟨w.heap.size, 1, none⟩ = some (.slice A n c) := hb.cell 1
  have bl := hb.lt
  clear h1
  go_enter Try.func38, Try.ntmps38
  go_wp2_with fail
  clear hw1
  go_loop [5] (fun i => ∃ k : Nat, k ≤ n ∧ i = .int .i64 k ∧ Hid ((L.take k).any (fun m => m.1 == x) = false)) (fun i => n - (intOf i).toNat)
  case atStart => exact ⟨0, Nat.zero_le _, rfl, rfl⟩
  case round =>
    obtain ⟨k, hk, rfl, hno⟩ := hrel
    by_cases hlt : k < n
    · obtain ⟨ad, m, rfl, hx, hc0, hc1⟩ := H1.out.getM hlt
      cases hp : m.1 == x with
      | true =>
        have Hy : Hid (hasN L x = true) := any_at (p := fun m : Mb => m.1 == x) hx hp
        clear hx hc1 hno
        go_wp2_with fail
        go_ret
        exact ⟨by rw [Hy.out]; rfl, hC⟩
      | false =>
        have hst : Hid ((L.take (k + 1)).any (fun m => m.1 == x) = false) := by have h9 := any_step (p := fun m : Mb => m.1 == x) hx; rw [hno.out] at h9; exact h9.trans (by simp [hp])
        clear hx hc1 hno
        go_wp2_with fail
        go_round
        case rel => exact ⟨k + 1, by omega, by go_num, hst⟩
        case measure => simp [intOf]; omega
    · have Hy : Hid (hasN L x = false) := by have h9 := hno.out; rw [List.take_of_length_le (by have := Hl.out; omega)] at h9; exact h9
      clear hno
      go_wp2_with fail
      go_ret
      exact ⟨by rw [Hy.out]; rfl, hC⟩

set_option maxRecDepth 100000 in
set_option maxHeartbeats 600000 in
theorem refHas_any (w : World) (ep : Int) (A : Option Addr) (n c : Nat) (L : List Mb) (a b : Int) (h1 : Rds w 2 A n (mv L)) (hn : n ≤ 9223372036854775807) :
    Calls Try.prog 23 #[.agg #[.int .i64 ep, .slice A n c], .int .i64 a, .int .i64 b] w fun e w2 => e = .returned (.bool (inM L a b)) ∧ Chg Non w w2 := by
  obtain ⟨w1, hw1⟩ : ∃ w1, w.alloc (.cells #[.int .i64 ep, .slice A n c] 26) = w1 := ⟨_, rfl⟩
  have hC : Chg Non w w1 := hw1 ▸ (Chg.refl _ _).alloc _
  have hb : Blk w1 w.heap.size 26 #[.int .i64 ep, .slice A n c] := hw1 ▸ Blk.new _ _ _
  have H1 := Lib.hid (h1.non hC)
  have Hl := Lib.hid (mv_len h1)
  have c1 : w1.cell? ⟨w.heap.size, 1, none⟩ = some (.slice A n c) := hb.cell 1
  have bl := hb.lt
  clear h1
  go_enter Try.func23, Try.ntmps23
  go_wp2_with fail
  clear hw1
  go_loop [7] (fun i => ∃ k : Nat, k ≤ n ∧ i = .int .i64 k ∧ Hid ((L.take k).any (fun m => sameM (a, b) m) = false)) (fun i => n - (intOf i).toNat)
  case atStart => exact ⟨0, Nat.zero_le _, rfl, rfl⟩
  case round =>
    obtain ⟨k, hk, rfl, hno⟩ := hrel
    by_cases hlt : k < n
    · obtain ⟨ad, m, rfl, hx, hc0, hc1⟩ := H1.out.getM hlt
      have hcase : ((m.1 == a) = true ∧ (m.2 == b) = true) ∨ ((m.1 == a) = true ∧ (m.2 == b) = false) ∨ (m.1 == a) = false := by
        cases m.1 == a <;> cases m.2 == b <;> simp
      have hstep : (m.1 == a && m.2 == b) = false → (L.take (k + 1)).any (fun m => sameM (a, b) m) = false := fun h => by
        rw [any_step hx, hno.out]
        have : sameM (a, b) m = (m.1 == a && m.2 == b) := by unfold sameM; rw [show ((a, b) : Mb).1 = a from rfl, show ((a, b) : Mb).2 = b from rfl, show (a == m.1) = (m.1 == a) from BEq.comm, show (b == m.2) = (m.2 == b) from BEq.comm]
        rw [this, h]
        rfl
      rcases hcase with ⟨h2, h3⟩ | ⟨h2, h3⟩ | h2
      · have Hy : Hid (inM L a b = true) := any_at (p := fun m => sameM (a, b) m) hx (by rw [sameM_eq]; simp at h2 h3; rw [← h2, ← h3]; simp)
        clear hx hno hstep
        go_wp2_with fail
        go_ret
        exact ⟨by rw [Hy.out]; rfl, hC⟩
      · have hst := Lib.hid (hstep (by rw [h2, h3]; rfl))
        clear hx hno hstep
        go_wp2_with fail
        go_round
        case rel => exact ⟨k + 1, by omega, by go_num, hst⟩
        case measure => simp [intOf]; omega
      · have hst := Lib.hid (hstep (by rw [h2]; rfl))
        clear hx hno hstep
        go_wp2_with fail
        go_round
        case rel => exact ⟨k + 1, by omega, by go_num, hst⟩
        case measure => simp [intOf]; omega
    · have Hy : Hid (inM L a b = false) := by have h9 := hno.out; rw [List.take_of_length_le (by have := Hl.out; omega)] at h9; exact h9
      clear hno
      go_wp2_with fail
      go_ret
      exact ⟨by rw [Hy.out]; rfl, hC⟩
end Go.Proofs.Ytojlglkefiddnaa
