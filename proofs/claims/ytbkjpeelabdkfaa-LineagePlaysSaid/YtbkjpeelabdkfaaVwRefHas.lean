/-
  gleanerref14.Member.
-/
import Derived.Test.YtbkjpeelabdkfaaVwPlain
namespace Go.Proofs.Ytbkjpeelabdkfaa
open Go.RowKit
set_option linter.unusedVariables false
set_option linter.unusedSimpArgs false

set_option maxRecDepth 100000 in
set_option maxHeartbeats 600000 in
theorem refMember_any (w : World) (ep : Int) (A : Option Addr) (n c : Nat) (L : List Mb) (x : Int) (h1 : Rds w 2 A n (mv L)) (hn : n ≤ 9223372036854775807) :
    Calls Try.prog 32 #[.agg #[.int .i64 ep, .slice A n c], .int .i64 x] w fun e w2 => e = .returned (.bool (hasN L x)) ∧ Chg Non w w2 := by
  obtain ⟨w1, hw1⟩ : ∃ w1, w.alloc (.cells #[.int .i64 ep, .slice A n c] 34) = w1 := ⟨_, rfl⟩
  have hC : Chg Non w w1 := hw1 ▸ (Chg.refl _ _).alloc _
  have hb : Blk w1 w.heap.size 34 #[.int .i64 ep, .slice A n c] := hw1 ▸ Blk.new _ _ _
  have H1 := Lib.hid (h1.non hC)
  have Hl := Lib.hid (mv_len h1)
  have c1 : w1.cell? ⟨w.heap.size, 1, none⟩ = some (.slice A n c) := hb.cell 1
  have bl := hb.lt
  clear h1
  go_enter Try.func32, Try.ntmps32
  go_wp2_with fail
  clear hw1
  go_loop [5] (fun i => ∃ k : Nat, k ≤ n ∧ i = .int .i64 k ∧ Hid ((L.take k).any (fun m => m.1 == x) = false)) (fun i => n - (intOf i).toNat)
  case atStart => exact ⟨0, Nat.zero_le _, rfl, rfl⟩
  case round =>
    obtain ⟨k, hk, rfl, hno⟩ := hrel
    by_cases hlt : k < n
    · obtain ⟨ad, m, rfl, hx, hc0, hc1⟩ := H1.out.getM hlt
      cases hp : m.1 == x with
      | true =>
        have Hy : Hid (hasN L x = true) := any_at (p := fun m : Mb => m.1 == x) hx hp
        clear hx hc1 hno
        go_wp2_with fail
        go_ret
        exact ⟨by rw [Hy.out]; rfl, hC⟩
      | false =>
        have hst : Hid ((L.take (k + 1)).any (fun m => m.1 == x) = false) := by have h9 := any_step (p := fun m : Mb => m.1 == x) hx; rw [hno.out] at h9; exact h9.trans (by simp [hp])
        clear hx hc1 hno
        go_wp2_with fail
        go_round
        case rel => exact ⟨k + 1, by omega, by go_num, hst⟩
        case measure => simp [intOf]; omega
    · have Hy : Hid (hasN L x = false) := by have h9 := hno.out; rw [List.take_of_length_le (by have := Hl.out; omega)] at h9; exact h9
      clear hno
      go_wp2_with fail
      go_ret
      exact ⟨by rw [Hy.out]; rfl, hC⟩
end Go.Proofs.Ytbkjpeelabdkfaa
