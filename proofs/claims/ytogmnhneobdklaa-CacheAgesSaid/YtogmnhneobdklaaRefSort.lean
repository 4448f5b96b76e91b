/-
  gleanerref1.Sort of names.
-/
import Derived.Test.YtogmnhneobdklaaPutS
namespace Go.Proofs.Ytogmnhneobdklaa
open Go.RowKit
set_option linter.unusedVariables false
set_option linter.unusedSimpArgs false

set_option maxRecDepth 100000 in
set_option maxHeartbeats 4000000 in
theorem refSort_any (w : World) (A : Option Addr) (n c : Nat) (L : List ByteArray) (hr : Rds w 1 A n (sv L)) (hn : n ≤ 1000000) :
    Calls Try.prog 11 #[.slice A n c] w fun e w2 => ∃ v m, e = .returned v ∧ m = (risenS L).length ∧ OwnR rkI w2 w.heap.size v m (sv (risenS L)) ∧ Chg Non w w2 := by
  have hnl := hr.lenMap
  have Hnl := Lib.hid hnl
  clear hnl
  go_enter Try.func11, Try.ntmps11
  go_wp2_with fail
  go_loopw [3, 4] (fun v i wr => ∃ k m : Nat, k ≤ n ∧ i = .int .i64 k ∧ m ≤ k ∧ OwnR rkI wr w.heap.size v m (sv (risenS (L.take k))) ∧ Chg Non w wr) (fun _ i _ => n - (intOf i).toNat)
  case atStart => exact ⟨0, 0, Nat.zero_le _, rfl, Nat.le_refl _, OwnR.nil _ _ _, Chg.refl _ _⟩
  case round =>
    obtain ⟨k, m, hk, rfl, hm, hO, hC⟩ := hrel
    by_cases hlt : k < n
    · obtain ⟨ad, x, rfl, hx, hcell⟩ := hr.getS hlt
      have hcr := hC.cell hcell id
      have hst : riseS x (risenS (L.take k)) = risenS (L.take (k + 1)) := by rw [List.take_add_one, hx]; exact (risenS_snoc _ _).symm
      have Hst := Lib.hid hst
      clear hx hcell hst
      go_wp2_with fail
      refine (putS_any _ w.heap.size _ m _ x hO hC.size (by omega)).mono ?_
      rintro e w2 ⟨v2, n2, rfl, hO2, hc2, _⟩
      rw [Hst.out] at hO2
      have hn2 : n2 ≤ k + 1 := by
        have h1 := hO2.len
        have h2 := risenS_le (L.take (k + 1))
        simp [sv] at h1
        simp at h2
        omega
      have hC2 := hC.non hc2
      clear hO hC hc2
      go_wp2_with fail
      go_roundw
      case rel => exact ⟨k + 1, n2, by omega, by go_num, hn2, hO2, hC2⟩
      case measure => simp [intOf]; omega
    · have hks : k = n := by omega
      go_wp2_with fail
      go_ret
      have h1 : L.take k = L := by rw [hks, Hnl.out, List.take_of_length_le (Nat.le_refl _)]
      rw [h1] at hO
      refine ⟨_, m, rfl, ?_, hO, hC⟩
      have := hO.len
      simpa [sv] using this.symm
end Go.Proofs.Ytogmnhneobdklaa
