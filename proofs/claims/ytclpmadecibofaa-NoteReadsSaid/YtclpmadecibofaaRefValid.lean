/-
  gleanerref1: Valid.
-/
import Derived.Test.YtclpmadecibofaaLaw
import Derived.Test.YtclpmadecibofaaIdentPlain
namespace Go.Proofs.Ytclpmadecibofaa
open Go.RowKit
set_option linter.unusedVariables false

theorem refValid_any (s : ByteArray) (w : World) (hs : s.size ≤ 9223372036854775807) :
    Calls Try.prog 41 #[.string s] w fun e w2 => e = .returned (.bool (vid s)) ∧ w = w2 := by
  go_enter Try.func41, Try.ntmps41
  go_wp2_with fail
  go_loop [3] (fun i => ∃ k : Nat, k ≤ s.size ∧ k ≤ 13 ∧ i = .int .i64 k ∧ Hid ((s.data.toList.take k).all okD = true)) (fun i => s.size - (intOf i).toNat)
  case atStart => exact ⟨0, Nat.zero_le _, by omega, rfl, rfl⟩
  case round =>
    obtain ⟨k, hk, hk13, rfl, hall⟩ := hrel
    by_cases hlt : k < s.size
    · by_cases h13 : k ≤ 12
      · have hst := take_step s hlt
        have hmem := List.mem_of_getElem? (get_list s hlt)
        by_cases hb : s[k].toNat < 16
        · have hall2 : Hid ((s.data.toList.take (k + 1)).all okD = true) := by
            show _ = _
            rw [hst, List.all_append, hall.out]
            simp [okD, hb]
          clear hst hmem hall
          go_wp2_with fail
          go_round
          case rel => exact ⟨k + 1, by omega, by omega, by go_num, hall2⟩
          case measure => simp [intOf]; omega
        · have hno : vid s = false := by
            unfold vid
            rw [Bool.and_eq_false_iff]
            right
            rw [List.all_eq_false]
            exact ⟨s[k], hmem, by simp [okD]; omega⟩
          have Hno := Lib.hid hno
          clear hst hmem hall hno
          go_wp2_with fail
          go_ret
          exact ⟨by rw [Hno.out]; rfl, rfl⟩
      · have hno : vid s = false := by
          unfold vid
          rw [Bool.and_eq_false_iff]
          left
          simp; omega
        have Hno := Lib.hid hno
        have d1 : decide ((s.size : Int) ≤ 12) = false := by simp; omega
        clear hall hno
        go_wp2_with fail
        go_ret
        exact ⟨by rw [Hno.out]; first | rfl | (rw [← d1]; rfl), rfl⟩
    · have hks : k = s.size := by omega
      have hyes : vid s = decide (s.size ≤ 12) := by
        unfold vid
        have := hall.out
        rw [hks, take_whole] at this
        rw [this, Bool.and_true]
      have Hyes := Lib.hid hyes
      clear hyes hall
      go_wp2_with fail
      go_ret
      refine ⟨?_, rfl⟩
      rw [Hyes.out]
      show Ending.returned (.bool (decide ((s.size : Int) ≤ 12))) = _
      congr 2
      rw [decide_eq_decide]
      omega
end Go.Proofs.Ytclpmadecibofaa
