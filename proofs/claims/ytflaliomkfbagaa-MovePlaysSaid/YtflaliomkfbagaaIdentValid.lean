/-
  ident.Valid.
-/
import Derived.Test.YtflaliomkfbagaaLaw
import Derived.Test.YtflaliomkfbagaaIdentPlain
namespace Go.Proofs.Ytflaliomkfbagaa
open Go.RowKit
set_option linter.unusedVariables false

theorem valid_any (s : ByteArray) (w : World) :
    Calls Try.prog 34 #[.string s] w fun e w2 => e = .returned (.bool (vid s)) ∧ w = w2 := by
  go_enter Try.func34, Try.ntmps34
  by_cases h12 : s.size ≤ 12
  · have hv : vid s = s.data.toList.all okD := by simp [vid, h12]
    have Hv := Lib.hid hv; clear hv
    go_wp2_with fail
    go_loop [9] (fun i => ∃ k : Nat, k ≤ s.size ∧ i = .int .i64 k ∧ Hid ((s.data.toList.take k).all okD = true)) (fun i => s.size - (intOf i).toNat)
    case atStart => exact ⟨0, Nat.zero_le _, rfl, rfl⟩
    case round =>
      obtain ⟨k, hk, rfl, hall⟩ := hrel
      by_cases hlt : k < s.size
      · have hst := take_step s hlt
        have hmem := List.mem_of_getElem? (get_list s hlt)
        by_cases hb : s[k].toNat < 16
        · have hall2 : Hid ((s.data.toList.take (k + 1)).all okD = true) := by
            show _ = _
            rw [hst, List.all_append, hall.out]
            simp [okD, hb]
          clear hst hmem hall
          go_wp2_with fail
          go_round
          case rel => exact ⟨k + 1, by omega, by go_num, hall2⟩
          case measure => simp [intOf]; omega
        · have hno : vid s = false := by
            rw [Hv.out, List.all_eq_false]
            exact ⟨s[k], hmem, by simp [okD]; omega⟩
          have Hno := Lib.hid hno
          clear hst hmem hall hno
          go_wp2_with fail
          go_ret
          exact ⟨by rw [Hno.out]; rfl, rfl⟩
      · have hyes : vid s = true := by
          rw [Hv.out, ← take_whole s, show s.size = k by omega]; exact hall.out
        have Hyes := Lib.hid hyes
        clear hyes hall
        go_wp2_with fail
        go_ret
        exact ⟨by rw [Hyes.out]; rfl, rfl⟩
  · have hv : vid s = false := by simp [vid, h12]
    have Hv := Lib.hid hv; clear hv
    go_wp2_with fail
    go_ret
    exact ⟨by rw [Hv.out]; rfl, rfl⟩
end Go.Proofs.Ytflaliomkfbagaa
