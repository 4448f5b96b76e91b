/-
  gleanerref1: names: Valid, Kid, Up.
-/
import Derived.Test.YtbfekdgapcihmaaIdent
namespace Go.Proofs.Ytbfekdgapcihmaa
open Go.RowKit
set_option linter.unusedVariables false

theorem refValid_any (s : ByteArray) (w : World) (hs : s.size ≤ 4611686018427387904) :
    Calls Try.prog 16 #[.string s] w fun e w2 => e = .returned (.bool (vid s)) ∧ w = w2 := by
  go_enter Try.func16, Try.ntmps16
  go_wp2_with fail
  go_loop [3] (fun i => ∃ k : Nat, k ≤ s.size ∧ k ≤ 13 ∧ i = .int .i64 k ∧ Hid ((s.data.toList.take k).all okD = true)) (fun i => s.size - (intOf i).toNat)
  case atStart => exact ⟨0, Nat.zero_le _, by omega, rfl, rfl⟩
  case round =>
    obtain ⟨k, hk, hk13, rfl, hall⟩ := hrel
    by_cases hlt : k < s.size
    · by_cases h13 : k ≤ 12
      · have hst := take_step s hlt
        have hmem := List.mem_of_getElem? (get_list s hlt)
        by_cases hb : s[k].toNat < 16
        · have hall2 : Hid ((s.data.toList.take (k + 1)).all okD = true) := by
            show _ = _
            rw [hst, List.all_append, hall.out]
            simp [okD, hb]
          clear hst hmem hall
          go_wp2_with fail
          go_round
          case rel => exact ⟨k + 1, by omega, by omega, by go_num, hall2⟩
          case measure => simp [intOf]; omega
        · have hno : vid s = false := by
            unfold vid
            rw [Bool.and_eq_false_iff]
            right
            rw [List.all_eq_false]
            exact ⟨s[k], hmem, by simp [okD]; omega⟩
          have Hno := Lib.hid hno
          clear hst hmem hall hno
          go_wp2_with fail
          go_ret
          exact ⟨by rw [Hno.out]; rfl, rfl⟩
      · have hno : vid s = false := by
          unfold vid
          rw [Bool.and_eq_false_iff]
          left
          simp; omega
        have Hno := Lib.hid hno
        have d1 : decide ((s.size : Int) ≤ 12) = false := by simp; omega
        clear hall hno
        go_wp2_with fail
        go_ret
        exact ⟨by rw [Hno.out]; first | rfl | (rw [← d1]; rfl), rfl⟩
    · have hks : k = s.size := by omega
      have hyes : vid s = decide (s.size ≤ 12) := by
        unfold vid
        have := hall.out
        rw [hks, take_whole] at this
        rw [this, Bool.and_true]
      have Hyes := Lib.hid hyes
      clear hyes hall
      go_wp2_with fail
      go_ret
      refine ⟨?_, rfl⟩
      rw [Hyes.out]
      show Ending.returned (.bool (decide ((s.size : Int) ≤ 12))) = _
      congr 2
      rw [decide_eq_decide]
      omega

theorem refKid_any (s : ByteArray) (k : Int) (w : World) (hk : i64 k) (hs : s.size ≤ 4611686018427387904) :
    Calls Try.prog 14 #[.string s, .int .i64 k] w fun e w2 => e = .returned (.tuple #[.string (kid s k).1, .bool (kid s k).2]) ∧ Chg Non w w2 := by
  unfold i64 at hk
  have hk1 := hk.1
  have hk2 := hk.2
  clear hk
  by_cases hall : vid s = true ∧ s.size < 12 ∧ 0 ≤ k ∧ k < 16
  · have hkd : kid s k = (s ++ ⟨#[UInt8.ofNat k.toNat]⟩, true) := by unfold kid; rw [if_pos hall]
    have Hkd := Lib.hid hkd
    obtain ⟨hv, h12, h0, h16⟩ := hall
    have hy : k = ((UInt8.ofNat k.toNat).toNat : Int) := by rw [UInt8.toNat_ofNat']; omega
    have q : (convert 42 25 (.slice (some ⟨w.heap.size, 0, none⟩) 1 1)).run Try.prog (w.alloc (.cells #[.int .u8 k] 5)) = .ok (.string ⟨#[UInt8.ofNat k.toNat]⟩) (w.alloc (.cells #[.int .u8 k] 5)) := by
      rw [show Value.int .u8 k = .int .u8 ((UInt8.ofNat k.toNat).toNat : Int) by rw [← hy]]
      exact run_string_rds (L := [UInt8.ofNat k.toNat]) Try.underlying42 Try.underlying5 Try.underlying25 (Rds.one w _ _) 1
    have h12b : ((s.size : Int) == 12) = false := by simp; omega
    have h15 : k ≤ 15 := by omega
    have hs1 : (⟨#[UInt8.ofNat k.toNat]⟩ : ByteArray).size = 1 := rfl
    have Hy := Lib.hid hy
    clear hkd hy
    go_enter Try.func14, Try.ntmps14
    go_wp2_with (go_at_call 16; refine (refValid_any s _ hs).mono ?_; rintro e w9 ⟨rfl, rfl⟩; rw [hv])
    go_ret2
    exact ⟨by rw [Hkd.out]; rfl, (Chg.refl _ _).alloc _⟩
  · have Hkd := Lib.hid (kid_no hall)
    have hparts : vid s = false ∨ (vid s = true ∧ k < 0) ∨ (vid s = true ∧ 0 ≤ k ∧ 15 < k) ∨ (vid s = true ∧ 0 ≤ k ∧ k ≤ 15 ∧ s.size = 12) := by
      cases hv : vid s with
      | false => exact .inl rfl
      | true =>
        have := vid_small hv
        simp only [hv, true_and] at hall
        simp only [true_and]
        omega
    clear hall
    rcases hparts with hv | ⟨hv, h0⟩ | ⟨hv, h0, h16⟩ | ⟨hv, h0, h16, h12⟩
    · go_enter Try.func14, Try.ntmps14
      go_wp2_with (go_at_call 16; refine (refValid_any s _ hs).mono ?_; rintro e w9 ⟨rfl, rfl⟩; rw [hv])
      go_ret2
      exact ⟨by rw [Hkd.out]; rfl, Chg.refl _ _⟩
    · go_enter Try.func14, Try.ntmps14
      go_wp2_with (go_at_call 16; refine (refValid_any s _ hs).mono ?_; rintro e w9 ⟨rfl, rfl⟩; rw [hv])
      go_ret2
      exact ⟨by rw [Hkd.out]; rfl, Chg.refl _ _⟩
    · go_enter Try.func14, Try.ntmps14
      go_wp2_with (go_at_call 16; refine (refValid_any s _ hs).mono ?_; rintro e w9 ⟨rfl, rfl⟩; rw [hv])
      go_ret2
      exact ⟨by rw [Hkd.out]; rfl, Chg.refl _ _⟩
    · have h12b : ((s.size : Int) == 12) = true := by simp; omega
      go_enter Try.func14, Try.ntmps14
      go_wp2_with (go_at_call 16; refine (refValid_any s _ hs).mono ?_; rintro e w9 ⟨rfl, rfl⟩; rw [hv])
      go_ret2
      exact ⟨by rw [Hkd.out]; rfl, Chg.refl _ _⟩

theorem refUp_any (s : ByteArray) (w : World) (hs : s.size ≤ 4611686018427387904) :
    Calls Try.prog 15 #[.string s] w fun e w2 => e = .returned (.tuple #[.string (up s).1, .int .i64 (up s).2.1, .bool (up s).2.2]) ∧ Chg Non w w2 := by
  by_cases hall : vid s = true ∧ 0 < s.size
  · obtain ⟨j, hj⟩ : ∃ j : Nat, s.size = j + 1 := ⟨s.size - 1, by omega⟩
    have hj2 : j < s.size := by omega
    have hup2 : up s = (s.extract 0 j, (s[j].toNat : Int), true) := by
      unfold up
      rw [if_pos hall, List.getD_eq_getElem?_getD, show s.size - 1 = j by omega, get_list s hj2]
      rfl
    have Hup2 := Lib.hid hup2
    obtain ⟨hv, h0⟩ := hall
    have h0b : ((s.size : Int) == 0) = false := beq_eq_false_iff_ne.2 (by omega)
    have hj1 : (s.size : Int) - 1 = (j : Int) := by omega
    have hj3 : (j : Int) ≤ s.size := by omega
    have hj4 : IntKind.i64.wrap ((s.size : Int) - 1) = (j : Int) := by rw [hj1]; exact IntWalk.i64_in _ (by omega)
    have hj5 : wrap64 ((s.size : Int) - 1) = (j : Int) := by rw [hj1]; exact IntWalk.wrap64_in _ (by omega)
    clear hup2 hj
    go_enter Try.func15, Try.ntmps15
    go_wp2_with (go_at_call 16; refine (refValid_any s _ hs).mono ?_; rintro e w9 ⟨rfl, rfl⟩; rw [hv])
    clear h0 h0b hj1
    go_quiet (fail)
    go_wp2_with fail
    go_ret3
    have hw : wrap64 (s[j].toNat : Int) = (s[j].toNat : Int) := IntWalk.wrap64_in _ (by have := s[j].toNat_lt; omega)
    refine ⟨?_, (Chg.refl _ _).drewN _⟩
    rw [Hup2.out]
    show Ending.returned (.tuple #[.string (s.extract 0 j), .int .i64 (wrap64 (s[j].toNat : Int)), .bool true]) = _
    rw [hw]
  · have Hup := Lib.hid (up_no hall)
    have hparts : vid s = false ∨ (vid s = true ∧ s.size = 0) := by
      cases hv : vid s with
      | false => exact .inl rfl
      | true => simp only [hv, true_and] at hall; exact .inr ⟨rfl, by omega⟩
    clear hall
    rcases hparts with hv | ⟨hv, h0⟩
    · go_enter Try.func15, Try.ntmps15
      go_wp2_with (go_at_call 16; refine (refValid_any s _ hs).mono ?_; rintro e w9 ⟨rfl, rfl⟩; rw [hv])
      go_ret3
      exact ⟨by rw [Hup.out]; rfl, Chg.refl _ _⟩
    · have hb : ((s.size : Int) == 0) = true := beq_iff_eq.2 (by omega)
      go_enter Try.func15, Try.ntmps15
      go_wp2_with (go_at_call 16; refine (refValid_any s _ hs).mono ?_; rintro e w9 ⟨rfl, rfl⟩; rw [hv])
      go_ret3
      exact ⟨by rw [Hup.out]; rfl, Chg.refl _ _⟩
end Go.Proofs.Ytbfekdgapcihmaa
