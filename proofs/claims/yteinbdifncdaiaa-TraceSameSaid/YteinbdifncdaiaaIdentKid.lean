/-
  ident.Kid.
-/
import Derived.Test.YteinbdifncdaiaaOwn
import Derived.Test.YteinbdifncdaiaaIdentValid
import Derived.Test.YteinbdifncdaiaaSteps
namespace Go.Proofs.Yteinbdifncdaiaa
open Go.RowKit
set_option linter.unusedVariables false

theorem kid_no {s : ByteArray} {k : Int} (h : ¬ (vid s = true ∧ s.size < 12 ∧ 0 ≤ k ∧ k < 16)) : kid s k = (⟨#[]⟩, false) := by unfold kid; rw [if_neg h]
theorem size_nil {s : ByteArray} (h : s.size = 0) : s.toList = [] := by
  rw [ByteArray.toList_eq]
  exact List.eq_nil_of_length_eq_zero (by rw [size_list]; exact h)
theorem is_nil (s : ByteArray) : s.toList.isEmpty = decide (s.size = 0) := by
  rw [ByteArray.toList_eq, Bool.eq_iff_iff, List.isEmpty_iff, decide_eq_true_eq, ← size_list]
  exact List.length_eq_zero_iff.symm

set_option maxRecDepth 100000 in
theorem kid_any (s : ByteArray) (k : Int) (w : World) (hk : i64 k) :
    Calls Try.prog 34 #[.string s, .int .i64 k] w fun e w2 => e = .returned (.tuple #[.string (kid s k).1, .bool (kid s k).2]) ∧ Chg Non w w2 := by
  unfold i64 at hk
  have hk1 := hk.1
  have hk2 := hk.2
  clear hk
  by_cases hall : vid s = true ∧ s.size < 12 ∧ 0 ≤ k ∧ k < 16
  · have hkd : kid s k = (s ++ ⟨#[UInt8.ofNat k.toNat]⟩, true) := by unfold kid; rw [if_pos hall]
    have Hkd := Lib.hid hkd
    obtain ⟨hv, h12, h0, h16⟩ := hall
    have hy : k = ((UInt8.ofNat k.toNat).toNat : Int) := by rw [UInt8.toNat_ofNat']; omega
    have q : (convert 54 26 (.slice (some ⟨w.heap.size, 0, none⟩) 1 1)).run Try.prog (w.alloc (.cells #[.int .u8 k] 5)) = .ok (.string ⟨#[UInt8.ofNat k.toNat]⟩) (w.alloc (.cells #[.int .u8 k] 5)) := by
      rw [show Value.int .u8 k = .int .u8 ((UInt8.ofNat k.toNat).toNat : Int) by rw [← hy]]
      exact run_string_rds (L := [UInt8.ofNat k.toNat]) Try.underlying54 Try.underlying5 Try.underlying26 (Rds.one w _ _) 1
    have h12b : ((s.size : Int) == 12) = false := by simp; omega
    have hs1 : (⟨#[UInt8.ofNat k.toNat]⟩ : ByteArray).size = 1 := rfl
    have Hy := Lib.hid hy
    clear hkd hy
    go_enter Try.func34, Try.ntmps34
    go_wp2_with (go_at_call 51; refine (valid_any s _).mono ?_; rintro e w9 ⟨rfl, rfl⟩; rw [hv])
    go_ret2
    exact ⟨by rw [Hkd.out]; rfl, (Chg.refl _ _).alloc _⟩
  · have Hkd := Lib.hid (kid_no hall)
    have hparts : vid s = false ∨ (vid s = true ∧ s.size = 12) ∨ (vid s = true ∧ s.size < 12 ∧ k < 0) ∨ (vid s = true ∧ s.size < 12 ∧ 0 ≤ k ∧ 16 ≤ k) := by
      cases hv : vid s with
      | false => exact .inl rfl
      | true =>
        have := vid_small hv
        simp only [hv, true_and] at hall
        simp only [true_and]
        omega
    clear hall
    rcases hparts with hv | ⟨hv, h12⟩ | ⟨hv, h12, h0⟩ | ⟨hv, h12, h0, h16⟩
    · go_enter Try.func34, Try.ntmps34
      go_wp2_with (go_at_call 51; refine (valid_any s _).mono ?_; rintro e w9 ⟨rfl, rfl⟩; rw [hv])
      go_ret2
      exact ⟨by rw [Hkd.out]; rfl, Chg.refl _ _⟩
    · have h12b : ((s.size : Int) == 12) = true := by simp; omega
      go_enter Try.func34, Try.ntmps34
      go_wp2_with (go_at_call 51; refine (valid_any s _).mono ?_; rintro e w9 ⟨rfl, rfl⟩; rw [hv])
      go_ret2
      exact ⟨by rw [Hkd.out]; rfl, Chg.refl _ _⟩
    all_goals
      have h12b : ((s.size : Int) == 12) = false := by simp; omega
      go_enter Try.func34, Try.ntmps34
      go_wp2_with (go_at_call 51; refine (valid_any s _).mono ?_; rintro e w9 ⟨rfl, rfl⟩; rw [hv])
      go_ret2
      exact ⟨by rw [Hkd.out]; rfl, Chg.refl _ _⟩

end Go.Proofs.Yteinbdifncdaiaa
