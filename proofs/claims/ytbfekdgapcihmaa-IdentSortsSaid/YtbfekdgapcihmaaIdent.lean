/-
  ident.Kid, ident.Up, ident.Text.
-/
import Derived.Test.YtbfekdgapcihmaaOwn
import Derived.Test.YtbfekdgapcihmaaIdentValid
import Derived.Test.YtbfekdgapcihmaaSteps
namespace Go.Proofs.Ytbfekdgapcihmaa
open Go.RowKit
set_option linter.unusedVariables false

theorem kid_no {s : ByteArray} {k : Int} (h : ¬ (vid s = true ∧ s.size < 12 ∧ 0 ≤ k ∧ k < 16)) : kid s k = (⟨#[]⟩, false) := by unfold kid; rw [if_neg h]
theorem up_no {s : ByteArray} (h : ¬ (vid s = true ∧ 0 < s.size)) : up s = (⟨#[]⟩, 0, false) := by unfold up; rw [if_neg h]
theorem size_nil {s : ByteArray} (h : s.size = 0) : s.toList = [] := by
  rw [ByteArray.toList_eq]
  exact List.eq_nil_of_length_eq_zero (by rw [size_list]; exact h)
theorem is_nil (s : ByteArray) : s.toList.isEmpty = decide (s.size = 0) := by
  rw [ByteArray.toList_eq, Bool.eq_iff_iff, List.isEmpty_iff, decide_eq_true_eq, ← size_list]
  exact List.length_eq_zero_iff.symm

theorem kid_any (s : ByteArray) (k : Int) (w : World) (hk : i64 k) :
    Calls Try.prog 8 #[.string s, .int .i64 k] w fun e w2 => e = .returned (.tuple #[.string (kid s k).1, .bool (kid s k).2]) ∧ Chg Non w w2 := by
  unfold i64 at hk
  have hk1 := hk.1
  have hk2 := hk.2
  clear hk
  by_cases hall : vid s = true ∧ s.size < 12 ∧ 0 ≤ k ∧ k < 16
  · have hkd : kid s k = (s ++ ⟨#[UInt8.ofNat k.toNat]⟩, true) := by unfold kid; rw [if_pos hall]
    have Hkd := Lib.hid hkd
    obtain ⟨hv, h12, h0, h16⟩ := hall
    have hy : k = ((UInt8.ofNat k.toNat).toNat : Int) := by rw [UInt8.toNat_ofNat']; omega
    have q : (convert 42 25 (.slice (some ⟨w.heap.size, 0, none⟩) 1 1)).run Try.prog (w.alloc (.cells #[.int .u8 k] 5)) = .ok (.string ⟨#[UInt8.ofNat k.toNat]⟩) (w.alloc (.cells #[.int .u8 k] 5)) := by
      rw [show Value.int .u8 k = .int .u8 ((UInt8.ofNat k.toNat).toNat : Int) by rw [← hy]]
      exact run_string_rds (L := [UInt8.ofNat k.toNat]) Try.underlying42 Try.underlying5 Try.underlying25 (Rds.one w _ _) 1
    have h12b : ((s.size : Int) == 12) = false := by simp; omega
    have hs1 : (⟨#[UInt8.ofNat k.toNat]⟩ : ByteArray).size = 1 := rfl
    have Hy := Lib.hid hy
    clear hkd hy
    go_enter Try.func8, Try.ntmps8
    go_wp2_with (go_at_call 17; refine (valid_any s _).mono ?_; rintro e w9 ⟨rfl, rfl⟩; rw [hv])
    go_ret2
    exact ⟨by rw [Hkd.out]; rfl, (Chg.refl _ _).alloc _⟩
  · have Hkd := Lib.hid (kid_no hall)
    have hparts : vid s = false ∨ (vid s = true ∧ s.size = 12) ∨ (vid s = true ∧ s.size < 12 ∧ k < 0) ∨ (vid s = true ∧ s.size < 12 ∧ 0 ≤ k ∧ 16 ≤ k) := by
      cases hv : vid s with
      | false => exact .inl rfl
      | true =>
        have := vid_small hv
        simp only [hv, true_and] at hall
        simp only [true_and]
        omega
    clear hall
    rcases hparts with hv | ⟨hv, h12⟩ | ⟨hv, h12, h0⟩ | ⟨hv, h12, h0, h16⟩
    · go_enter Try.func8, Try.ntmps8
      go_wp2_with (go_at_call 17; refine (valid_any s _).mono ?_; rintro e w9 ⟨rfl, rfl⟩; rw [hv])
      go_ret2
      exact ⟨by rw [Hkd.out]; rfl, Chg.refl _ _⟩
    · have h12b : ((s.size : Int) == 12) = true := by simp; omega
      go_enter Try.func8, Try.ntmps8
      go_wp2_with (go_at_call 17; refine (valid_any s _).mono ?_; rintro e w9 ⟨rfl, rfl⟩; rw [hv])
      go_ret2
      exact ⟨by rw [Hkd.out]; rfl, Chg.refl _ _⟩
    all_goals
      have h12b : ((s.size : Int) == 12) = false := by simp; omega
      go_enter Try.func8, Try.ntmps8
      go_wp2_with (go_at_call 17; refine (valid_any s _).mono ?_; rintro e w9 ⟨rfl, rfl⟩; rw [hv])
      go_ret2
      exact ⟨by rw [Hkd.out]; rfl, Chg.refl _ _⟩

theorem up_any (s : ByteArray) (w : World) (hs : s.size ≤ 9223372036854775807) :
    Calls Try.prog 9 #[.string s] w fun e w2 => e = .returned (.tuple #[.string (up s).1, .int .i64 (up s).2.1, .bool (up s).2.2]) ∧ Chg Non w w2 := by
  by_cases hall : vid s = true ∧ 0 < s.size
  · have hup : up s = (s.extract 0 (s.size - 1), ((s[s.size - 1]'(by omega)).toNat : Int), true) := by
      unfold up
      rw [if_pos hall, List.getD_eq_getElem?_getD, get_list s (show s.size - 1 < s.size by omega)]
      rfl
    have Hup := Lib.hid hup
    clear hup
    obtain ⟨hv, h0⟩ := hall
    have hb : s.toList.isEmpty = false := by rw [is_nil]; exact decide_eq_false (by omega)
    have hsub : IntKind.i64.wrap ((s.size : Int) - 1) = (s.size : Int) - 1 := IntWalk.i64_in _ (by omega)
    go_enter Try.func9, Try.ntmps9
    go_wp2_with (go_at_call 17; refine (valid_any s _).mono ?_; rintro e w9 ⟨rfl, rfl⟩; rw [hv])
    obtain ⟨j, hj⟩ : ∃ j : Nat, s.size = j + 1 := ⟨s.size - 1, by omega⟩
    have hj1 : (s.size : Int) - 1 = (j : Int) := by omega
    rw [hj1]
    have hj2 : j < s.size := by omega
    have hj3 : (j : Int) ≤ s.size := by omega
    have hup2 : up s = (s.extract 0 j, (s[j].toNat : Int), true) := by
      rw [Hup.out]
      simp only [show s.size - 1 = j by omega]
    have Hup2 := Lib.hid hup2
    clear Hup hj hj1 hup2 hsub h0
    go_quiet (fail)
    go_wp2_with fail
    go_ret3
    have hw : wrap64 (s[j].toNat : Int) = (s[j].toNat : Int) := IntWalk.wrap64_in _ (by have := s[j].toNat_lt; omega)
    refine ⟨?_, (Chg.refl _ _).drewN _⟩
    rw [Hup2.out]
    show Ending.returned (.tuple #[.string (s.extract 0 j), .int .i64 (wrap64 (s[j].toNat : Int)), .bool true]) = _
    rw [hw]
  · have Hup := Lib.hid (up_no hall)
    have hparts : vid s = false ∨ (vid s = true ∧ s.size = 0) := by
      cases hv : vid s with
      | false => exact .inl rfl
      | true => simp only [hv, true_and] at hall; exact .inr ⟨rfl, by omega⟩
    clear hall
    rcases hparts with hv | ⟨hv, h0⟩
    · go_enter Try.func9, Try.ntmps9
      go_wp2_with (go_at_call 17; refine (valid_any s _).mono ?_; rintro e w9 ⟨rfl, rfl⟩; rw [hv])
      go_ret3
      exact ⟨by rw [Hup.out]; rfl, Chg.refl _ _⟩
    · have hb : s.toList.isEmpty = true := by rw [is_nil]; exact decide_eq_true h0
      go_enter Try.func9, Try.ntmps9
      go_wp2_with (go_at_call 17; refine (valid_any s _).mono ?_; rintro e w9 ⟨rfl, rfl⟩; rw [hv])
      go_ret3
      exact ⟨by rw [Hup.out]; rfl, Chg.refl _ _⟩
theorem Own8.one (w : World) (q : UInt8) : Own8 (w.alloc (.cells #[.int .u8 q.toNat] 5)) w.heap.size (.slice (some ⟨w.heap.size, 0, none⟩) 1 1) [q] :=
  ⟨rfl, .inr ⟨_, 1, _, rfl, Nat.le_refl _, heap_alloc_new w _, Nat.le_refl _, by unfold maxLen; omega, rfl, rfl⟩⟩

theorem dig_at : ∀ n : Nat, (h : n < 16) → ((⟨#[48, 49, 50, 51, 52, 53, 54, 55, 56, 57, 97, 98, 99, 100, 101, 102]⟩ : ByteArray)[n]'h) = digit (UInt8.ofNat n)
  | 0, _ | 1, _ | 2, _ | 3, _ | 4, _ | 5, _ | 6, _ | 7, _ | 8, _ | 9, _ | 10, _ | 11, _ | 12, _ | 13, _ | 14, _ | 15, _ => rfl
  | n + 16, h => absurd h (by omega)

theorem dig_byte (b : UInt8) (h : b.toNat < 16) : digit b = ((⟨#[48, 49, 50, 51, 52, 53, 54, 55, 56, 57, 97, 98, 99, 100, 101, 102]⟩ : ByteArray)[b.toNat]'h) := by
  rw [dig_at b.toNat h, UInt8.ofNat_toNat]

theorem text_any (s : ByteArray) (w : World) :
    Calls Try.prog 10 #[.string s] w fun e w2 => e = .returned (.string (txt s)) ∧ Chg Non w w2 := by
  cases hv : vid s with
  | false =>
    have ht : txt s = ⟨#[]⟩ := by unfold txt; rw [hv]; rfl
    have Ht := Lib.hid ht; clear ht
    go_enter Try.func10, Try.ntmps10
    go_wp2_with (go_at_call 17; refine (valid_any s _).mono ?_; rintro e w9 ⟨rfl, rfl⟩; rw [hv])
    go_ret
    exact ⟨by rw [Ht.out]; rfl, Chg.refl _ _⟩
  | true =>
    have ht : txt s = ⟨(114 :: s.data.toList.map digit).toArray⟩ := by unfold txt; rw [hv]; rfl
    have Ht := Lib.hid ht; clear ht
    have h12 := vid_small hv
    have Hv := Lib.hid hv
    go_enter Try.func10, Try.ntmps10
    go_wp2_with (go_at_call 17; refine (valid_any s _).mono ?_; rintro e w9 ⟨rfl, rfl⟩; rw [hv])
    have h1 := Own8.one w 114
    have hC1 : Chg Non w (w.alloc (.cells #[.int .u8 114] 5)) := (Chg.refl _ _).alloc _
    go_loopw [3, 11] (fun v i wr => ∃ k : Nat, k ≤ s.size ∧ i = .int .i64 k ∧ Own8 wr w.heap.size v (114 :: (s.data.toList.take k).map digit) ∧ Chg Non w wr) (fun _ i _ => s.size - (intOf i).toNat)
    case atStart => exact ⟨0, Nat.zero_le _, rfl, by simpa using h1, hC1⟩
    case round =>
      clear h1 hC1 hv
      obtain ⟨k, hk, rfl, hown, hC⟩ := hrel
      by_cases hlt : k < s.size
      · have hst := take_step s hlt
        have h16 := vid_at Hv.out hlt
        have hll : (s.data.toList.take k).length ≤ 12 := by have := List.length_take_le k s.data.toList; omega
        have Hst := Lib.hid hst; clear hst
        go_wp2_with (at_builtin; refine app8c rfl (.tmp 14) (.tmp 19) rfl hown rfl rfl (digit s[k]) ?_ ?_ ?_ ?_; rotate_right; intro v2 w2 h2 h3)
        · go_roundw
          case rel => exact ⟨k + 1, by omega, by go_num, by rw [Hst.out]; simpa using h2, hown.chgApp hC (Nat.le_refl _) h3⟩
          case measure => simp [intOf]; omega
        · rw [dig_byte _ h16]
        · simp; omega
        · exact hC.size
      · have hks : k = s.size := by omega
        obtain ⟨A5, n5, c5, rfl, hn5, _, _, hr5⟩ := hown.open_
        have q5 := run_string_rds Try.underlying42 Try.underlying5 Try.underlying9 hr5 c5
        rw [hks, take_whole] at q5
        clear hown hr5
        go_wp2_with fail
        go_ret
        exact ⟨by rw [Ht.out]; rfl, hC⟩
end Go.Proofs.Ytbfekdgapcihmaa
