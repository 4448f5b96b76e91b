/-
  gleanerlaw7.IdentDown: the walk.
-/
import Derived.Test.YtbfekdgapcihmaaIdentCommon
import Derived.Test.YtbfekdgapcihmaaOwnS
namespace Go.Proofs.Ytbfekdgapcihmaa
open Go.RowKit
set_option linter.unusedVariables false

theorem kid_zero : kid ⟨#[]⟩ 2 = (⟨#[2]⟩, true) := rfl
theorem txt_two : txt ⟨#[2]⟩ = ⟨#[114, 50]⟩ := rfl
theorem ident_alive (w : World) : Calls Try.prog 7 #[] w fun e w2 => e = .returned (.bool true) ∧ Chg Non w w2 := by
  go_enter Try.func7, Try.ntmps7
  go_wp2_with fail
  refine (kid_any _ _ _ (by unfold i64; omega)).mono ?_
  rintro e w1 ⟨rfl, hc1⟩
  rw [kid_zero]
  simp only
  go_wp2_with fail
  refine (text_any _ _).mono ?_
  rintro e w2 ⟨rfl, hc2⟩
  rw [txt_two]
  go_wp2_with fail
  go_ret
  exact ⟨rfl, hc1.non hc2⟩

theorem snoc_list (s : ByteArray) (b : UInt8) : (s ++ (⟨#[b]⟩ : ByteArray)).data.toList = s.data.toList ++ [b] := by
  rw [ByteArray.data_append, Array.toList_append]
theorem snoc_size (s : ByteArray) (b : UInt8) : (s ++ (⟨#[b]⟩ : ByteArray)).size = s.size + 1 := by
  rw [← size_list, snoc_list, List.length_append, size_list]; rfl
theorem kid_vid {s : ByteArray} {b : UInt8} (hv : vid s = true) (h12 : s.size < 12) (hb : b.toNat < 16) : vid (s ++ ⟨#[b]⟩) = true := by
  unfold vid at *
  rw [snoc_list, snoc_size, List.all_append]
  simp only [Bool.and_eq_true, decide_eq_true_eq] at hv ⊢
  exact ⟨by omega, hv.2, by simp [okD, hb]⟩
theorem up_kid {s : ByteArray} {b : UInt8} (hv : vid s = true) (h12 : s.size < 12) (hb : b.toNat < 16) : up (s ++ ⟨#[b]⟩) = (s, (b.toNat : Int), true) := by
  unfold up
  rw [if_pos ⟨kid_vid hv h12 hb, by rw [snoc_size]; omega⟩]
  have h1 : (s ++ (⟨#[b]⟩ : ByteArray)).extract 0 ((s ++ (⟨#[b]⟩ : ByteArray)).size - 1) = s := by
    rw [snoc_size, Nat.add_sub_cancel]
    apply ByteArray.ext
    rw [ByteArray.data_extract, ByteArray.data_append, show s.size = s.data.size from rfl]
    simp
  have h2 : (s ++ (⟨#[b]⟩ : ByteArray)).data.toList.getD ((s ++ (⟨#[b]⟩ : ByteArray)).size - 1) 0 = b := by
    rw [snoc_size, Nat.add_sub_cancel, snoc_list, List.getD_eq_getElem?_getD, List.getElem?_append_right (by rw [size_list]; exact Nat.le_refl _), size_list, Nat.sub_self]
    rfl
  rw [h1, h2]
theorem txt_size {s : ByteArray} (hv : vid s = true) : (txt s).size = s.size + 1 := by
  unfold txt
  rw [if_pos hv]
  show ((114 :: s.data.toList.map digit).toArray).size = _
  rw [List.size_toArray, List.length_cons, List.length_map, size_list]

set_option maxRecDepth 100000 in
set_option maxHeartbeats 1000000 in
theorem identDown_core (w : World) (A : Option Addr) (n c : Nat) (l : List Int) (hr : Rds w 1 A n (iv l)) (hl : ∀ x ∈ l, i64 x) (hn1 : n ≤ 20) :
    Calls Try.prog 3 #[.slice A n c] w fun e w2 => e = .returned (.bool true) ∧ Chg Non w w2 := by
  have hrk := Lib.hid hr
  clear hr
  go_enter Try.func3, Try.ntmps3
  go_wp2_with fail
  refine (ident_alive _).mono ?_
  rintro e w1 ⟨rfl, hc1⟩
  go_wp2_with fail
  go_loopw [4, 5, 6] (fun v u i wr => ∃ (k : Nat) (ss : List ByteArray) (s : ByteArray), k ≤ n ∧ i = .int .i64 k ∧ u = .string s ∧ Hid (vid s = true) ∧ s.size ≤ 12 ∧ ss.length ≤ k ∧ OwnS wr w.heap.size v ss ∧ Hid ((ss ++ [s]).head? = some ⟨#[]⟩) ∧ Hid (∀ x ∈ ss, x.size ≤ 12) ∧ Chg Non w wr) (fun _ _ i _ => n - (intOf i).toNat)
  case atStart => exact ⟨0, [], ⟨#[]⟩, Nat.zero_le _, rfl, rfl, rfl, by decide, Nat.le_refl _, OwnS.nil _ _, rfl, (fun _ h => by cases h), hc1⟩
  case round =>
    clear hc1
    obtain ⟨k, ss, s, hk, rfl, rfl, hv, hs12, hsk, hown, hhd, hss, hC⟩ := hrel
    by_cases hlt : k < n
    · obtain ⟨ad, x, rfl, hx, hcell⟩ := hrk.out.getI hlt
      have hxi := hl x (List.mem_of_getElem? hx)
      have hcr := hC.cell hcell id
      have hx1 := hxi.1
      have hx2 := hxi.2
      by_cases hall : s.size < 12 ∧ 0 ≤ x ∧ x < 16
      · have hkd : kid s x = (s ++ ⟨#[UInt8.ofNat x.toNat]⟩, true) := by unfold kid; rw [if_pos ⟨hv.out, hall⟩]
        obtain ⟨h12, h0, h16⟩ := hall
        have hb : (UInt8.ofNat x.toNat).toNat < 16 := by rw [UInt8.toNat_ofNat']; omega
        have hv2 := kid_vid hv.out h12 hb
        have hup := up_kid hv.out h12 hb
        rw [show (((UInt8.ofNat x.toNat).toNat : Nat) : Int) = x by rw [UInt8.toNat_ofNat']; omega] at hup
        have hts := txt_size hv2
        have hsz := snoc_size s (UInt8.ofNat x.toNat)
        generalize s ++ (⟨#[UInt8.ofNat x.toNat]⟩ : ByteArray) = t at hkd hv2 hup hts hsz
        have ht12 : t.size ≤ 12 := by omega
        have e1 : (((txt t).size : Int) == (t.size : Int) + 1) = true := by simp; omega
        have e2 : (((txt t).size : Int) != (t.size : Int) + 1) = false := by simp; omega
        have d1 : decide ((s.size : Int) < 12) = true := by simp; omega
        have Hkd := Lib.hid hkd
        have Hup := Lib.hid hup
        have Hv2 := Lib.hid hv2
        clear hkd hup hv2 hts hsz hb hx hcell
        go_wp2_with fail
        refine (kid_any _ _ _ hxi).mono ?_
        rintro e w2 ⟨rfl, hc2⟩
        rw [Hkd.out]
        simp only
        have hcr2 := hc2.cell hcr id
        go_wp2_with fail
        refine (up_any t _ (by omega)).mono ?_
        rintro e w3 ⟨rfl, hc3⟩
        rw [Hup.out]
        simp only
        have hcr3 := hc3.cell hcr2 id
        go_wp2_with fail
        refine (text_any _ _).mono ?_
        rintro e w4 ⟨rfl, hc4⟩
        have hC4 := ((hC.non hc2).non hc3).non hc4
        have hown4 := ((hown.non hc2).non hc3).non hc4
        clear hC hown hc2 hc3 hc4 hcr hcr2 hcr3
        go_wp2_with (at_builtin; refine appSc rfl (.tmp 90) (.tmp 92) rfl hown4 rfl rfl ?_ ?_ ?_; (next => omega); (next => exact hC4.size); intro v5 w5 h5 h6)
        go_roundw
        case rel => exact ⟨k + 1, ss ++ [s], t, by omega, by go_num, rfl, Hv2, ht12, by simp; omega, h5, by (show _ = _); (have := hhd.out); (cases ss <;> simpa using this), (by show ∀ _ ∈ _, _; intro y hy; rcases List.mem_append.1 hy with h | h; exact hss.out y h; simp at h; subst h; exact hs12), hown4.chgApp hC4 (Nat.le_refl _) h6⟩
        case measure => simp [intOf]; omega
      · have hkd := kid_no (s := s) (k := x) (fun h => hall h.2)
        have Hkd := Lib.hid hkd
        have hparts : x < 0 ∨ (0 ≤ x ∧ 16 ≤ x) ∨ (0 ≤ x ∧ x < 16 ∧ 12 ≤ s.size) := by omega
        clear hall hkd hx hcell
        go_wp2_with fail
        refine (kid_any _ _ _ hxi).mono ?_
        rintro e w2 ⟨rfl, hc2⟩
        rw [Hkd.out]
        simp only
        have hcr2 := hc2.cell hcr id
        have hpd : decide (0 ≤ x) = false ∨ (decide (0 ≤ x) = true ∧ decide (x < 16) = false) ∨ (decide (0 ≤ x) = true ∧ decide (x < 16) = true ∧ decide ((s.size : Int) < 12) = false) := by
          simp only [decide_eq_true_eq, decide_eq_false_iff_not]
          omega
        clear hparts
        rcases hpd with h | ⟨h1, h2⟩ | ⟨h1, h2, h3⟩
        all_goals
          go_wp2_with fail
          go_roundw
          case rel => exact ⟨k + 1, ss, s, by omega, by go_num, rfl, hv, hs12, by omega, hown.non hc2, hhd, hss, hC.non hc2⟩
          case measure => simp [intOf]; omega
    · have hcm1 := common_empty hhd.out
      have hcm2 := common_one s
      have Hcm1 := Lib.hid hcm1
      have Hcm2 := Lib.hid hcm2
      clear hcm1 hcm2 hhd
      go_wp2_with (at_builtin; refine appSc rfl (.tmp 95) (.tmp 97) rfl hown rfl rfl ?_ ?_ ?_; (next => omega); (next => exact hC.size); intro v5 w5 h5 h6)
      have hC5 := hown.chgApp hC (Nat.le_refl _) h6
      obtain ⟨A5, n5, c5, rfl, hn5, _, _, hr5⟩ := h5.open_
      have hn52 : n5 ≤ 21 := by have := hn5.out; simp at this; omega
      refine (common_any _ _ _ (ss ++ [s]) _ hr5 (by omega) (fun y hy => by rcases List.mem_append.1 hy with h | h; exact Nat.le_trans (hss.out y h) (by omega); simp at h; subst h; omega)).mono ?_
      rintro e w6 ⟨rfl, hc6⟩
      rw [Hcm1.out]
      have hC6 := hC5.non hc6
      have hr6 : Rds (w6.alloc (.cells #[.string s] 25)) 1 (some ⟨w6.heap.size, 0, none⟩) 1 ([s].map Value.string) := Rds.one w6 _ _
      clear h5 h6 hown hC hC5 hr5 hc6
      go_wp2_with fail
      refine (common_any _ _ _ [s] _ hr6 (by omega) (fun y hy => by simp at hy; subst hy; omega)).mono ?_
      rintro e w7 ⟨rfl, hc7⟩
      rw [Hcm2.out]
      go_wp2_with fail
      go_ret
      exact ⟨rfl, (hC6.alloc _).non hc7⟩

theorem identDown_walk (w : World) (A : Option Addr) (n c : Nat) (e0 : Rd Try.prog w 22 (Value.slice A n c).cells.toList) :
    Calls Try.prog 3 #[.slice A n c] w fun e w2 => e = .returned (.bool true) ∧ Chg Non w w2 := by
  obtain ⟨A', n', c', l, h1, h2, h3, h4, h5⟩ := e0.ints Try.underlying22 (by kernel_rfl) Try.underlying3
  simp only [Value.cells, List.cons.injEq, and_true, Value.slice.injEq] at h1
  obtain ⟨rfl, rfl, rfl⟩ := h1
  by_cases hn : n ≤ 20
  · exact identDown_core w A n c l h4 h5 hn
  · clear h4 h5 e0
    have h : 20 < n := by omega
    unfold maxLen at h3
    clear hn
    go_enter Try.func3, Try.ntmps3
    go_wp2_with fail
    refine (ident_alive _).mono ?_
    rintro e w1 ⟨rfl, hc1⟩
    go_wp2_with fail
    go_ret
    exact ⟨rfl, hc1⟩
end Go.Proofs.Ytbfekdgapcihmaa
