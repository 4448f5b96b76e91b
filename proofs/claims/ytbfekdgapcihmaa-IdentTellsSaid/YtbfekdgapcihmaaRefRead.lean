/-
  gleanerref1.ReadID.
-/
import Derived.Test.YtbfekdgapcihmaaRead
namespace Go.Proofs.Ytbfekdgapcihmaa
open Go.RowKit
set_option linter.unusedVariables false

theorem undig_table : ((List.range 256).all fun n => match undig (UInt8.ofNat n) with | some d => hexs[d.toNat]? == some (UInt8.ofNat n) | none => true) = true := by kernel_rfl
theorem undig_hex {b d : UInt8} (h : undig b = some d) : hexs[d.toNat]? = some b := by
  have h1 := (List.all_eq_true.1 undig_table) b.toNat (List.mem_range.2 b.toNat_lt)
  rw [UInt8.ofNat_toNat, h] at h1
  simpa using h1
theorem hex_undig : ∀ q : Nat, q < 16 → undig (hexs.getD q 0) = some (UInt8.ofNat q)
  | 0, _ | 1, _ | 2, _ | 3, _ | 4, _ | 5, _ | 6, _ | 7, _ | 8, _ | 9, _ | 10, _ | 11, _ | 12, _ | 13, _ | 14, _ | 15, _ => by decide
  | n + 16, h => absurd h (by omega)
theorem undig_no {b : UInt8} (h : ∀ j, j < 16 → hexs[j]? ≠ some b) : undig b = none := by
  cases hd : undig b with
  | none => rfl
  | some d => exact absurd (undig_hex hd) (h _ (undig_small hd))
abbrev hexB : ByteArray := ⟨#[48, 49, 50, 51, 52, 53, 54, 55, 56, 57, 97, 98, 99, 100, 101, 102]⟩
theorem hexB_at {q : Nat} (h : q < 16) : hexs[q]? = some (hexB[q]'h) := by
  rw [List.getElem?_eq_getElem (show q < hexs.length from h)]
  rfl

theorem ext_list (s : ByteArray) : (s.extract 1 s.size).data.toList = s.data.toList.drop 1 := by
  obtain ⟨⟨l⟩⟩ := s
  rw [ByteArray.extract_mk]
  show (l.drop 1).take (l.length - 1) = l.drop 1
  exact List.take_of_length_le (by simp)
theorem ext_len (s : ByteArray) : (s.extract 1 s.size).size = s.size - 1 := by rw [← size_list, ext_list, List.length_drop, size_list]

set_option maxRecDepth 100000 in
set_option maxHeartbeats 600000 in
theorem refRead_any (s : ByteArray) (w : World) (hs : s.size ≤ 4611686018427387904) :
    Calls Try.prog 13 #[.string s] w fun e w2 => e = .returned (.tuple #[.string (rid s).1, .bool (rid s).2]) ∧ Chg Non w w2 := by
  by_cases h0 : s.size = 0
  · have hl : s.data.toList = [] := List.eq_nil_of_length_eq_zero (by rw [size_list]; exact h0)
    have Hrid := Lib.hid (rid_not (s := s) (by rw [hl]; simp))
    have hb : s.toList.isEmpty = true := by rw [is_nil]; exact decide_eq_true h0
    clear hl
    go_enter Try.func13, Try.ntmps13
    go_wp2_with fail
    go_ret2
    exact ⟨by rw [Hrid.out]; rfl, Chg.refl _ _⟩
  · have h1 : 0 < s.size := by omega
    have hb : s.toList.isEmpty = false := by rw [is_nil]; exact decide_eq_false h0
    have hhd : s.data.toList.head? = some s[0] := by rw [List.head?_eq_getElem?]; exact get_list s h1
    by_cases h114 : s[0] = 114
    · have hrid := rid_is (s := s) (by rw [hhd, h114])
      rw [ext_len, ext_list] at hrid
      have e1 : ((s[0].toNat : Int) == 114) = true := by rw [h114]; rfl
      have e2 : ((s[0].toNat : Int) != 114) = false := by rw [h114]; rfl
      by_cases h13 : s.size ≤ 13
      · rw [if_pos (by omega)] at hrid
        have Hrid := Lib.hid hrid
        clear hrid hhd h114 h0
        go_enter Try.func13, Try.ntmps13
        go_wp2_with fail
        clear e1 e2 hb
        go_loopw [4, 5] (fun v i wr => ∃ (k : Nat) (D : List UInt8), 1 ≤ k ∧ k ≤ s.size ∧ i = .int .i64 k ∧ Own8 wr w.heap.size v D ∧ D.length ≤ 13 ∧ Hid (undigs ((s.data.toList.take k).drop 1) = some D) ∧ Chg Non w wr) (fun _ i _ => s.size - (intOf i).toNat)
        case atStart => exact ⟨1, [], Nat.le_refl _, h1, rfl, Own8.nil _ _, by simp, (by show undigs _ = _; rw [List.drop_eq_nil_of_le (by have := List.length_take_le 1 s.data.toList; omega)]; rfl), Chg.refl _ _⟩
        case round =>
          obtain ⟨k, D, hk1, hk, rfl, hown, hD, hu, hC⟩ := hrel
          by_cases hlt : k < s.size
          · have hst := take_step s hlt
            have hmem : s[k] ∈ s.data.toList.drop 1 := by
              have := get_list s hlt
              refine List.mem_of_getElem? (i := k - 1) ?_
              rw [List.getElem?_drop, show 1 + (k - 1) = k by omega]
              exact this
            have hst2 : (s.data.toList.take (k + 1)).drop 1 = (s.data.toList.take k).drop 1 ++ [s[k]] := by
              rw [hst, List.drop_append_of_le_length (by rw [List.length_take, size_list]; omega)]
            have Hst2 := Lib.hid hst2
            have Hmem := Lib.hid hmem
            clear hst hst2 hmem
            obtain ⟨A5, n5, c5, rfl, _, _, _, _⟩ := hown.open_
            go_wp2_with fail
            go_loopw [6] (fun i w5 => ∃ (q : Nat), q ≤ 16 ∧ i = .int .i64 q ∧ Hid (∀ j, j < q → hexs[j]? ≠ some s[k]) ∧ Own8 w5 w.heap.size (.slice A5 n5 c5) D ∧ Chg Non w w5) (fun i _ => 16 - (intOf i).toNat)
            case atStart => exact ⟨0, by omega, rfl, (fun j h => by omega), hown, hC⟩
            case round =>
              clear hown hC
              obtain ⟨q, hq, rfl, hno, hown, hC⟩ := hrel
              by_cases hq16 : q < 16
              · have hat := hexB_at hq16
                have d1 : decide ((q : Int) < 16) = true := decide_eq_true (by omega)
                have b1 : (0 : Int) ≤ (q : Int) := by omega
                have b2 : (q : Int) < 16 := by omega
                have b3 : (0 : Int) ≤ (k : Int) := by omega
                have b4 : (k : Int) < s.size := by omega
                by_cases heq : hexB[q]'hq16 = s[k]
                · have hd : undig s[k] = some (UInt8.ofNat q) := by
                    have := hex_undig q hq16
                    rwa [List.getD_eq_getElem?_getD, hat, Option.getD_some, heq] at this
                  have e1 : (((hexB[q]'hq16).toNat : Int) != (s[k].toNat : Int)) = false := by rw [heq]; exact bne_self_eq_false _
                  have e2 : (((hexB[q]'hq16).toNat : Int) == (s[k].toNat : Int)) = true := by rw [heq]; exact beq_self_eq_true _
                  have e3 : ((q : Int) == 16) = false := beq_eq_false_iff_ne.2 (by omega)
                  have hu2 := undigs_snoc hu.out hd
                  rw [← Hst2.out] at hu2
                  have hlen := undigs_len hu2
                  have hlen2 : ((s.data.toList.take (k + 1)).drop 1).length ≤ 12 := by
                    rw [List.length_drop, List.length_take, size_list]; omega
                  have hD2 : (D ++ [UInt8.ofNat q]).length ≤ 12 := by omega
                  have Hu2 := Lib.hid hu2
                  unfold hexB at e1 e2
                  clear heq hat hd hu2 hlen hlen2 hu Hst2 hno
                  go_wp2_with fail
                  go_quiet (fail)
                  go_wp2_with (at_builtin; refine app8c rfl (.tmp 39) (.tmp 42) rfl (hown.non ((Chg.refl _ _).drewN _)) rfl rfl (UInt8.ofNat q) ?_ ?_ ?_ ?_; rotate_right; intro v2 w5 h2 h3)
                  · go_roundw
                    case rel => exact ⟨k + 1, D ++ [UInt8.ofNat q], by omega, by omega, by go_num, h2, by omega, Hu2, (hown.non ((Chg.refl _ _).drewN _)).chgApp (hC.drewN _) (Nat.le_refl _) h3⟩
                    case measure => simp [intOf]; omega
                  · rw [UInt8.toNat_ofNat']; first | omega | (rw [IntWalk.u8_in _ (by omega)]; omega)
                  · omega
                  · exact hC.size
                · have e1 : (((hexB[q]'hq16).toNat : Int) != (s[k].toNat : Int)) = true := by
                    rw [bne_iff_ne]
                    intro e
                    exact heq (UInt8.toNat_inj.1 (by exact_mod_cast e))
                  have e2 : (((hexB[q]'hq16).toNat : Int) == (s[k].toNat : Int)) = false := by
                    rw [beq_eq_false_iff_ne]
                    intro e
                    exact heq (UInt8.toNat_inj.1 (by exact_mod_cast e))
                  have hno2 : Hid (∀ j, j < q + 1 → hexs[j]? ≠ some s[k]) := by
                    intro j hj
                    rcases Nat.lt_or_ge j q with h | h
                    · exact hno.out j h
                    · obtain rfl : j = q := by omega
                      rw [hat]
                      intro e
                      exact heq (Option.some.inj e)
                  unfold hexB at e1 e2
                  clear heq hat hno
                  go_wp2_with fail
                  go_quiet (fail)
                  go_wp2_with fail
                  go_roundw
                  case rel => exact ⟨q + 1, by omega, by go_num, hno2, hown.non ((Chg.refl _ _).drewN _), hC.drewN _⟩
                  case measure => simp [intOf]; omega
              · have hq0 : q = 16 := by omega
                subst hq0
                have hnone : rid s = (⟨#[]⟩, false) := by rw [Hrid.out, undigs_none Hmem.out (undig_no hno.out)]
                have Hnone := Lib.hid hnone
                clear hnone hno hu Hst2 Hmem hown
                go_wp2_with fail
                go_quiet (fail)
                go_wp2_with fail
                go_ret2
                exact ⟨by rw [Hnone.out]; rfl, hC.drewN _⟩
          · have hks : k = s.size := by omega
            have hyes : rid s = (⟨D.toArray⟩, true) := by
              have := hu.out
              rw [hks, take_whole] at this
              rw [Hrid.out, this]
            have Hyes := Lib.hid hyes
            obtain ⟨A5, n5, c5, rfl, hn5, _, _, hr5⟩ := hown.open_
            have q5 := run_string_rds Try.underlying42 Try.underlying5 Try.underlying25 hr5 c5
            clear hyes hown hr5 hu
            go_wp2_with fail
            go_ret2
            exact ⟨by rw [Hyes.out]; rfl, hC⟩
      · rw [if_neg (by omega)] at hrid
        have Hrid := Lib.hid hrid
        clear hrid hhd h114 h0
        go_enter Try.func13, Try.ntmps13
        go_wp2_with fail
        go_ret2
        exact ⟨by rw [Hrid.out]; rfl, Chg.refl _ _⟩
    · have Hrid := Lib.hid (rid_not (s := s) (by rw [hhd]; intro e; exact h114 (Option.some.inj e)))
      have e1 : ((s[0].toNat : Int) == 114) = false := by
        rw [beq_eq_false_iff_ne]
        intro e
        exact h114 (UInt8.toNat_inj.1 (by show s[0].toNat = 114; omega))
      have e2 : ((s[0].toNat : Int) != 114) = true := by rw [bne, e1]; rfl
      clear hhd h114 h0
      go_enter Try.func13, Try.ntmps13
      go_wp2_with fail
      go_ret2
      exact ⟨by rw [Hrid.out]; rfl, Chg.refl _ _⟩
end Go.Proofs.Ytbfekdgapcihmaa
