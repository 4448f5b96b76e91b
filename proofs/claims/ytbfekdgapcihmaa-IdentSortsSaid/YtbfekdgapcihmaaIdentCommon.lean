/-
  ident.Common.
-/
import Derived.Test.YtbfekdgapcihmaaIdent
import Derived.Test.YtbfekdgapcihmaaGet
namespace Go.Proofs.Ytbfekdgapcihmaa
open Go.RowKit
set_option linter.unusedVariables false

abbrev lcpO (o s : ByteArray) : ByteArray := o.extract 0 (lcpn o.data.toList s.data.toList)
theorem lcp_size (o s : ByteArray) : (lcpO o s).size ≤ o.size := by
  unfold lcpO
  rw [ByteArray.size_extract]
  omega
theorem common_step {ss : List ByteArray} {k : Nat} {s : ByteArray} (o : ByteArray) (h : ss[k]? = some s) : (ss.take (k + 1)).foldl lcpO o = lcpO ((ss.take k).foldl lcpO o) s := by
  rw [List.take_add_one, h, List.foldl_append]
  rfl

set_option maxRecDepth 100000 in
set_option maxHeartbeats 400000 in
theorem common_any (A : Option Addr) (n c : Nat) (ss : List ByteArray) (w : World) (hr : Rds w 1 A n (ss.map Value.string)) (hn : n ≤ 4611686018427387904) (hsz : ∀ s ∈ ss, s.size ≤ 4611686018427387904) :
    Calls Try.prog 11 #[.slice A n c] w fun e w2 => e = .returned (.string (common ss)) ∧ Chg Non w w2 := by
  have hnl := hr.lenMap
  cases ss with
  | nil =>
    obtain rfl : n = 0 := hnl
    go_enter Try.func11, Try.ntmps11
    go_wp2_with fail
    go_ret
    exact ⟨rfl, Chg.refl _ _⟩
  | cons x ss0 =>
    have hcm : common (x :: ss0) = (x :: ss0).foldl lcpO x := rfl
    have hx0 : (x :: ss0)[0]? = some x := rfl
    have hsx := hsz x (by simp)
    generalize hss : x :: ss0 = ss at *
    have h0 : 0 < n := by rw [hnl, ← hss]; simp
    obtain ⟨ad, y, rfl, hy, hcell⟩ := hr.getMap (f := Value.string) h0
    obtain rfl : x = y := by rw [hx0] at hy; exact Option.some.inj hy
    clear hy hx0 hss
    have Hcm := Lib.hid hcm
    have Hnl := Lib.hid hnl
    have e0 : ((n : Int) == 0) = false := by simp; omega
    have hcell0 : w.cell? ad = some (.string x) := hcell
    clear hcm hnl
    go_enter Try.func11, Try.ntmps11
    go_wp2_with fail
    go_loopw [3, 15] (fun o i wr => ∃ (k : Nat) (s : ByteArray), k ≤ n ∧ i = .int .i64 k ∧ o = .string s ∧ Hid (s = (ss.take k).foldl lcpO x) ∧ s.size ≤ 4611686018427387904 ∧ Chg Non w wr) (fun _ i _ => n - (intOf i).toNat)
    case atStart => exact ⟨0, x, Nat.zero_le _, rfl, rfl, rfl, hsx, Chg.refl _ _⟩
    case round =>
      obtain ⟨k, s, hk, rfl, rfl, hs, hs2, hC⟩ := hrel
      by_cases hlt : k < n
      · obtain ⟨ad2, y, e2, hy, hcell2⟩ := hr.getMap (f := Value.string) hlt
        injection e2 with e2
        subst e2
        have hcr := hC.cell hcell2 id
        have hysz := hsz y (List.mem_of_getElem? hy)
        have Hst := Lib.hid (common_step x hy)
        clear hy hcell hcell0 hcell2
        go_wp2_with fail
        go_loopw [6] (fun i w5 => ∃ (q : Nat), q ≤ s.size ∧ q ≤ y.size ∧ i = .int .i64 q ∧ Hid (lcpn s.data.toList y.data.toList = q + lcpn (s.data.toList.drop q) (y.data.toList.drop q)) ∧ Chg Non w w5) (fun i _ => s.size - (intOf i).toNat)
        case atStart => exact ⟨0, Nat.zero_le _, Nat.zero_le _, rfl, by show _ = _; simp, hC⟩
        case round =>
          clear hC hcr
          obtain ⟨q, hq1, hq2, rfl, hl, hC⟩ := hrel
          by_cases hA : q < s.size ∧ q < y.size ∧ s.data.toList[q]? = y.data.toList[q]?
          · obtain ⟨h1, h2, h3⟩ := hA
            rw [get_list s h1, get_list y h2] at h3
            have h4 : s[q] = y[q] := Option.some.inj h3
            have hl2 : Hid (lcpn s.data.toList y.data.toList = (q + 1) + lcpn (s.data.toList.drop (q + 1)) (y.data.toList.drop (q + 1))) := by
              show _ = _
              rw [hl.out, drop_step s h1, drop_step y h2, lcpn, if_pos h4]
              omega
            have e1 : ((s[q].toNat : Int) == (y[q].toNat : Int)) = true := by rw [h4]; exact beq_self_eq_true _
            clear h3 h4 hl
            go_wp2_with fail
            go_quiet (fail)
            go_wp2_with fail
            go_roundw
            case rel => exact ⟨q + 1, by omega, by omega, by go_num, hl2, hC.drewN _⟩
            case measure => simp [intOf]; omega
          · have hex : Hid (lcpO s y = s.extract 0 q) := by
              show _ = _
              unfold lcpO
              rw [hl.out]
              rcases Nat.lt_or_ge q s.size with h1 | h1
              · rcases Nat.lt_or_ge q y.size with h2 | h2
                · have h4 : s[q] ≠ y[q] := fun e => hA ⟨h1, h2, by rw [get_list s h1, get_list y h2, e]⟩
                  rw [drop_step s h1, drop_step y h2, lcpn, if_neg h4]
                  rfl
                · rw [show y.data.toList.drop q = [] from List.drop_of_length_le (by rw [size_list]; exact h2), lcpn_nil_right]
                  rfl
              · rw [show s.data.toList.drop q = [] from List.drop_of_length_le (by rw [size_list]; exact h1), lcpn_nil_left]
                rfl
            have hsz3 : (s.extract 0 q).size ≤ 4611686018427387904 := by have := lcp_size s y; rw [hex.out] at this; omega
            have hnext : Hid (s.extract 0 q = (ss.take (k + 1)).foldl lcpO x) := by
              show _ = _
              rw [Hst.out, ← hs.out, hex.out]
            have hparts : (¬ q < s.size) ∨ (q < s.size ∧ ¬ q < y.size) ∨ ∃ (h1 : q < s.size) (h2 : q < y.size), ((s[q].toNat : Int) == (y[q].toNat : Int)) = false := by
              by_cases h1 : q < s.size
              · by_cases h2 : q < y.size
                · right; right
                  refine ⟨h1, h2, ?_⟩
                  have h4 : s[q] ≠ y[q] := fun e => hA ⟨h1, h2, by rw [get_list s h1, get_list y h2, e]⟩
                  rw [beq_eq_false_iff_ne]
                  intro e
                  exact h4 (UInt8.toNat_inj.1 (by exact_mod_cast e))
                · exact .inr (.inl ⟨h1, h2⟩)
              · exact .inl h1
            clear hA hl hex Hst hs
            rcases hparts with h1 | ⟨h1, h2⟩ | ⟨h1, h2, e1⟩
            · have d1 : decide ((q : Int) < s.size) = false := by simp; omega
              go_wp2_with fail
              go_quiet (fail)
              go_wp2_with fail
              go_roundw
              case rel => exact ⟨k + 1, s.extract 0 q, by omega, by go_num, rfl, hnext, hsz3, hC.drewN _⟩
              case measure => simp [intOf]; omega
            · have d2 : decide ((q : Int) < y.size) = false := by simp; omega
              go_wp2_with fail
              go_quiet (fail)
              go_wp2_with fail
              go_roundw
              case rel => exact ⟨k + 1, s.extract 0 q, by omega, by go_num, rfl, hnext, hsz3, hC.drewN _⟩
              case measure => simp [intOf]; omega
            · go_wp2_with fail
              go_quiet (fail)
              go_wp2_with fail
              go_roundw
              case rel => exact ⟨k + 1, s.extract 0 q, by omega, by go_num, rfl, hnext, hsz3, hC.drewN _⟩
              case measure => simp [intOf]; omega
      · have hks : k = n := by omega
        clear hcell hcell0
        go_wp2_with fail
        go_ret
        refine ⟨?_, hC⟩
        rw [Hcm.out]
        have := hs.out
        rw [hks, Hnl.out, List.take_of_length_le (Nat.le_refl _)] at this
        rw [← this]
        rfl
end Go.Proofs.Ytbfekdgapcihmaa
