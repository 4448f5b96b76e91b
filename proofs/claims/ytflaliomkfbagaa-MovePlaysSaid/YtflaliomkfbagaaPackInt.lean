/-
  pack.Int.
-/
import Derived.Test.YtflaliomkfbagaaClone
import Derived.Test.YtflaliomkfbagaaVarint
namespace Go.Proofs.Ytflaliomkfbagaa
open Go.RowKit

theorem packInt_any (A : Option Addr) (n c : Nat) (b : List UInt8) (A2 : Option Addr) (m c2 : Nat) (l : List Int) (w : World) (hr : Rds w 1 A n (bv b)) (hr2 : Rds w 1 A2 m (iv l)) (hl : ∀ x ∈ l, i64 x)
    (hn : b.length + 10 * l.length ≤ 140737488351232) :
    Calls Try.prog 57 #[.slice A n c, .slice A2 m c2] w fun e w2 => ∃ v, e = .returned v ∧ Own8 w2 w.heap.size v (b ++ nums l) ∧ Chg Non w w2 := by
  have hml : m = l.length := by have := hr2.1; simp [iv] at this; omega
  go_enter Try.func57, Try.ntmps57
  have hmb : m ≤ 14073748835123 := by omega
  have hml1 : m ≤ l.length := by omega
  have Hml := Lib.hid hml; clear hml
  go_wp2_with (go_at_call 75; refine (clone_any _ _ _ _ _ hr (by omega)).mono ?_; rintro e w1 ⟨v, rfl, hown, hchg⟩)
  go_loopw [0, 12] (fun v i wr => ∃ k : Nat, k ≤ m ∧ i = .int .i64 k ∧ Own8 wr w.heap.size v (b ++ nums (l.take k)) ∧ Chg Non w wr) (fun _ i _ => m - (intOf i).toNat)
  case atStart => exact ⟨0, Nat.zero_le _, rfl, by simpa [nums] using hown, hchg⟩
  case round =>
    obtain ⟨k, hk, rfl, hown, hchg⟩ := hrel
    by_cases hlt : k < m
    · obtain ⟨ad, u, rfl, hu, hcell⟩ := hr2.at_ hlt
      rw [iv_get] at hu
      obtain ⟨x, hx, rfl⟩ : ∃ x, l[k]? = some x ∧ u = .int .i64 x := by
        cases h : l[k]? with
        | none => simp [h] at hu
        | some x => simp [h] at hu; exact ⟨x, rfl, hu.symm⟩
      have hc2 := hchg.cell hcell (by exact id)
      have hix := hl x (List.mem_of_getElem? hx)
      have hzl := zz_lt hix
      have hlen := nums_len (l.take k)
      have hlt2 : (l.take k).length ≤ k := List.length_take_le _ _
      have hsn : nums (l.take (k + 1)) = nums (l.take k) ++ num x := by rw [List.take_add_one, hx]; exact nums_snoc _ _
      have hnl := (num_len x).2
      have Hx := Lib.hid hx; clear hx hu
      have Hsn := Lib.hid hsn; clear hsn
      by_cases hneg : x < 0
      all_goals
        go_wp2_with fail
        go_loopw [0, 7] (fun v t wr => ∃ (j u : Nat) (bs : List UInt8), t = .int .u64 u ∧ u < 2 * 128 ^ j ∧ bs ++ vi j u = num x ∧ Own8 wr w.heap.size v (b ++ nums (l.take k) ++ bs) ∧ Chg Non w wr) (fun _ t _ => (intOf t).toNat)
        case atStart => exact ⟨9, zz x, [], by first | rw [zz_neg hix hneg] | rw [zz_pos hix (by omega)], hzl, rfl, by simpa using hown, hchg⟩
        case round =>
          obtain ⟨j, u, bs, rfl, hu, hbs, hown, hchg⟩ := hrel
          have hbl : bs.length + (vi j u).length ≤ 10 := by rw [← List.length_append, hbs]; exact hnl
          have hvl := (vi_len j u).1
          have Hbs := Lib.hid hbs; clear hbs
          by_cases hbig : u < 128
          · go_wp2_with (at_builtin; refine app8c rfl (.tmp 33) (.tmp 36) rfl hown rfl rfl (UInt8.ofNat u) ?_ ?_ ?_ ?_; rotate_right; intro v2 w2 h2 h3)
            · go_roundw
              case rel => exact ⟨k + 1, by omega, by go_num, by rw [Hsn.out, ← Hbs.out, vi_small hbig]; simpa using h2, hown.chgApp hchg (Nat.le_refl _) h3⟩
              case measure => simp [intOf]; omega
            · exact (toNat_byte (by omega)).symm
            · simp; omega
            · exact hchg.size
          · cases j with
            | zero => omega
            | succ j =>
            have hu2 : u / 128 < 2 * 128 ^ j := by rw [Nat.pow_succ] at hu; omega
            go_wp2_with (at_builtin; refine app8c rfl (.tmp 27) (.tmp 31) rfl hown rfl rfl (UInt8.ofNat (u % 128 + 128)) ?_ ?_ ?_ ?_; rotate_right; intro v2 w2 h2 h3)
            · go_roundw
              case rel => exact ⟨j, u / 128, bs ++ [UInt8.ofNat (u % 128 + 128)], by go_num, hu2, by rw [← Hbs.out, vi_big hbig]; simp, by simpa using h2, hown.chgApp hchg (Nat.le_refl _) h3⟩
              case measure => simp [intOf]; omega
            · exact byte_more u
            · simp; omega
            · exact hchg.size
    · go_wp2_with fail
      go_ret
      exact ⟨_, rfl, by rw [List.take_of_length_le (by have := Hml.out; omega)] at hown; exact hown, hchg⟩
end Go.Proofs.Ytflaliomkfbagaa
