/-
  gleanerref1.Int.
-/
import Derived.Test.YtclpmadecibofaaClone
import Derived.Test.YtclpmadecibofaaVarint
import Derived.Test.YtclpmadecibofaaGet
namespace Go.Proofs.Ytclpmadecibofaa
open Go.RowKit

theorem byte_ref {u : Nat} (h : u < 18446744073709551616) : bits .or .u8 (IntKind.u8.wrap (bits .and .u64 (u : Int) 127)) 128 = ((UInt8.ofNat (u % 128 + 128)).toNat : Int) := by
  have e1 : bits .and .u64 (u : Int) 127 = ((u % 128 : Nat) : Int) := by
    have := u64_and_nat u 127 h (by omega)
    rw [nat_mask7] at this
    exact this
  rw [e1, byte_more, Nat.mod_mod]

set_option maxRecDepth 100000 in
set_option maxHeartbeats 400000 in
theorem refInt_any (A : Option Addr) (n c : Nat) (b : List UInt8) (A2 : Option Addr) (m c2 : Nat) (l : List Int) (w : World) (hr : Rds w 1 A n (bv b)) (hr2 : Rds w 1 A2 m (iv l)) (hl : ∀ x ∈ l, i64 x)
    (hn : b.length + 10 * l.length ≤ 140737488351232) :
    Calls Try.prog 28 #[.slice A n c, .slice A2 m c2] w fun e w2 => ∃ v, e = .returned v ∧ Own8 w2 w.heap.size v (b ++ nums l) ∧ Chg Non w w2 := by
  have hml : m = l.length := by have := hr2.1; simp [iv] at this; omega
  have hmb : m ≤ 14073748835123 := by omega
  have hml1 : m ≤ l.length := by omega
  have Hml := Lib.hid hml; clear hml
  go_enter Try.func28, Try.ntmps28
  go_wp2_with (at_builtin; refine app8b rfl _ (.tmp 8) rfl (Own8.nil _ w.heap.size) rfl hr rfl ?_ ?_ ?_; rotate_right; intro v2 w3 h2 h3 h4; simp only [List.nil_append] at h2)
  · have hchg : Chg Non w w3 := h3.mono fun _ e => by cases e
    go_loopw [5, 6] (fun v i wr => ∃ k : Nat, k ≤ m ∧ i = .int .i64 k ∧ Own8 wr w.heap.size v (b ++ nums (l.take k)) ∧ Chg Non w wr) (fun _ i _ => m - (intOf i).toNat)
    case atStart => exact ⟨0, Nat.zero_le _, rfl, by simpa [nums] using h2, hchg⟩
    case round =>
      clear h2 hchg h3 h4
      obtain ⟨k, hk, rfl, hown, hchg⟩ := hrel
      by_cases hlt : k < m
      · obtain ⟨ad, x, rfl, hx, hcell⟩ := hr2.getI hlt
        have hc2 := hchg.cell hcell (by exact id)
        have hix := hl x (List.mem_of_getElem? hx)
        have hzl := zz_lt hix
        have hlen := nums_len (l.take k)
        have hlt2 : (l.take k).length ≤ k := List.length_take_le _ _
        have hsn : nums (l.take (k + 1)) = nums (l.take k) ++ num x := by rw [List.take_add_one, hx]; exact nums_snoc _ _
        have hnl := (num_len x).2
        have Hx := Lib.hid hx; clear hx
        have Hsn := Lib.hid hsn; clear hsn
        by_cases hneg : x < 0
        all_goals
          go_wp2_with fail
          go_loopw [5, 7] (fun v t wr => ∃ (j u : Nat) (bs : List UInt8), t = .int .u64 u ∧ u < 18446744073709551616 ∧ Hid (u < 2 * 128 ^ j) ∧ Hid (bs ++ vi j u = num x) ∧ Own8 wr w.heap.size v (b ++ nums (l.take k) ++ bs) ∧ Chg Non w wr) (fun _ t _ => (intOf t).toNat)
          case atStart => exact ⟨9, zz x, [], by first | rw [zz_neg hix hneg] | rw [zz_pos hix (by omega)], by omega, hzl, rfl, by simpa using hown, hchg⟩
          case round =>
            obtain ⟨j, u, bs, rfl, hu, Hu, Hbs, hown, hchg⟩ := hrel
            have hbl : bs.length + (vi j u).length ≤ 10 := by rw [← List.length_append, Hbs.out]; exact hnl
            have hvl := (vi_len j u).1
            by_cases hbig : u < 128
            · go_wp2_with (at_builtin; refine app8c rfl (.tmp 40) (.tmp 43) rfl hown rfl rfl (UInt8.ofNat u) ?_ ?_ ?_ ?_; rotate_right; intro v2 w2 h2 h3)
              · go_roundw
                case rel => exact ⟨k + 1, by omega, by go_num, by rw [Hsn.out, ← Hbs.out, vi_small hbig]; simpa using h2, hown.chgApp hchg (Nat.le_refl _) h3⟩
                case measure => simp [intOf]; omega
              · exact (toNat_byte (by omega)).symm
              · simp; omega
              · exact hchg.size
            · cases j with
              | zero => exact absurd Hu.out (by simp; omega)
              | succ j =>
              have hu2 : u / 128 < 2 * 128 ^ j := by have := Hu.out; rw [Nat.pow_succ] at this; omega
              have Hu2 := Lib.hid hu2; clear hu2
              go_wp2_with (at_builtin; refine app8c rfl (.tmp 31) (.tmp 36) rfl hown rfl rfl (UInt8.ofNat (u % 128 + 128)) ?_ ?_ ?_ ?_; rotate_right; intro v2 w2 h2 h3)
              · go_roundw
                case rel => exact ⟨j, u / 128, bs ++ [UInt8.ofNat (u % 128 + 128)], by go_num, by omega, Hu2.out, (by have := Hbs.out; rw [vi_big hbig] at this; simpa [Hid] using this), by simpa using h2, hown.chgApp hchg (Nat.le_refl _) h3⟩
                case measure => simp [intOf]; omega
              · exact byte_ref hu
              · simp; omega
              · exact hchg.size
      · go_wp2_with fail
        go_ret
        exact ⟨_, rfl, by rw [List.take_of_length_le (by have := Hml.out; omega)] at hown; exact hown, hchg⟩
  · simp; omega
  · exact Nat.le_refl _
end Go.Proofs.Ytclpmadecibofaa
