/-
  gleanerlaw1.PackLengths: the walk.
-/
import Derived.Test.YtbjpnnpbhocffaaAlive
namespace Go.Proofs.Ytbjpnnpbhocffaa
open Go.RowKit

theorem packLengths_walk (w : World) (x : Int) (hx : i64 x) : Calls Try.prog 3 #[.int .i64 x] w fun e w2 => e = .returned (.bool true) ∧ Chg Non w w2 := by
  obtain ⟨l, b, hl, hb⟩ := num_last hx
  have hz := zz_lt hx
  have hx2 := hx
  obtain ⟨hx3, hx4⟩ := hx2
  go_enter Try.func3, Try.ntmps3
  have Hl := Lib.hid hl; clear hl
  go_wp2_with fail
  refine (alive_any _).mono ?_
  rintro e w1 ⟨rfl, hc1⟩
  go_wp2_with fail
  refine (packInt_any _ _ _ [] _ _ _ [x] _ Rds.nil_ (Rds.one _ _ _) (by simpa using hx) (by simp)).mono ?_
  rintro e w2 ⟨v, rfl, hown, hc2⟩
  have hc : Chg Non w w2 := ((hc1.alloc _).trans hc2)
  obtain ⟨A, n, c, rfl, hn, _, _, hrd⟩ := hown.open_
  have hnum : [] ++ nums [x] = num x := by simp [nums]
  rw [hnum] at hrd
  have hn2 : n = (vi 9 (zz x)).length := by have := hn.out; rw [hnum] at this; exact this
  have hcell : ∃ ad, A = some ad ∧ w2.cell? (ad.add (n - 1)) = some (.int .u8 b.toNat) ∧ 1 ≤ n ∧ n ≤ 10 := by
    have hlen := num_len x
    have hn3 : n = (l ++ [b]).length := by rw [← Hl.out]; exact hn2
    obtain ⟨ad, h1, h2⟩ := hrd.2 (by simp at hn3; omega)
    refine ⟨ad, h1, h2 _ _ ?_, by simp at hn3; omega, by unfold num at hlen; omega⟩
    rw [Hl.out, hn3, bv_get]; simp
  obtain ⟨ad, rfl, hcell, hn3, hn4⟩ := hcell
  have Hn := Lib.hid hn2; clear hn2 hn hown hrd
  by_cases hneg : x < 0
  all_goals
    go_wp2_with fail
    go_loop [5, 6] (fun u k => ∃ (j m Q : Nat), u = .int .i64 (Q / 2 : Nat) ∧ k = .int .i64 m ∧ m ≤ 10 ∧ Hid (m + j = 10 ∧ n + 1 = m + (vi j Q).length) ∧ Q < 2 * 128 ^ j) (fun u _ => (intOf u).toNat)
    case atStart => exact ⟨9, 1, zz x, by first | rw [zz_half_neg hneg] | rw [← zz_half_pos (by omega)], rfl, by omega, ⟨rfl, by have := Hn.out; omega⟩, hz⟩
    case round =>
      obtain ⟨j, m, Q, rfl, rfl, hm, Hj, hQ⟩ := hrel
      by_cases hgo : 128 ≤ Q ∧ m < 10
      · obtain ⟨h1, h2⟩ := hgo
        have ej : ∃ i, j = i + 1 := ⟨j - 1, by have := Hj.out; omega⟩
        obtain ⟨i, rfl⟩ := ej
        go_wp2_with fail
        go_round
        case rel => exact ⟨i, m + 1, Q / 128, by go_num, by go_num, by omega, (by have := Hj.out; rw [vi_len_big (by omega)] at this; exact ⟨by omega, by omega⟩), by rw [Nat.pow_succ] at hQ; omega⟩
        case measure => simp [intOf]; omega
      · have e : n = m := by
          have := Hj.out
          rcases Nat.lt_or_ge Q 128 with h | h
          · rw [vi_small h] at this; simp at this; omega
          · have h0 : j = 0 := by omega
            subst h0
            simp [vi] at this; omega
        subst e
        rcases Nat.lt_or_ge Q 128 with h | h
        · go_wp2_with fail
          go_ret
          refine ⟨?_, hc⟩
          simp; omega
        · have h3 : 10 ≤ n := by omega
          clear hgo
          go_wp2_with fail
          go_ret
          refine ⟨?_, hc⟩
          simp; omega
end Go.Proofs.Ytbjpnnpbhocffaa
