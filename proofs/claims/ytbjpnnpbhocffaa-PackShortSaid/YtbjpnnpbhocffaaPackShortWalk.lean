/-
  gleanerlaw1.PackShort: the walk.
-/
import Derived.Test.YtbjpnnpbhocffaaAlive
import Derived.Test.YtbjpnnpbhocffaaReader
import Derived.Test.YtbjpnnpbhocffaaBytes
import Derived.Test.YtbjpnnpbhocffaaShort
namespace Go.Proofs.Ytbjpnnpbhocffaa
open Go.RowKit

theorem le10 {n : Nat} {l : List UInt8} {b : UInt8} (h : Hid (n = (l ++ [b]).length)) (hl : l.length ≤ 9) : n ≤ 10 := by
  have := h.out; simp at this; omega

set_option maxRecDepth 100000 in
theorem packShort_walk (w : World) (x : Int) (hx : i64 x) (y : Int) (_hy : i64 y) : Calls Try.prog 4 #[.int .i64 x, .int .i64 y] w fun e w2 => e = .returned (.bool true) ∧ Chg Non w w2 := by
  obtain ⟨l, b, hl, hb, hl2⟩ := vi_init 9 _ (zz_lt hx)
  have hlen := vi_len 9 (zz x)
  rw [hl] at hlen
  simp at hlen
  go_enter Try.func4, Try.ntmps4
  have Hl := Lib.hid hl; clear hl
  go_wp2_with fail
  refine (alive_any _).mono ?_
  rintro e w1 ⟨rfl, hc1⟩
  go_wp2_with fail
  refine (packInt_any _ _ _ [] _ _ _ [x] _ Rds.nil_ (Rds.one _ _ _) (by simpa using hx) (by simp)).mono ?_
  rintro e w2 ⟨v, rfl, hown, hc2⟩
  have hc : Chg Non w w2 := ((hc1.alloc _).trans hc2)
  have hnum : [] ++ nums [x] = l ++ [b] := by simp [nums, num, Hl.out]
  rw [hnum] at hown
  obtain ⟨A, n, c, rfl, hn, hnc, hcm, hrd⟩ := hown.open_
  have hn1 : 1 ≤ n := by have := hn.out; simp at this; omega
  have hn2 : n ≤ 10 := by have := hn.out; simp at this; omega
  clear hc1 hc2 hnum
  obtain ⟨m7, hm7, h7⟩ := and7 y
  have h128 := or128_last hb
  generalize hB : UInt8.ofNat (b.toNat + 128) = B at h128
  have hB2 : 128 ≤ B.toNat := by rw [← hB, UInt8.toNat_ofNat']; omega
  have HB := Lib.hid hB; clear hB
  go_wp2_with (at_builtin; refine app8b rfl _ (.tmp 29) rfl (Own8.nil _ w2.heap.size) rfl hrd rfl ?_ ?_ ?_; rotate_right; intro v2 w3 h2 h3 h4; simp only [List.nil_append] at h2; obtain ⟨g3, n3, c3, rfl, hn3, h31, hg3, hlt3, hc3, hm3⟩ := h2.formN (by simp); have h310 := le10 hn3 hlen; have hcell := h2.cell (j := n3 - 1) (q := b) (by rw [hn3.out]; simp); have hfr := h2.frozen (n3 - 1))
  · have h5 := h2.put (n3 - 1) B
    rw [show (l ++ [b]).set (n3 - 1) B = l ++ [B] by rw [hn3.out]; simp] at h5
    have h6 : Chg Non w2 (w3.setCell ⟨g3, n3 - 1, none⟩ (.int .u8 B.toNat)) := (h3.mono (S2 := Non) (fun _ e => by cases e)).setCell (p := ⟨g3, n3 - 1, none⟩) (.inr hg3) _
    clear h2 h3 h4 hcell hfr
    go_loopw [7, 8] (fun v i wr => ∃ (m : Nat), i = .int .i64 m ∧ m ≤ m7 ∧ Own8 wr w2.heap.size v (l ++ [B] ++ List.replicate m 128) ∧ Chg Non w2 wr) (fun _ i _ => 7 - (intOf i).toNat)
    case atStart => exact ⟨0, rfl, by omega, by simpa using h5, h6⟩
    case round =>
      obtain ⟨m, rfl, hmm, h5, h6⟩ := hrel
      by_cases hlt : m < m7
      · go_wp2_with (at_builtin; refine app8c rfl (.tmp 49) (.tmp 50) rfl h5 rfl rfl 128 rfl ?_ ?_ ?_; rotate_right; intro v4 w4 h7 h8)
        · go_roundw
          case rel => exact ⟨m + 1, by go_num, by omega, by rw [List.replicate_succ', ← List.append_assoc]; exact h7, h5.chgApp h6 (Nat.le_refl _) h8⟩
          case measure => simp [intOf]; omega
        · simp; omega
        · exact h6.size
      · go_wp2_with (at_builtin; refine app8c rfl (.tmp 52) (.tmp 53) rfl h5 rfl rfl 0 rfl ?_ ?_ ?_; rotate_right; intro v4 w4 h7 h8)
        · have hc4 := h5.chgApp h6 (Nat.le_refl _) h8
          clear h5 h6 h8
          obtain ⟨A4, n4, c4, rfl, _, _, _, hr4⟩ := h7.open_
          refine (new_any _ _ _ _ _ hr4 (by simp; omega)).mono ?_
          rintro e w5 ⟨g5, rfl, hg5, hcur5, hc5⟩
          go_wp2_with fail
          refine (int_any g5 _ _ _ hcur5).mono ?_
          rintro e w6 ⟨rfl, hcur6, hc6⟩
          rw [cInt_long (L := l ++ [B] ++ List.replicate m 128) (by
            intro x hx
            simp only [List.mem_append, List.mem_singleton, List.mem_replicate] at hx
            rcases hx with (hx | rfl) | ⟨_, rfl⟩
            · exact hl2 x hx
            · exact hB2
            · decide) (by simp; omega) false] at hcur6 ⊢
          simp only at hcur6 ⊢
          have hrd6 := ((hrd.non hc4).non hc5).chg hc6 (fun ad e => by
            subst e
            have h1 := (World.ownsRow.lt hown ad.block rfl).2
            have h2 := hc4.size
            omega)
          have hs := fun w => run_slice_hi (P := Try.prog) Try.underlying23 (by kernel_rfl) (kl := .i64) (i := (n : Int) - 1) (k := n - 1) (c := c) (by omega) (by omega) A n w
          have hr6 : Rds w6 1 A (n - 1) (bv l) := by
            have h1 := hrd6.upto (show n - 1 ≤ n by omega)
            have h2 : (bv (l ++ [b])).take ((n - 1) * 1) = bv l := by rw [hn.out, bv_app]; simp [bv]
            rw [h2] at h1
            exact h1
          have hC6 : Chg Non w w6 := ((hc.non hc4).non hc5).trans2 hc6 fun b e => .inr (by have := hc.size; have := hc4.size; omega)
          clear hrd hrd6 hc hc4 hc5 hc6 hcur5
          go_wp2_with fail
          refine (new_any _ _ _ _ _ hr6 (by omega)).mono ?_
          rintro e w7 ⟨g7, rfl, hg7, hcur7, hc7⟩
          go_wp2_with fail
          refine (int_any g7 _ _ _ hcur7).mono ?_
          rintro e w8 ⟨rfl, hcur8, hc8⟩
          rw [cInt_cut hl2 false] at hcur8 ⊢
          simp only at hcur8 ⊢
          have hcur9 := hcur6.young (hc7.of_non.trans hc8) hg7
          go_wp2_with (first | (go_at_call 14; refine (bad_any g5 _ _ _ hcur9).mono ?_; rintro e w9 ⟨rfl, rfl⟩) | (go_at_call 14; refine (bad_any g7 _ _ _ hcur8).mono ?_; rintro e w9 ⟨rfl, rfl⟩) | (go_at_call 15; refine (left_any g7 _ _ _ hcur8).mono ?_; rintro e w9 ⟨rfl, rfl⟩))
          go_ret
          exact ⟨rfl, (hC6.non hc7).trans2 hc8 fun b e => .inr (by have := hC6.size; omega)⟩
        · simp; omega
        · exact h6.size
  · simp; omega
  · exact Nat.le_refl _
end Go.Proofs.Ytbjpnnpbhocffaa
