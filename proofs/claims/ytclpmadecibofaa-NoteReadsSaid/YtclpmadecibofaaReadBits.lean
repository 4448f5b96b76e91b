/-
  pack.Cursor's methods Int and Bytes (of seats that do not reach End, Bad and Left).
-/
import Derived.Test.YtclpmadecibofaaCursor
import Derived.Test.YtclpmadecibofaaCurState
import Derived.RegionTactic
import Derived.ChangeAlike
namespace Go.Proofs.Ytclpmadecibofaa
open Go.RowKit
variable {Dp : Nat → Prop}

theorem fail_any (g : Nat) (R : List UInt8) (bad : Bool) (w : World) (hc : CurP Dp w g R bad) :
    Calls Try.prog 47 #[.pointer (some ⟨g, 0, none⟩)] w fun e w2 => e = .returned (.tuple #[]) ∧ CurP Dp w2 g [] true ∧ Chg (fun b => b = g) w w2 := by
  obtain ⟨A, n, c, hb, hr, h1, h2, h3, h9⟩ := hc
  have c0 := hb.cell 0
  have c1 := hb.cell 1
  have f0 := hb.frozen 0
  have f1 := hb.frozen 1
  simp at c0 c1
  go_enter Try.func47, Try.ntmps47
  go_wp2_with fail
  go_end0
  refine ⟨rfl, ⟨none, 0, 0, ?_, Rds.nil_, Nat.le_refl _, by unfold maxLen; omega, (fun _ h => by cases h), (fun h => absurd h (by omega))⟩, Chg.setCell (Chg.setCell (Chg.refl (fun b => b = g) w) (p := ⟨g, 0, none⟩) (.inl rfl) _) (p := ⟨g, 1, none⟩) (.inl rfl) _⟩
  exact (hb.put 0 _).put 1 _

theorem int_any (g : Nat) (R : List UInt8) (bad : Bool) (w : World) (hc : CurP Dp w g R bad) :
    Calls Try.prog 31 #[.pointer (some ⟨g, 0, none⟩)] w fun e w2 => e = .returned (.int .i64 (cInt R bad).1) ∧ CurP Dp w2 g (cInt R bad).2.1 (cInt R bad).2.2 ∧ Chg (fun b => b = g) w w2 := by
  cases hd : dnum 0 0 R with
  | none =>
    have hf := cInt_none (bad := bad) hd
    rw [hf]
    have Hd := Lib.hid hd; clear hd hf
    go_enter Try.func31, Try.ntmps31
    go_wp2_with fail
    refine (number_any g R bad w hc).mono ?_
    intro e w2 h
    obtain ⟨rfl, rfl⟩ := h.1 Hd.out
    clear h
    go_wp2_with fail
    refine (fail_any g R bad w hc).mono ?_
    rintro e w2 ⟨rfl, h1, h2⟩
    go_wp2_with fail
    go_ret
    exact ⟨rfl, h1, h2⟩
  | some x =>
    obtain ⟨u, R2⟩ := x
    have hf := cInt_some (bad := bad) hd
    have hu := dnum_bound R 0 0 _ _ (by omega) (by omega) hd
    rw [hf]
    have Hd := Lib.hid hd; clear hd hf
    go_enter Try.func31, Try.ntmps31
    go_wp2_with fail
    refine (number_any g R bad w hc).mono ?_
    intro e w2 h
    obtain ⟨rfl, h1, h2⟩ := h.2 u R2 Hd.out
    clear h
    by_cases hodd : u % 2 = 1
    · have ht := odd_test hu hodd
      have hz := Lib.hid (not_half hu hodd)
      clear hodd
      go_wp2_with fail
      go_ret
      exact ⟨by rw [← hz.out]; rfl, h1, h2⟩
    · have ht := even_test hu hodd
      have hz := Lib.hid (half hodd)
      clear hodd
      go_wp2_with fail
      go_ret
      exact ⟨by rw [← hz.out]; rfl, h1, h2⟩

theorem bytes_any (g : Nat) (R : List UInt8) (bad : Bool) (w : World) (hc : CurP Dp w g R bad) (hR : R.length ≤ 140737488351232) :
    Calls Try.prog 48 #[.pointer (some ⟨g, 0, none⟩)] w fun e w2 => ∃ v, e = .returned v ∧ Own8 w2 w.heap.size v (cBytes R bad).1 ∧ CurP Dp w2 g (cBytes R bad).2.1 (cBytes R bad).2.2 ∧ Chg (fun b => b = g) w w2 := by
  have hlen := cInt_len R bad
  generalize hx : cInt R bad = x at hlen
  obtain ⟨z, R2, bad2⟩ := x
  simp only at hlen
  have hcb : cBytes R bad = if z < 0 ∨ z > R2.length then ([], [], true) else (R2.take z.toNat, R2.drop z.toNat, bad2) := by unfold cBytes; rw [hx]
  rw [hcb]
  have Hx := Lib.hid hx; clear hx hcb
  by_cases hz : z < 0 ∨ z > R2.length
  · rw [if_pos hz]
    go_enter Try.func48, Try.ntmps48
    go_wp2_with fail
    refine (int_any g R bad w hc).mono ?_
    rintro e w1 ⟨rfl, h1, h2⟩
    rw [Hx.out] at h1 ⊢
    simp only at h1 ⊢
    obtain ⟨A, n, c, hb, hr, hnc, hcm, hA, h9⟩ := h1
    have hn : n = R2.length := by have := hr.1; rw [bv_len] at this; omega
    subst hn
    have c0 := hb.cell 0
    simp at c0
    have hc1 : CurP Dp w1 g R2 bad2 := ⟨A, _, c, hb, hr, hnc, hcm, hA, h9⟩
    rcases hz with hz | hz
    all_goals
      go_wp2_with fail
      refine (fail_any g _ _ _ hc1).mono ?_
      rintro e w2 ⟨rfl, h4, h5⟩
      go_wp2_with fail
      go_ret
      exact ⟨_, rfl, Own8.nil _ _, h4, h2.trans h5⟩
  · rw [if_neg hz]
    obtain ⟨k, rfl⟩ : ∃ k : Nat, z = k := ⟨z.toNat, by omega⟩
    have hk : k ≤ R2.length := by omega
    have hk0 : (0 : Int) ≤ k := by omega
    rw [Int.toNat_natCast]
    clear hz
    go_enter Try.func48, Try.ntmps48
    go_wp2_with fail
    refine (int_any g R bad w hc).mono ?_
    rintro e w1 ⟨rfl, h1, h2⟩
    rw [Hx.out] at h1 ⊢
    simp only at h1 ⊢
    obtain ⟨A, n, c, hb, hr, hnc, hcm, hA, h9⟩ := h1
    have hn : n = R2.length := by have := hr.1; rw [bv_len] at this; omega
    subst hn
    have c0 := hb.cell 0
    simp at c0
    have q1 := fun w => run_slice_hi (P := Try.prog) Try.underlying34 (by kernel_rfl) (kl := .i64) (i := (k : Int)) (k := k) (c := c) rfl (by omega) A R2.length w
    have q2 := fun w => run_slice_lo (P := Try.prog) Try.underlying34 1 (by kernel_rfl) (by kernel_rfl) (kl := .i64) (i := (k : Int)) (k := k) (n := R2.length) rfl hk A c w
    have hr2 : Rds w1 1 A k (bv (R2.take k)) := by
      have := hr.upto hk
      rw [show (bv R2).take (k * 1) = bv (R2.take k) by simp [bv]] at this
      exact this
    have hr3 : Rds w1 1 (cutA A c k 1) (R2.length - k) (bv (R2.drop k)) := by
      have := hr.cutA hk hnc
      rw [show (bv R2).drop (k * 1) = bv (R2.drop k) by simp [bv]] at this
      exact this
    have hlt : (R2.take k).length ≤ 140737488351232 := by rw [List.length_take]; omega
    go_wp2_with fail
    refine (clone_any _ _ _ _ _ hr2 hlt).mono ?_
    rintro e w2 ⟨v, rfl, hown, hc2⟩
    have hb2 := hb.non hc2
    have c2 := hb2.cell 0
    have f2 := hb2.frozen 0
    simp at c2
    go_wp2_with fail
    go_ret
    have hS : Chg (fun b => b = g) w1 (w2.setCell ⟨g, 0, none⟩ (.slice (cutA A c k 1) (R2.length - k) (c - k))) := Chg.set1 hc2.of_non 0 _
    refine ⟨v, rfl, ?_, ⟨_, _, _, hb2.put 0 _, hr3.chg hS fun ad e => ?_, by omega, by omega, fun ad e => ?_, fun h0 ad e => ?_⟩, h2.trans hS⟩
    · refine Own8.chg (S := fun b => b = g) (own_mono hown h2.size) ((Chg.refl _ _).set1 0 _) fun g2 hg2 e => ?_
      have := (World.ownsRow.lt hown g2 hg2).1
      have := hb.lt
      omega
    all_goals
      obtain ⟨a0, e1, e2⟩ := cutA_block e
      rw [e2]
      first | exact hA a0 e1 | exact h9 (by omega) a0 e1
end Go.Proofs.Ytclpmadecibofaa
