/-
  gleanerref1.Cursor.Bytes.
-/
import Derived.Test.YtclpmadecibofaaNtRefCur
import Derived.Test.YtclpmadecibofaaApp
namespace Go.Proofs.Ytclpmadecibofaa
open Go.RowKit
set_option linter.unusedVariables false

theorem RCur.fine {w : World} {g : Nat} {R : List UInt8} {bad : Bool} (h : RCur w g R bad) : Fine R bad := by
  obtain ⟨A, n, c, B, t, hb, hr, h1, h2, h3, h4, h5⟩ := h
  intro hb
  subst hb
  exact h5.out

set_option maxRecDepth 100000 in
set_option maxHeartbeats 1000000 in
theorem refBytes_any (g : Nat) (R : List UInt8) (bad : Bool) (w : World) (hc : RCur w g R bad) (hR : R.length ≤ 140737488351232) :
    Calls Try.prog 34 #[.pointer (some ⟨g, 0, none⟩)] w fun e w2 => ∃ v, e = .returned v ∧ Own8 w2 w.heap.size v (cBytes R bad).1 ∧ RCur w2 g (cBytes R bad).2.1 (cBytes R bad).2.2 ∧ Chg (fun b => b = g) w w2 := by
  have hlen := cInt_len R bad
  have hi64 := cInt_i64 R bad
  have hfine := cInt_fine hc.fine
  generalize hx : cInt R bad = x at hlen hi64 hfine
  obtain ⟨z, R2, bad2⟩ := x
  simp only at hlen hi64 hfine
  have hcb : cBytes R bad = if z < 0 ∨ z > R2.length then ([], [], true) else (R2.take z.toNat, R2.drop z.toNat, bad2) := by unfold cBytes; rw [hx]
  rw [hcb]
  have Hx := Lib.hid hx; clear hx hcb
  have hi1 := hi64.1
  have hi2 := hi64.2
  clear hi64
  cases bad2
  · clear hfine
    by_cases hz : z < 0 ∨ z > R2.length
    · rw [if_pos hz]
      go_enter Try.func34, Try.ntmps34
      go_wp2_with fail
      refine (refCurInt_any g R bad w hc).mono ?_
      rintro e w1 ⟨rfl, hc1, h2⟩
      rw [Hx.out] at hc1 ⊢
      simp only at hc1 ⊢
      obtain ⟨A, n, c, B, t, hb, hr, h1, h3, h4, h5, h6⟩ := hc1
      have hR2 : R2 = B.drop t := h6.out
      have c0 := hb.cell 0
      have c1 := hb.cell 1
      have c2 := hb.cell 2
      have f2 := hb.frozen 2
      have hB2 := hb.put 2 (.bool true)
      have hC2 := (Chg.refl (fun b => b = g) w1).set1 2 (.bool true)
      simp only [List.getElem?_toArray, List.getElem?_cons_zero, List.getElem?_cons_succ, List.setIfInBounds_toArray, List.set_cons_succ, List.set_cons_zero] at c0 c1 c2 hB2
      have hl : R2.length = n - t := by rw [hR2, List.length_drop, ← hr.lenMap]
      have hsub : IntKind.i64.wrap ((n : Int) - (t : Int)) = (n : Int) - (t : Int) := IntWalk.i64_in _ (by unfold maxLen at h3; omega)
      have hz2 : decide (z < 0) = true ∨ decide (z < 0) = false ∧ decide ((n : Int) - t < z) = true := by
        rcases Decidable.em (z < 0) with h | h
        · left; simpa using h
        · right; simp; omega
      have HR2 := Lib.hid hR2
      clear hR2 hl hz
      rcases hz2 with hz | ⟨hz, hz3⟩
      all_goals
        go_wp2_with fail
        go_quiet (fail)
        go_wp2_with fail
        go_ret
        exact ⟨_, rfl, Own8.nil _ _, ⟨A, n, c, B, t, hB2.drewN _, hr.chg0 (hC2.drewN _) (neOf h5), h1, h3, h4, h5, rfl⟩, h2.trans (hC2.drewN _)⟩
    · rw [if_neg hz]
      obtain ⟨k, rfl⟩ : ∃ k : Nat, z = k := ⟨z.toNat, by omega⟩
      have hk : k ≤ R2.length := by omega
      rw [Int.toNat_natCast]
      clear hz
      go_enter Try.func34, Try.ntmps34
      go_wp2_with fail
      refine (refCurInt_any g R bad w hc).mono ?_
      rintro e w1 ⟨rfl, hc1, h2⟩
      rw [Hx.out] at hc1 ⊢
      simp only at hc1 ⊢
      obtain ⟨A, n, c, B, t, hb, hr, h1, h3, h4, h5, h6⟩ := hc1
      have hR2 : R2 = B.drop t := h6.out
      have c0 := hb.cell 0
      have c1 := hb.cell 1
      have c2 := hb.cell 2
      have f1 := hb.frozen 1
      have hl : R2.length = n - t := by rw [hR2, List.length_drop, ← hr.lenMap]
      have h64 : n ≤ 9223372036854775807 := by unfold maxLen at h3; omega
      have hsub : IntKind.i64.wrap ((n : Int) - (t : Int)) = (n : Int) - (t : Int) := IntWalk.i64_in _ (by omega)
      have htk : t + k ≤ n := by omega
      have hz : decide ((k : Int) < 0) = false := by simp
      have hz3 : decide ((n : Int) - t < k) = false := by simp; omega
      have hB2 := hb.put 1 (.int .i64 (t + k : Nat))
      have hC2 := (Chg.refl (fun b => b = g) w1).set1 1 (.int .i64 (t + k : Nat))
      have hp1 : (((t + k : Nat) : Int)) = (t : Int) + k := by omega
      simp only [List.getElem?_toArray, List.getElem?_cons_zero, List.getElem?_cons_succ, List.setIfInBounds_toArray, List.set_cons_succ, List.set_cons_zero] at c0 c1 c2 hB2
      rw [hp1] at hB2 hC2
      have Hp1 := Lib.hid hp1
      have HR2 := Lib.hid hR2
      clear hR2 hl hp1
      go_wp2_with fail
      go_quiet (fail)
      go_wp2_with fail
      have hB3 : Blk ((w1.drewN nq).setCell ⟨g, 1, none⟩ (.int .i64 ((t : Int) + k))) g 71 #[.slice A n c, .int .i64 ((t : Int) + k), .bool false] := hB2
      have hC3 : Chg (fun b => b = g) w1 ((w1.drewN nq).setCell ⟨g, 1, none⟩ (.int .i64 ((t : Int) + k))) := hC2.drewN nq
      generalize ((w1.drewN nq).setCell ⟨g, 1, none⟩ (.int .i64 ((t : Int) + k))) = W at hB3 hC3 ⊢
      clear hB2 hC2 c0 c1 c2 f1
      have hr3 := hr.chg0 hC3 (neOf h5)
      have k0 : ∀ w, Chg Non W w → w.cell? ⟨g, 0, none⟩ = some (.slice A n c) := fun w h => h.cell (hB3.cell 0) id
      have k1 : ∀ w, Chg Non W w → w.cell? ⟨g, 1, none⟩ = some (.int .i64 ((t : Int) + k)) := fun w h => h.cell (hB3.cell 1) id
      have hs1 : IntKind.i64.wrap (t : Int) = (t : Int) := IntWalk.i64_in _ (by omega)
      have qs := fun w => run_slice_two (P := Try.prog) Try.underlying34 1 (by kernel_rfl) (by kernel_rfl) (kl := .i64) (kh := .i64) (i := (t : Int)) (j := (t : Int) + k) (k := t) (m := t + k) (c := c) rfl (by omega) (by omega) (by omega) A n w
      have hr4 : Rds W 1 (cutA A c t 1) k (bv (R2.take k)) := by
        have h := (hr3.take8 (M := B.take (t + k)) htk rfl).drop8 (k := t) (c := c) (M := (B.take (t + k)).drop t) (by omega) (by omega) rfl
        rw [show t + k - t = k by omega] at h
        rw [HR2.out, List.take_drop]
        exact h
      have hW : w.heap.size ≤ W.heap.size := Nat.le_trans h2.size hC3.size
      refine st_region 1 Non [15] [] (fun _ _ _ _ => True) (fun _ _ v w2 => Own8 w2 W.heap.size v (R2.take k)) (fun _ _ v => True) (fun _ => True) (by kernel_rfl) (by kernel_rfl) (fun _ h => h.elim) trivial (fun _ _ _ => trivial) ?_
      repeat (first | (refine st_pass (by rfl) ?_; simp only [Act.put, List.setIfInBounds_toArray, List.set_cons_succ, List.set_cons_zero]) | (refine st_plain (Non) (W) rfl rfl (f := ?_) (by rfl) rfl rfl (fun w hC hG => ?_) ?_; rotate_left; (clear hG; first | (go_simp; done) | (go_simp; with_reducible rfl) | (simp [*, go_sem, ↓IntWalk.iteOmega]; done) | (simp [*, go_sem, ↓IntWalk.iteOmega]; with_reducible rfl)); simp only [Act.put, List.setIfInBounds_toArray, List.set_cons_succ, List.set_cons_zero]))
      refine st_major (Non) (W) rfl rfl (by rfl) rfl (⟨.slice none 0 0, trivial⟩) (fun v w w2 _ h2 h => h.non h2) (fun _ _ _ _ => trivial) (fun w hC hG hS => ?_) ?_
      · refine settle_app8b _ (.tmp 54) rfl (Own8.nil w W.heap.size) rfl (hr4.non hC) rfl ?_ hC.size ?_
        · simp; omega
        · intro v2 w2 h7 h8 _
          exact ⟨trivial, h8.mono (fun _ e => by cases e), trivial, by simpa using h7⟩
      · intro v _
        simp only [Act.put, List.setIfInBounds_toArray, List.set_cons_succ, List.set_cons_zero]
        repeat (first | (refine st_pass (by rfl) ?_; simp only [Act.put, List.setIfInBounds_toArray, List.set_cons_succ, List.set_cons_zero]) | (refine st_plain (Non) (W) rfl rfl (f := ?_) (by rfl) rfl rfl (fun w hC hG => ?_) ?_; rotate_left; (clear hG; first | (go_simp; done) | (go_simp; with_reducible rfl) | (simp [*, go_sem, ↓IntWalk.iteOmega]; done) | (simp [*, go_sem, ↓IntWalk.iteOmega]; with_reducible rfl)); simp only [Act.put, List.setIfInBounds_toArray, List.set_cons_succ, List.set_cons_zero]))
        refine st_end Non W rfl rfl (fun w6 hC6 _ hG => ?_)
        have hv : Own8 w6 W.heap.size v (R2.take k) := hG 15
        go_wp2_with fail
        go_ret
        refine ⟨v, rfl, own_mono hv hW, ⟨A, n, c, B, t + k, ?_, hr3.non hC6, h1, h3, htk, h5, ?_⟩, (h2.trans hC3).non hC6⟩
        · rw [Hp1.out]; exact hB3.non hC6
        · show _ = _
          rw [HR2.out, List.drop_drop]
          rfl
  · have hR2 : R2 = [] := hfine rfl
    subst hR2
    have hv : (if z < 0 ∨ z > ([] : List UInt8).length then (([] : List UInt8), ([] : List UInt8), true) else (List.take z.toNat [], List.drop z.toNat [], true)) = ([], [], true) := by
      split <;> simp
    rw [hv]
    clear hv hfine
    go_enter Try.func34, Try.ntmps34
    go_wp2_with fail
    refine (refCurInt_any g R bad w hc).mono ?_
    rintro e w1 ⟨rfl, hc1, h2⟩
    rw [Hx.out] at hc1 ⊢
    simp only at hc1 ⊢
    obtain ⟨A, n, c, B, t, hb, hr, h1, h3, h4, h5, h6⟩ := hc1
    have c0 := hb.cell 0
    have c1 := hb.cell 1
    have c2 := hb.cell 2
    have f2 := hb.frozen 2
    have hB2 := hb.put 2 (.bool true)
    have hC2 := (Chg.refl (fun b => b = g) w1).set1 2 (.bool true)
    simp only [List.getElem?_toArray, List.getElem?_cons_zero, List.getElem?_cons_succ, List.setIfInBounds_toArray, List.set_cons_succ, List.set_cons_zero] at c0 c1 c2 hB2
    go_wp2_with fail
    go_quiet (fail)
    go_wp2_with fail
    go_ret
    exact ⟨_, rfl, Own8.nil _ _, ⟨A, n, c, B, t, hB2.drewN _, hr.chg0 (hC2.drewN _) (neOf h5), h1, h3, h4, h5, rfl⟩, h2.trans (hC2.drewN _)⟩
end Go.Proofs.Ytclpmadecibofaa
