/-
  trace.sorted$1: how two commits stand to each other.
-/
import Derived.Test.YteinbdifncdaiaaTraceSort
namespace Go.Proofs.Yteinbdifncdaiaa
open Go.RowKit Go.Sort Go.Shelf
set_option linter.unusedVariables false
set_option linter.unusedSimpArgs false

theorem or3 (x y z : Int) : orI [x, y, z] = if x ≠ 0 then x else if y ≠ 0 then y else z := by
  unfold orI orI orI orI
  by_cases h1 : x = 0 <;> by_cases h2 : y = 0 <;> by_cases h3 : z = 0 <;> simp [h1, h2, h3]
set_option maxRecDepth 100000 in
set_option maxHeartbeats 4000000 in
theorem cmpC_any (x y : Cm) (W : World) : Calls Try.prog 40 #[.agg #[.string x.1, .int .i64 x.2.1, .int .i64 x.2.2], .agg #[.string y.1, .int .i64 y.2.1, .int .i64 y.2.2]] W fun e w' => e = .returned (.int .i64 (cmp3 x y)) ∧ ∃ q os', w' = grow (W.drewN q) os' := by
  obtain ⟨a, b, c⟩ := x
  obtain ⟨a2, b2, c2⟩ := y
  obtain ⟨W1, hW1⟩ : ∃ W1, W.alloc (.cells #[.string a, .int .i64 b, .int .i64 c] 34) = W1 := ⟨_, rfl⟩
  obtain ⟨W2, hW2⟩ : ∃ W2, W1.alloc (.cells #[.string a2, .int .i64 b2, .int .i64 c2] 34) = W2 := ⟨_, rfl⟩
  have k1 : Chg Non W W1 := hW1 ▸ (Chg.refl _ _).alloc _
  have k2 : Chg Non W1 W2 := hW2 ▸ (Chg.refl _ _).alloc _
  have d1 : Blk W2 W.heap.size 34 #[.string a, .int .i64 b, .int .i64 c] := Blk.non (hW1 ▸ Blk.new _ _ _) k2
  have d2 : Blk W2 W1.heap.size 34 #[.string a2, .int .i64 b2, .int .i64 c2] := hW2 ▸ Blk.new _ _ _
  have hg1 : W1.heap.size = W.heap.size + 1 := by rw [← hW1]; simp
  rw [hg1] at d2
  have hdr : W.drawn ≤ W2.drawn := by rw [← hW2, ← hW1]; exact Nat.le_refl _
  have hC2 := k1.non k2
  have x0 : ∀ w2, Chg Non W2 w2 → w2.cell? ⟨W.heap.size, 0, none⟩ = some (.string a) := fun w2 h => h.cell (d1.cell 0) _root_.id
  have x1 : ∀ w2, Chg Non W2 w2 → w2.cell? ⟨W.heap.size, 1, none⟩ = some (.int .i64 b) := fun w2 h => h.cell (d1.cell 1) _root_.id
  have x2 : ∀ w2, Chg Non W2 w2 → w2.cell? ⟨W.heap.size, 2, none⟩ = some (.int .i64 c) := fun w2 h => h.cell (d1.cell 2) _root_.id
  have y0 : ∀ w2, Chg Non W2 w2 → w2.cell? ⟨W.heap.size + 1, 0, none⟩ = some (.string a2) := fun w2 h => h.cell (d2.cell 0) _root_.id
  have y1 : ∀ w2, Chg Non W2 w2 → w2.cell? ⟨W.heap.size + 1, 1, none⟩ = some (.int .i64 b2) := fun w2 h => h.cell (d2.cell 1) _root_.id
  have y2 : ∀ w2, Chg Non W2 w2 → w2.cell? ⟨W.heap.size + 1, 2, none⟩ = some (.int .i64 c2) := fun w2 h => h.cell (d2.cell 2) _root_.id
  have q1 := fun w => compare_id a a2 w
  have q2 := fun w => compare_err b b2 w
  have q3 := fun w => compare_int c c2 w
  have hor : cmp3 (a, b, c) (a2, b2, c2) = orI [cmpS a a2, Lib.compareInt b b2, Lib.compareInt c c2] := by rw [or3]; rfl
  rw [hor]
  generalize cmpS a a2 = r1 at q1 ⊢
  generalize Lib.compareInt b b2 = r2 at q2 ⊢
  generalize Lib.compareInt c c2 = r3 at q3 ⊢
  have Q1 := Lib.hid q1
  have Q2 := Lib.hid q2
  have Q3 := Lib.hid q3
  have HC2 := Lib.hid hC2
  have Hdr := Lib.hid hdr
  clear k1 k2 d1 d2 q1 q2 q3 hor hC2 hdr
  go_enter Try.func40, Try.ntmps40
  go_wp2_with fail
  try rw [hW1]
  try rw [hW2]
  clear hW1 hW2 hg1
  refine st_region 12 Non [4, 11, 18, 20] [19] (fun _ _ _ w2 => W2.drawn ≤ w2.drawn) (fun _ _ _ _ => True) (fun i _ v => v = .int .i64 (if i = 4 then r1 else if i = 11 then r2 else if i = 18 then r3 else orI [r1, r2, r3])) (fun w2 => W2.drawn ≤ w2.drawn) (by kernel_rfl) (by kernel_rfl) (fun _ h => h.elim) (Nat.le_succ _) (fun _ _ h => h) ?_
  repeat (first | (refine st_pass (by rfl) ?_; simp only [Act.put, List.setIfInBounds_toArray, List.set_cons_succ, List.set_cons_zero]) | (refine st_plain (Non) (W2) rfl rfl (f := ?_) (by rfl) rfl rfl (fun w hC hG => ?_) ?_; rotate_left; (clear hG; first | (go_simp; done) | (go_simp; with_reducible rfl) | (simp [*, go_sem, ↓IntWalk.iteOmega]; done) | (simp [*, go_sem, ↓IntWalk.iteOmega]; with_reducible rfl)); simp only [Act.put, List.setIfInBounds_toArray, List.set_cons_succ, List.set_cons_zero]))
  refine st_major (Non) (W2) rfl rfl (by rfl) rfl (⟨.int .i64 r1, rfl⟩) (fun _ _ _ _ _ _ => trivial) (fun v w ob h => h) (fun w hC hG hS => settle_of (r2 := ?_) ?_ ?_) ?_
  rotate_left
  (first | (go_simp; done) | (go_simp; rfl))
  · refine settle_enter ((Q1.out _).mono ?_)
    rintro e w6 ⟨rfl, rfl⟩
    exact ⟨_, rfl, rfl, Chg.refl _ _, hS, trivial⟩
  rintro v4 hv4
  obtain rfl : v4 = .int .i64 r1 := hv4
  simp only [Act.put, List.setIfInBounds_toArray, List.set_cons_succ, List.set_cons_zero]
  repeat (first | (refine st_pass (by rfl) ?_; simp only [Act.put, List.setIfInBounds_toArray, List.set_cons_succ, List.set_cons_zero]) | (refine st_plain (Non) (W2) rfl rfl (f := ?_) (by rfl) rfl rfl (fun w hC hG => ?_) ?_; rotate_left; (clear hG; first | (go_simp; done) | (go_simp; with_reducible rfl) | (simp [*, go_sem, ↓IntWalk.iteOmega]; done) | (simp [*, go_sem, ↓IntWalk.iteOmega]; with_reducible rfl)); simp only [Act.put, List.setIfInBounds_toArray, List.set_cons_succ, List.set_cons_zero]))
  refine st_major (Non) (W2) rfl rfl (by rfl) rfl (⟨.int .i64 r2, rfl⟩) (fun _ _ _ _ _ _ => trivial) (fun v w ob h => h) (fun w hC hG hS => settle_of (r2 := ?_) ?_ ?_) ?_
  rotate_left
  (first | (go_simp; done) | (go_simp; rfl))
  · refine settle_enter ((Q2.out _).mono ?_)
    rintro e w6 ⟨rfl, rfl⟩
    exact ⟨_, rfl, rfl, Chg.refl _ _, hS, trivial⟩
  rintro v4 hv4
  obtain rfl : v4 = .int .i64 r2 := hv4
  simp only [Act.put, List.setIfInBounds_toArray, List.set_cons_succ, List.set_cons_zero]
  repeat (first | (refine st_pass (by rfl) ?_; simp only [Act.put, List.setIfInBounds_toArray, List.set_cons_succ, List.set_cons_zero]) | (refine st_plain (Non) (W2) rfl rfl (f := ?_) (by rfl) rfl rfl (fun w hC hG => ?_) ?_; rotate_left; (clear hG; first | (go_simp; done) | (go_simp; with_reducible rfl) | (simp [*, go_sem, ↓IntWalk.iteOmega]; done) | (simp [*, go_sem, ↓IntWalk.iteOmega]; with_reducible rfl)); simp only [Act.put, List.setIfInBounds_toArray, List.set_cons_succ, List.set_cons_zero]))
  refine st_major (Non) (W2) rfl rfl (by rfl) rfl (⟨.int .i64 r3, rfl⟩) (fun _ _ _ _ _ _ => trivial) (fun v w ob h => h) (fun w hC hG hS => settle_of (r2 := ?_) ?_ ?_) ?_
  rotate_left
  (first | (go_simp; done) | (go_simp; rfl))
  · refine settle_enter ((Q3.out _).mono ?_)
    rintro e w6 ⟨rfl, rfl⟩
    exact ⟨_, rfl, rfl, Chg.refl _ _, hS, trivial⟩
  rintro v4 hv4
  obtain rfl : v4 = .int .i64 r3 := hv4
  simp only [Act.put, List.setIfInBounds_toArray, List.set_cons_succ, List.set_cons_zero]
  refine st_minor Non W2 rfl rfl (ob := .cells #[.int .i64 r1, .int .i64 r2, .int .i64 r3] 3) (kd := some (3, 3)) (by rfl) rfl rfl (fun w hC hG => by clear hG; go_simp; rfl) (fun g2 => ?_)
  simp only [Act.put, List.setIfInBounds_toArray, List.set_cons_succ, List.set_cons_zero]
  refine st_major (Non) (W2) rfl rfl (by rfl) rfl (⟨.int .i64 (orI [r1, r2, r3]), rfl⟩) (fun _ _ _ _ _ _ => trivial) (fun v w ob h => h) (fun w hC hG hS => settle_of (r2 := ?_) ?_ ?_) ?_
  rotate_left
  (first | (go_simp; done) | (go_simp; rfl))
  · have hB : Rds w 1 (some ⟨g2, 0, none⟩) 3 (iv [r1, r2, r3]) := Rds.block (cs := #[.int .i64 r1, .int .i64 r2, .int .i64 r3]) (show w.heap[g2]? = _ from (hG 19 rfl).2) rfl
    refine settle_enter ((or_any _ (some ⟨g2, 0, none⟩) 3 3 [r1, r2, r3] hB (by omega)).mono ?_)
    rintro e w6 ⟨rfl, rfl⟩
    exact ⟨_, rfl, rfl, Chg.refl _ _, hS, trivial⟩
  rintro v4 hv4
  obtain rfl : v4 = .int .i64 (orI [r1, r2, r3]) := hv4
  simp only [Act.put, List.setIfInBounds_toArray, List.set_cons_succ, List.set_cons_zero]
  repeat (first | (refine st_pass (by rfl) ?_; simp only [Act.put, List.setIfInBounds_toArray, List.set_cons_succ, List.set_cons_zero]) | (refine st_plain (Non) (W2) rfl rfl (f := ?_) (by rfl) rfl rfl (fun w hC hG => ?_) ?_; rotate_left; (clear hG; first | (go_simp; done) | (go_simp; with_reducible rfl) | (simp [*, go_sem, ↓IntWalk.iteOmega]; done) | (simp [*, go_sem, ↓IntWalk.iteOmega]; with_reducible rfl)); simp only [Act.put, List.setIfInBounds_toArray, List.set_cons_succ, List.set_cons_zero]))
  refine st_end Non W2 rfl rfl (fun w6 hC6 hS6 hG => ?_)
  have hS6 : W2.drawn ≤ w6.drawn := hS6
  have hw6 := grow_of (HC2.out.non hC6) (Nat.le_trans Hdr.out hS6)
  clear hG hS6 hC6 x0 x1 x2 y0 y1 y2
  go_wp2_with fail
  go_ret
  exact ⟨rfl, hw6⟩
end Go.Proofs.Yteinbdifncdaiaa
