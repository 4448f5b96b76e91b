/-
  gleanerref14.With, that goes.
-/
import Derived.Test.YtojlglkefiddnaaViewRefWithP
namespace Go.Proofs.Ytojlglkefiddnaa
open Go.RowKit
set_option linter.unusedVariables false
set_option linter.unusedSimpArgs false

set_option maxRecDepth 100000 in
set_option maxHeartbeats 8000000 in
theorem refWith_yes (w : World) (ep : Int) (A : Option Addr) (n c : Nat) (L : List Mb) (x life : Int) (h1 : Rds w 2 A n (mv L)) (hn : n ≤ 1000000000) (hy : mayB ep L = true) (hh : hasN L x = false) (t1 : 0 ≤ x) (t2 : x ≤ 15) (t3 : 1 ≤ life) (t4 : life ≤ 2147483647) (hep : ep ≠ 2147483647) :
    Calls Try.prog 21 #[.agg #[.int .i64 ep, .slice A n c], .int .i64 x, .int .i64 life] w (VwR w (ep + 1) (insM (x, life) L) 0) := by
  obtain ⟨w1, hw1⟩ : ∃ w1, (w.alloc (.cells #[.int .i64 ep, .slice A n c] 26)).alloc (.cells #[.int .i64 0, .slice none 0 0] 26) = w1 := ⟨_, rfl⟩
  have hC : Chg Non w w1 := hw1 ▸ ((Chg.refl _ _).alloc _).alloc _
  have hbV : Blk w1 w.heap.size 26 #[.int .i64 ep, .slice A n c] := hw1 ▸ (Blk.new w _ _).alloc _
  have hbR : Blk w1 (w.heap.size + 1) 26 #[.int .i64 0, .slice none 0 0] := by
    have := Blk.new (w.alloc (.cells #[.int .i64 ep, .slice A n c] 26)) 26 #[.int .i64 0, .slice none 0 0]
    rw [hw1, World.size_alloc] at this
    exact this
  have h1' := h1.non hC
  have Hll := Lib.hid (mv_len h1)
  have hw1s : w.heap.size + 2 ≤ w1.heap.size := by rw [← hw1]; simp
  have hA : ∀ ad, A = some ad → 0 < n → ad.block < w.heap.size := fun ad e h => by
    obtain ⟨ad2, m2, e2, _, h3, _⟩ := h1.getM h
    rw [e] at e2
    obtain rfl := Option.some.inj e2
    exact World.block_lt_of_cell? w _ h3
  have v0 := hbV.cell 0
  have v1 := hbV.cell 1
  simp only [List.getElem?_toArray, List.getElem?_cons_zero, List.getElem?_cons_succ] at v0 v1
  clear h1
  have Hne := Lib.hid (hasN_ne hh)
  have hep2 : (ep == 2147483647) = false := beq_eq_false_iff_ne.2 hep
  have hmc := may_count hy
  have hwr : IntKind.i64.wrap (ep + 1) = ep + 1 := by rw [IntKind.wrap_i64]; omega
  have Hep := Lib.hid hep
  clear hep
  have D1 : decide (x < 0) = false := decide_eq_false (by omega)
  have D2 : decide (15 < x) = false := decide_eq_false (by omega)
  have D3 : decide (life < 1) = false := decide_eq_false (by omega)
  have D4 : decide (2147483647 < life) = false := decide_eq_false (by omega)
  have T1 := Lib.hid t1
  have T2 := Lib.hid t2
  have T3 := Lib.hid t3
  have T4 := Lib.hid t4
  clear t1 t2 t3 t4
  have Hy := Lib.hid hy
  clear hy
  go_enter Try.func21, Try.ntmps21
  go_wp2_with fail
  refine (refMay_any _ ep A n c L h1' (by omega)).mono ?_
  rintro e w9 ⟨rfl, hc9⟩
  rw [Hy.out]
  try clear hw1
  replace hC := hC.non hc9
  replace hbV := hbV.non hc9
  replace hbR := hbR.non hc9
  replace h1' := h1'.non hc9
  replace hw1s : w.heap.size + 2 ≤ w9.heap.size := Nat.le_trans hw1s hc9.size
  clear v0 v1 hc9
  have v0 := hbV.cell 0
  have v1 := hbV.cell 1
  simp only [List.getElem?_toArray, List.getElem?_cons_zero, List.getElem?_cons_succ] at v0 v1
  have hbl := hbV.lt
  go_wp2_with fail
  refine (refMember_any w9 ep A n c L x h1' (by omega)).mono ?_
  rintro e w9 ⟨rfl, hc9⟩
  rw [hh]
  clear hh
  replace hC := hC.non hc9
  replace hbV := hbV.non hc9
  replace hbR := hbR.non hc9
  replace h1' := h1'.non hc9
  replace hw1s := Nat.le_trans hw1s hc9.size
  clear v0 v1 hc9
  have v0 := hbV.cell 0
  have v1 := hbV.cell 1
  simp only [List.getElem?_toArray, List.getElem?_cons_zero, List.getElem?_cons_succ] at v0 v1
  have H1 := Lib.hid h1'
  clear h1'
  go_wp2_with fail
  obtain ⟨w3, hw3⟩ : ∃ w3, w9.alloc (.cells #[.int .i64 (ep + 1), .slice none 0 0] 26) = w3 := ⟨_, rfl⟩
  have hbO : Blk w3 w9.heap.size 26 #[.int .i64 (ep + 1), .slice none 0 0] := hw3 ▸ Blk.new _ _ _
  have hc3 : Chg Non w9 w3 := hw3 ▸ (Chg.refl _ _).alloc _
  rw [hw3]
  have hbV3 := hbV.non hc3
  have hbR3 := hbR.non hc3
  have hC30 := hC.non hc3
  have H13 := Lib.hid (H1.out.non hc3)
  obtain ⟨g, hg⟩ : ∃ g, w9.heap.size = g := ⟨_, rfl⟩
  rw [hg] at hbO hw1s ⊢
  obtain ⟨b0, hb0⟩ : ∃ b0, w.heap.size = b0 := ⟨_, rfl⟩
  rw [hb0] at hbV3 hbR3 hw1s hA
  have hb0w : b0 ≤ w.heap.size := by omega
  have hb0w' : w.heap.size ≤ b0 := by omega
  rw [hb0]
  clear v0 v1 hbV hbR hC H1 hw3 hc3 hg hb0 hbl D1 D2 D3 D4 hep2 hwr
  go_loopw [11, 12] (fun p i wr => ∃ (k q : Nat) (A2 : Option Addr) (c2 : Nat), k ≤ n ∧ q ≤ 2 * k + 1 ∧ i = .int .i64 k ∧ p = .bool ((L.take k).any fun m => decide (x < m.1)) ∧ Blk wr g 26 #[.int .i64 (ep + 1), .slice A2 q c2] ∧ Blk wr (b0 + 1) 26 #[.int .i64 0, .slice none 0 0] ∧ Blk wr b0 26 #[.int .i64 ep, .slice A n c] ∧ OwnR rkM wr b0 (.slice A2 q c2) q (mv (midM (x, life) (L.take k))) ∧ Chg Non w wr ∧ Hid (Rds wr 2 A n (mv L))) (fun _ i _ => n - (intOf i).toNat)
  case atStart => exact ⟨0, 0, none, 0, Nat.zero_le _, by omega, rfl, rfl, hbO, hbR3, hbV3, OwnR.nil _ _ _, hC30, H13⟩
  case round =>
    clear hbO hbR3 hbV3 hC30 H13
    obtain ⟨k, q, A2, c2, hk, hq, rfl, rfl, hbO, hbR, hbV, hown, hC, H1⟩ := hrel
    have v1 := hbV.cell 1
    simp only [List.getElem?_toArray, List.getElem?_cons_zero, List.getElem?_cons_succ] at v1
    have hvl := hbV.lt
    have hgl := hbO.lt
    by_cases hlt : k < n
    · obtain ⟨ad, y, rfl, hy, a0, a1⟩ := H1.out.getM hlt
      have hTa : ¬ (Value.slice A2 q c2).ownBlock = some ad.block := fun e => by have := hA ad rfl (by omega); have := (hown.lt e).1; omega
      have al := World.block_lt_of_cell? wr _ a0
      have htk : L.take (k + 1) = L.take k ++ [y] := by rw [List.take_add_one, hy]; rfl
      have hany : ((L.take (k + 1)).any fun m => decide (x < m.1)) = (((L.take k).any fun m => decide (x < m.1)) || decide (x < y.1)) := by rw [htk, List.any_append]; simp
      have hT : ∀ m ∈ L.take k, m.1 ≠ x := fun m hm => Hne.out m (List.mem_of_mem_take hm)
      have ma := @mid_any (x, life) (L.take k) y
      have mp := @mid_put (x, life) (L.take k) y
      have mo := @mid_out (x, life) (L.take k) y
      rw [← htk] at ma mp mo
      generalize htk0 : L.take k = T0 at hown hany hT ma mp mo
      clear hy htk htk0
      have hcase : ((T0.any fun m => decide (x < m.1)) = true) ∨ ((T0.any fun m => decide (x < m.1)) = false ∧ ¬ x < y.1) ∨ ((T0.any fun m => decide (x < m.1)) = false ∧ x < y.1) := by
        cases (T0.any fun m => decide (x < m.1)) with
        | true => exact .inl rfl
        | false => by_cases h : x < y.1
                   · exact .inr (.inr ⟨rfl, h⟩)
                   · exact .inr (.inl ⟨rfl, h⟩)
      rcases hcase with hp | ⟨hp, hxy⟩ | ⟨hp, hxy⟩
      · have Hany : Hid (((L.take (k + 1)).any fun m => decide (x < m.1)) = true) := by show _ = _; rw [hany, hp]; rfl
        have Hst := Lib.hid (ma hp)
        rw [hp]
        clear hany hT ma mp mo hp
        generalize midM (x, life) T0 = M at hown Hst
        go_wp2_with fail
        have k1 : ∀ wx, Chg (fun b => (Value.slice A2 (q) c2).ownBlock = some b) wr wx → wx.cell? ⟨g, 1, none⟩ = some (.slice A2 (q) c2) := fun wx h => h.cell (hbO.cell 1) (fun e => hown.apart hbO (by decide) e)
        have kv : ∀ wx, Chg (fun b => (Value.slice A2 (q) c2).ownBlock = some b) wr wx → wx.cell? ⟨b0, 1, none⟩ = some (.slice (some ad) n c) := fun wx h => h.cell (hbV.cell 1) (fun e => hown.apart hbV (by decide) e)
        have ka : ∀ wx, Chg (fun b => (Value.slice A2 (q) c2).ownBlock = some b) wr wx → wx.cell? (ad.add (k * 2)) = some (.int .i64 y.1) := fun wx h => h.cell a0 (by rw [block_add]; exact hTa)
        have kb : ∀ wx, Chg (fun b => (Value.slice A2 (q) c2).ownBlock = some b) wr wx → wx.cell? ⟨(ad.add (k * 2)).block, (ad.add (k * 2)).off + 1, none⟩ = some (.int .i64 y.2) := fun wx h => h.cell a1 (by rw [block_add]; exact hTa)
        clear a0 a1 v1
        refine st_region_tail 8 10 (fun b => (Value.slice A2 (q) c2).ownBlock = some b) [8] [7] (fun _ _ v w2 => OwnR rkM w2 b0 v (q + 1) (mv (M) ++ cellM y) ∧ (∀ b, v.ownBlock = some b → (Value.slice A2 (q) c2).ownBlock = some b ∨ wr.heap.size ≤ b)) (fun _ _ _ _ => True) (fun _ _ v => ∃ A n c, v = .slice A n c) (fun w2 => OwnR rkM w2 b0 (.slice A2 (q) c2) (q) (mv (M))) (by kernel_rfl) (by kernel_rfl) (by kernel_rfl) (fun b h => (hown.lt h).2) hown (fun _ _ h => h.alloc _) ?_
        repeat (first | (refine st_pass (by rfl) ?_; simp only [Act.put, List.setIfInBounds_toArray, List.set_cons_succ, List.set_cons_zero]) | (refine st_plain (fun b => (Value.slice A2 (q) c2).ownBlock = some b) (wr) rfl rfl (f := ?_) (by rfl) rfl rfl (fun w hC hG => ?_) ?_; rotate_left; (clear hG; first | (go_simp; done) | (go_simp; with_reducible rfl) | (simp [*, go_sem, ↓IntWalk.iteOmega]; done) | (simp [*, go_sem, ↓IntWalk.iteOmega]; with_reducible rfl)); simp only [Act.put, List.setIfInBounds_toArray, List.set_cons_succ, List.set_cons_zero]))
        refine st_minor (fun b => (Value.slice A2 (q) c2).ownBlock = some b) wr rfl rfl (ob := .cells #[.int .i64 y.1, .int .i64 y.2] 43) (kd := some (1, 1)) (by rfl) rfl rfl (fun w hC hG => by clear hG; go_simp; rfl) (fun g2 => ?_)
        simp only [Act.put, List.setIfInBounds_toArray, List.set_cons_succ, List.set_cons_zero]
        refine st_major (fun b => (Value.slice A2 (q) c2).ownBlock = some b) (wr) rfl rfl (by rfl) rfl (⟨.slice none 0 0, none, 0, 0, rfl⟩) (fun _ _ _ _ _ _ => trivial) (fun v w ob h => ⟨h.1.alloc ob, h.2⟩) (fun w hC hG hS => ?_) ?_
        · have hB := Rds.blockN (m := 1) (size := 2) (show Blk w g2 43 #[.int .i64 y.1, .int .i64 y.2] from (hG 7 rfl).2) rfl
          refine settle_appR (K := rkM) (.tmp 76) (.tmp 82) rfl hS rfl hB rfl (cellM_one y) (by omega) (by have := hC.size; omega) ?_
          intro v2 w2 i2 i3 i4
          obtain ⟨A4, c4, rfl, _⟩ := i2.open_
          refine ⟨⟨_, _, _, rfl⟩, i3, ⟨i2, fun b hb => ?_⟩, trivial⟩
          rcases i4 with i4 | i4
          · exact .inl (i4 ▸ hb)
          · rw [i4] at hb
            obtain rfl := Option.some.inj hb
            exact .inr (by have := hC.size; omega)
        · rintro v4 ⟨A4, n4, c4, rfl⟩
          simp only [Act.put, List.setIfInBounds_toArray, List.set_cons_succ, List.set_cons_zero]
          repeat (first | (refine st_pass (by rfl) ?_; simp only [Act.put, List.setIfInBounds_toArray, List.set_cons_succ, List.set_cons_zero]) | (refine st_plain (fun b => (Value.slice A2 (q) c2).ownBlock = some b) (wr) rfl rfl (f := ?_) (by rfl) rfl rfl (fun w hC hG => ?_) ?_; rotate_left; (clear hG; first | (go_simp; done) | (go_simp; with_reducible rfl) | (simp [*, go_sem, ↓IntWalk.iteOmega]; done) | (simp [*, go_sem, ↓IntWalk.iteOmega]; with_reducible rfl)); simp only [Act.put, List.setIfInBounds_toArray, List.set_cons_succ, List.set_cons_zero]))
          refine st_tail (fun b => (Value.slice A2 (q) c2).ownBlock = some b) wr rfl rfl rfl (fun w7 hC7 hS7 _ => ?_)
          simp only [List.drop_succ_cons, List.drop_zero]
          obtain ⟨ho7, hob7⟩ := hS7
          obtain ⟨A5, c5, hv5, _⟩ := ho7.open_
          injection hv5 with e1 e2 e3
          subst e1 e2 e3
          have hbO7 := hbO.chg hC7 (fun e => hown.apart hbO (by decide) e)
          have hbV7 := hbV.chg hC7 (fun e => hown.apart hbV (by decide) e)
          have hbR7 := hbR.chg hC7 (fun e => hown.apart hbR (by decide) e)
          have c17 : w7.cell? ⟨g, 1, none⟩ = some (.slice A2 (q) c2) := hbO7.cell 1
          have f17 := hbO7.frozen 1
          have H17 := H1.out.chg hC7 (fun ad2 e => by obtain rfl := Option.some.inj e; exact hTa)
          have hS : Chg (fun b => b = g) w7 (w7.setCell ⟨g, 1, none⟩ (.slice A4 (q + 1) c4)) := (Chg.refl _ _).set1 1 _
          have hbO8 := hbO7.put 1 (.slice A4 (q + 1) c4)
          simp only [List.setIfInBounds_toArray, List.set_cons_succ, List.set_cons_zero] at hbO8
          have hbV8 := hbV7.chg hS (fun e => by have e : b0 = g := e; omega)
          have hbR8 := hbR7.chg hS (fun e => by have e : b0 + 1 = g := e; omega)
          have ho8 := ho7.chg hS (fun b hb e => ho7.apart hbO7 (by decide) (by rw [hb, show b = g from e]))
          have H18 := Lib.hid (H17.chg hS (fun ad2 e e2 => by obtain rfl := Option.some.inj e; have := hA ad rfl (by omega); have e2 : ad.block = g := e2; omega))
          have hC70 : Chg Non w w7 := hC.trans2 hC7 (fun b e => .inr (by have := (hown.lt e).1; omega))
          have hC80 := hC70.setCell (p := ⟨g, 1, none⟩) (.inr (by show w.heap.size ≤ g; omega)) (.slice A4 (q + 1) c4)
          rw [← mv_snoc, ← Hst.out] at ho8
          have Ho8 := Lib.hid ho8
          clear ho8 ho7 hob7 hC7 k1 kv ka kb hown H17 hbO hbV hbR hbV7 hbR7 hC70 hS hC H1
          go_wp2_with fail
          go_roundw
          case rel => exact ⟨k + 1, q + 1, A4, c4, by omega, by omega, by go_num, by rw [Hany.out], hbO8, hbR8, hbV8, Ho8.out, hC80, H18⟩
          case measure => simp [intOf]; omega
      · have Hany : Hid (((L.take (k + 1)).any fun m => decide (x < m.1)) = false) := by show _ = _; rw [hany, hp, decide_eq_false hxy]; rfl
        have Hst := Lib.hid (mo hp hxy)
        have hxy2 : y.1 ≤ x := by omega
        rw [hp]
        clear hany hT ma mp mo hp hxy
        generalize midM (x, life) T0 = M at hown Hst
        go_wp2_with fail
        have k1 : ∀ wx, Chg (fun b => (Value.slice A2 (q) c2).ownBlock = some b) wr wx → wx.cell? ⟨g, 1, none⟩ = some (.slice A2 (q) c2) := fun wx h => h.cell (hbO.cell 1) (fun e => hown.apart hbO (by decide) e)
        have kv : ∀ wx, Chg (fun b => (Value.slice A2 (q) c2).ownBlock = some b) wr wx → wx.cell? ⟨b0, 1, none⟩ = some (.slice (some ad) n c) := fun wx h => h.cell (hbV.cell 1) (fun e => hown.apart hbV (by decide) e)
        have ka : ∀ wx, Chg (fun b => (Value.slice A2 (q) c2).ownBlock = some b) wr wx → wx.cell? (ad.add (k * 2)) = some (.int .i64 y.1) := fun wx h => h.cell a0 (by rw [block_add]; exact hTa)
        have kb : ∀ wx, Chg (fun b => (Value.slice A2 (q) c2).ownBlock = some b) wr wx → wx.cell? ⟨(ad.add (k * 2)).block, (ad.add (k * 2)).off + 1, none⟩ = some (.int .i64 y.2) := fun wx h => h.cell a1 (by rw [block_add]; exact hTa)
        clear a0 a1 v1
        refine st_region_tail 8 10 (fun b => (Value.slice A2 (q) c2).ownBlock = some b) [8] [7] (fun _ _ v w2 => OwnR rkM w2 b0 v (q + 1) (mv (M) ++ cellM y) ∧ (∀ b, v.ownBlock = some b → (Value.slice A2 (q) c2).ownBlock = some b ∨ wr.heap.size ≤ b)) (fun _ _ _ _ => True) (fun _ _ v => ∃ A n c, v = .slice A n c) (fun w2 => OwnR rkM w2 b0 (.slice A2 (q) c2) (q) (mv (M))) (by kernel_rfl) (by kernel_rfl) (by kernel_rfl) (fun b h => (hown.lt h).2) hown (fun _ _ h => h.alloc _) ?_
        repeat (first | (refine st_pass (by rfl) ?_; simp only [Act.put, List.setIfInBounds_toArray, List.set_cons_succ, List.set_cons_zero]) | (refine st_plain (fun b => (Value.slice A2 (q) c2).ownBlock = some b) (wr) rfl rfl (f := ?_) (by rfl) rfl rfl (fun w hC hG => ?_) ?_; rotate_left; (clear hG; first | (go_simp; done) | (go_simp; with_reducible rfl) | (simp [*, go_sem, ↓IntWalk.iteOmega]; done) | (simp [*, go_sem, ↓IntWalk.iteOmega]; with_reducible rfl)); simp only [Act.put, List.setIfInBounds_toArray, List.set_cons_succ, List.set_cons_zero]))
        refine st_minor (fun b => (Value.slice A2 (q) c2).ownBlock = some b) wr rfl rfl (ob := .cells #[.int .i64 y.1, .int .i64 y.2] 43) (kd := some (1, 1)) (by rfl) rfl rfl (fun w hC hG => by clear hG; go_simp; rfl) (fun g2 => ?_)
        simp only [Act.put, List.setIfInBounds_toArray, List.set_cons_succ, List.set_cons_zero]
        refine st_major (fun b => (Value.slice A2 (q) c2).ownBlock = some b) (wr) rfl rfl (by rfl) rfl (⟨.slice none 0 0, none, 0, 0, rfl⟩) (fun _ _ _ _ _ _ => trivial) (fun v w ob h => ⟨h.1.alloc ob, h.2⟩) (fun w hC hG hS => ?_) ?_
        · have hB := Rds.blockN (m := 1) (size := 2) (show Blk w g2 43 #[.int .i64 y.1, .int .i64 y.2] from (hG 7 rfl).2) rfl
          refine settle_appR (K := rkM) (.tmp 76) (.tmp 82) rfl hS rfl hB rfl (cellM_one y) (by omega) (by have := hC.size; omega) ?_
          intro v2 w2 i2 i3 i4
          obtain ⟨A4, c4, rfl, _⟩ := i2.open_
          refine ⟨⟨_, _, _, rfl⟩, i3, ⟨i2, fun b hb => ?_⟩, trivial⟩
          rcases i4 with i4 | i4
          · exact .inl (i4 ▸ hb)
          · rw [i4] at hb
            obtain rfl := Option.some.inj hb
            exact .inr (by have := hC.size; omega)
        · rintro v4 ⟨A4, n4, c4, rfl⟩
          simp only [Act.put, List.setIfInBounds_toArray, List.set_cons_succ, List.set_cons_zero]
          repeat (first | (refine st_pass (by rfl) ?_; simp only [Act.put, List.setIfInBounds_toArray, List.set_cons_succ, List.set_cons_zero]) | (refine st_plain (fun b => (Value.slice A2 (q) c2).ownBlock = some b) (wr) rfl rfl (f := ?_) (by rfl) rfl rfl (fun w hC hG => ?_) ?_; rotate_left; (clear hG; first | (go_simp; done) | (go_simp; with_reducible rfl) | (simp [*, go_sem, ↓IntWalk.iteOmega]; done) | (simp [*, go_sem, ↓IntWalk.iteOmega]; with_reducible rfl)); simp only [Act.put, List.setIfInBounds_toArray, List.set_cons_succ, List.set_cons_zero]))
          refine st_tail (fun b => (Value.slice A2 (q) c2).ownBlock = some b) wr rfl rfl rfl (fun w7 hC7 hS7 _ => ?_)
          simp only [List.drop_succ_cons, List.drop_zero]
          obtain ⟨ho7, hob7⟩ := hS7
          obtain ⟨A5, c5, hv5, _⟩ := ho7.open_
          injection hv5 with e1 e2 e3
          subst e1 e2 e3
          have hbO7 := hbO.chg hC7 (fun e => hown.apart hbO (by decide) e)
          have hbV7 := hbV.chg hC7 (fun e => hown.apart hbV (by decide) e)
          have hbR7 := hbR.chg hC7 (fun e => hown.apart hbR (by decide) e)
          have c17 : w7.cell? ⟨g, 1, none⟩ = some (.slice A2 (q) c2) := hbO7.cell 1
          have f17 := hbO7.frozen 1
          have H17 := H1.out.chg hC7 (fun ad2 e => by obtain rfl := Option.some.inj e; exact hTa)
          have hS : Chg (fun b => b = g) w7 (w7.setCell ⟨g, 1, none⟩ (.slice A4 (q + 1) c4)) := (Chg.refl _ _).set1 1 _
          have hbO8 := hbO7.put 1 (.slice A4 (q + 1) c4)
          simp only [List.setIfInBounds_toArray, List.set_cons_succ, List.set_cons_zero] at hbO8
          have hbV8 := hbV7.chg hS (fun e => by have e : b0 = g := e; omega)
          have hbR8 := hbR7.chg hS (fun e => by have e : b0 + 1 = g := e; omega)
          have ho8 := ho7.chg hS (fun b hb e => ho7.apart hbO7 (by decide) (by rw [hb, show b = g from e]))
          have H18 := Lib.hid (H17.chg hS (fun ad2 e e2 => by obtain rfl := Option.some.inj e; have := hA ad rfl (by omega); have e2 : ad.block = g := e2; omega))
          have hC70 : Chg Non w w7 := hC.trans2 hC7 (fun b e => .inr (by have := (hown.lt e).1; omega))
          have hC80 := hC70.setCell (p := ⟨g, 1, none⟩) (.inr (by show w.heap.size ≤ g; omega)) (.slice A4 (q + 1) c4)
          rw [← mv_snoc, ← Hst.out] at ho8
          have Ho8 := Lib.hid ho8
          clear ho8 ho7 hob7 hC7 k1 kv ka kb hown H17 hbO hbV hbR hbV7 hbR7 hC70 hS hC H1
          go_wp2_with fail
          go_roundw
          case rel => exact ⟨k + 1, q + 1, A4, c4, by omega, by omega, by go_num, by rw [Hany.out], hbO8, hbR8, hbV8, Ho8.out, hC80, H18⟩
          case measure => simp [intOf]; omega
      · have Hany : Hid (((L.take (k + 1)).any fun m => decide (x < m.1)) = true) := by show _ = _; rw [hany, hp, decide_eq_true hxy]; rfl
        have Hst := Lib.hid (mp hp hxy hT)
        rw [hp]
        clear hany hT ma mp mo hp
        generalize midM (x, life) T0 = M at hown Hst
        have g1 := hbO.cell 1
        simp only [List.getElem?_toArray, List.getElem?_cons_zero, List.getElem?_cons_succ] at g1
        go_wp2_with (at_builtin; refine appR1 (K := rkM) rfl (.tmp 68) (.tmp 72) rfl hown rfl (cs := #[.int .i64 x, .int .i64 life]) rfl rfl (cellM_one (x, life)) ?_ ?_ ?_; (next => omega); (next => have := hC.size; omega); intro v6 w6 h6 hc6 hv6; obtain ⟨A6, c6, rfl, _⟩ := h6.open_; have hb16 := hbO.chg hc6 (fun e => hown.apart hbO (by decide) e); have c16 := hb16.cell 1; have f16 := hb16.frozen 1; simp only [List.getElem?_toArray, List.getElem?_cons_zero, List.getElem?_cons_succ] at c16)
        have hbV6 := hbV.chg hc6 (fun e => hown.apart hbV (by decide) e)
        have hbR6 := hbR.chg hc6 (fun e => hown.apart hbR (by decide) e)
        have hC6 : Chg Non w w6 := hC.trans2 hc6 (fun b e => .inr (by have := (hown.lt e).1; omega))
        have H16 := H1.out.chg hc6 (fun ad2 e => by obtain rfl := Option.some.inj e; exact hTa)
        have a06 := hc6.cell a0 (by rw [block_add]; exact hTa)
        have a16 := hc6.cell a1 (by rw [block_add]; exact hTa)
        obtain ⟨wz, hwz⟩ : ∃ wz, w6.setCell ⟨g, 1, none⟩ (.slice A6 (q + 1) c6) = wz := ⟨_, rfl⟩
        have hS : Chg (fun b => b = g) w6 wz := hwz ▸ (Chg.refl _ _).set1 1 _
        rw [hwz]
        have hbOz := hb16.put 1 (.slice A6 (q + 1) c6)
        simp only [List.setIfInBounds_toArray, List.set_cons_succ, List.set_cons_zero] at hbOz
        rw [hwz] at hbOz
        have hbVz := hbV6.chg hS (fun e => by have e : b0 = g := e; omega)
        have hbRz := hbR6.chg hS (fun e => by have e : b0 + 1 = g := e; omega)
        have hoz := h6.chg hS (fun b hb e => h6.apart hb16 (by decide) (by rw [hb, show b = g from e]))
        rw [show mv M ++ (#[.int .i64 x, .int .i64 life] : Array Value).toList = mv (M ++ [(x, life)]) from (mv_snoc M (x, life)).symm] at hoz
        have hagb : ad.block ≠ g := fun e => by have := hA ad rfl (by omega); omega
        have H1z := Lib.hid (H16.chg hS (fun ad2 e e2 => by obtain rfl := Option.some.inj e; exact hagb e2))
        have hCz : Chg Non w wz := hwz ▸ hC6.setCell (p := ⟨g, 1, none⟩) (.inr (by show w.heap.size ≤ g; omega)) (.slice A6 (q + 1) c6)
        have a0z := hS.cell a06 (by rw [block_add]; exact hagb)
        have a1z := hS.cell a16 (by rw [block_add]; exact hagb)
        have alz := World.block_lt_of_cell? wz _ a0z
        have v1z := hbVz.cell 1
        simp only [List.getElem?_toArray, List.getElem?_cons_zero, List.getElem?_cons_succ] at v1z
        have hTa2 : ¬ (Value.slice A6 (q + 1) c6).ownBlock = some ad.block := fun e => by have := hA ad rfl (by omega); have := (hoz.lt e).1; omega
        have hzl := hbVz.lt
        have hgz := hbOz.lt
        clear hS hbV6 hbR6 hC6 H16 a06 a16 h6 hc6 hv6 hb16 c16 f16 hwz hown hbO hbV hbR hC H1 a0 a1 v1 al hvl hgl hTa g1
        have hTa := hTa2
        have v1 := v1z
        clear hTa2 v1z
        go_wp2_with fail
        have k1 : ∀ wx, Chg (fun b => (Value.slice A6 (q + 1) c6).ownBlock = some b) wz wx → wx.cell? ⟨g, 1, none⟩ = some (.slice A6 (q + 1) c6) := fun wx h => h.cell (hbOz.cell 1) (fun e => hoz.apart hbOz (by decide) e)
        have kv : ∀ wx, Chg (fun b => (Value.slice A6 (q + 1) c6).ownBlock = some b) wz wx → wx.cell? ⟨b0, 1, none⟩ = some (.slice (some ad) n c) := fun wx h => h.cell (hbVz.cell 1) (fun e => hoz.apart hbVz (by decide) e)
        have ka : ∀ wx, Chg (fun b => (Value.slice A6 (q + 1) c6).ownBlock = some b) wz wx → wx.cell? (ad.add (k * 2)) = some (.int .i64 y.1) := fun wx h => h.cell a0z (by rw [block_add]; exact hTa)
        have kb : ∀ wx, Chg (fun b => (Value.slice A6 (q + 1) c6).ownBlock = some b) wz wx → wx.cell? ⟨(ad.add (k * 2)).block, (ad.add (k * 2)).off + 1, none⟩ = some (.int .i64 y.2) := fun wx h => h.cell a1z (by rw [block_add]; exact hTa)
        clear a0z a1z v1
        refine st_region_tail 8 10 (fun b => (Value.slice A6 (q + 1) c6).ownBlock = some b) [8] [7] (fun _ _ v w2 => OwnR rkM w2 b0 v (q + 1 + 1) (mv (M ++ [(x, life)]) ++ cellM y) ∧ (∀ b, v.ownBlock = some b → (Value.slice A6 (q + 1) c6).ownBlock = some b ∨ wz.heap.size ≤ b)) (fun _ _ _ _ => True) (fun _ _ v => ∃ A n c, v = .slice A n c) (fun w2 => OwnR rkM w2 b0 (.slice A6 (q + 1) c6) (q + 1) (mv (M ++ [(x, life)]))) (by kernel_rfl) (by kernel_rfl) (by kernel_rfl) (fun b h => (hoz.lt h).2) hoz (fun _ _ h => h.alloc _) ?_
        repeat (first | (refine st_pass (by rfl) ?_; simp only [Act.put, List.setIfInBounds_toArray, List.set_cons_succ, List.set_cons_zero]) | (refine st_plain (fun b => (Value.slice A6 (q + 1) c6).ownBlock = some b) (wz) rfl rfl (f := ?_) (by rfl) rfl rfl (fun w hC hG => ?_) ?_; rotate_left; (clear hG; first | (go_simp; done) | (go_simp; with_reducible rfl) | (simp [*, go_sem, ↓IntWalk.iteOmega]; done) | (simp [*, go_sem, ↓IntWalk.iteOmega]; with_reducible rfl)); simp only [Act.put, List.setIfInBounds_toArray, List.set_cons_succ, List.set_cons_zero]))
        refine st_minor (fun b => (Value.slice A6 (q + 1) c6).ownBlock = some b) wz rfl rfl (ob := .cells #[.int .i64 y.1, .int .i64 y.2] 43) (kd := some (1, 1)) (by rfl) rfl rfl (fun w hC hG => by clear hG; go_simp; rfl) (fun g2 => ?_)
        simp only [Act.put, List.setIfInBounds_toArray, List.set_cons_succ, List.set_cons_zero]
        refine st_major (fun b => (Value.slice A6 (q + 1) c6).ownBlock = some b) (wz) rfl rfl (by rfl) rfl (⟨.slice none 0 0, none, 0, 0, rfl⟩) (fun _ _ _ _ _ _ => trivial) (fun v w ob h => ⟨h.1.alloc ob, h.2⟩) (fun w hC hG hS => ?_) ?_
        · have hB := Rds.blockN (m := 1) (size := 2) (show Blk w g2 43 #[.int .i64 y.1, .int .i64 y.2] from (hG 7 rfl).2) rfl
          refine settle_appR (K := rkM) (.tmp 76) (.tmp 82) rfl hS rfl hB rfl (cellM_one y) (by omega) (by have := hC.size; omega) ?_
          intro v2 w2 i2 i3 i4
          obtain ⟨A4, c4, rfl, _⟩ := i2.open_
          refine ⟨⟨_, _, _, rfl⟩, i3, ⟨i2, fun b hb => ?_⟩, trivial⟩
          rcases i4 with i4 | i4
          · exact .inl (i4 ▸ hb)
          · rw [i4] at hb
            obtain rfl := Option.some.inj hb
            exact .inr (by have := hC.size; omega)
        · rintro v4 ⟨A4, n4, c4, rfl⟩
          simp only [Act.put, List.setIfInBounds_toArray, List.set_cons_succ, List.set_cons_zero]
          repeat (first | (refine st_pass (by rfl) ?_; simp only [Act.put, List.setIfInBounds_toArray, List.set_cons_succ, List.set_cons_zero]) | (refine st_plain (fun b => (Value.slice A6 (q + 1) c6).ownBlock = some b) (wz) rfl rfl (f := ?_) (by rfl) rfl rfl (fun w hC hG => ?_) ?_; rotate_left; (clear hG; first | (go_simp; done) | (go_simp; with_reducible rfl) | (simp [*, go_sem, ↓IntWalk.iteOmega]; done) | (simp [*, go_sem, ↓IntWalk.iteOmega]; with_reducible rfl)); simp only [Act.put, List.setIfInBounds_toArray, List.set_cons_succ, List.set_cons_zero]))
          refine st_tail (fun b => (Value.slice A6 (q + 1) c6).ownBlock = some b) wz rfl rfl rfl (fun w7 hC7 hS7 _ => ?_)
          simp only [List.drop_succ_cons, List.drop_zero]
          obtain ⟨ho7, hob7⟩ := hS7
          obtain ⟨A5, c5, hv5, _⟩ := ho7.open_
          injection hv5 with e1 e2 e3
          subst e1 e2 e3
          have hbO7 := hbOz.chg hC7 (fun e => hoz.apart hbOz (by decide) e)
          have hbV7 := hbVz.chg hC7 (fun e => hoz.apart hbVz (by decide) e)
          have hbR7 := hbRz.chg hC7 (fun e => hoz.apart hbRz (by decide) e)
          have c17 : w7.cell? ⟨g, 1, none⟩ = some (.slice A6 (q + 1) c6) := hbO7.cell 1
          have f17 := hbO7.frozen 1
          have H17 := H1z.out.chg hC7 (fun ad2 e => by obtain rfl := Option.some.inj e; exact hTa)
          have hS : Chg (fun b => b = g) w7 (w7.setCell ⟨g, 1, none⟩ (.slice A4 (q + 1 + 1) c4)) := (Chg.refl _ _).set1 1 _
          have hbO8 := hbO7.put 1 (.slice A4 (q + 1 + 1) c4)
          simp only [List.setIfInBounds_toArray, List.set_cons_succ, List.set_cons_zero] at hbO8
          have hbV8 := hbV7.chg hS (fun e => by have e : b0 = g := e; omega)
          have hbR8 := hbR7.chg hS (fun e => by have e : b0 + 1 = g := e; omega)
          have ho8 := ho7.chg hS (fun b hb e => ho7.apart hbO7 (by decide) (by rw [hb, show b = g from e]))
          have H18 := Lib.hid (H17.chg hS (fun ad2 e e2 => by obtain rfl := Option.some.inj e; have := hA ad rfl (by omega); have e2 : ad.block = g := e2; omega))
          have hC70 : Chg Non w w7 := hCz.trans2 hC7 (fun b e => .inr (by have := (hoz.lt e).1; omega))
          have hC80 := hC70.setCell (p := ⟨g, 1, none⟩) (.inr (by show w.heap.size ≤ g; omega)) (.slice A4 (q + 1 + 1) c4)
          rw [← mv_snoc, ← Hst.out] at ho8
          have Ho8 := Lib.hid ho8
          clear ho8 ho7 hob7 hC7 k1 kv ka kb hoz H17 hbOz hbVz hbRz hbV7 hbR7 hC70 hS hCz H1z
          go_wp2_with fail
          go_roundw
          case rel => exact ⟨k + 1, q + 1 + 1, A4, c4, by omega, by omega, by go_num, by rw [Hany.out], hbO8, hbR8, hbV8, Ho8.out, hC80, H18⟩
          case measure => simp [intOf]; omega
    · have hst : L.take k = L := List.take_of_length_le (by have := Hll.out; omega)
      rw [hst] at hown ⊢
      clear hst
      have c0 := hbO.cell 0
      have c1 := hbO.cell 1
      have d0 := hbR.cell 0
      have d1 := hbR.cell 1
      have e0 := hbR.frozen 0
      have e1 := hbR.frozen 1
      simp only [List.getElem?_toArray, List.getElem?_cons_zero, List.getElem?_cons_succ] at c0 c1 d0 d1
      cases hp : (L.any fun m => decide (x < m.1)) with
      | true =>
        have hmid : midM (x, life) L = insM (x, life) L := by unfold midM; rw [if_pos hp]
        rw [hmid] at hown
        clear hmid hp
        have hb2 := (hbR.put 0 (.int .i64 (ep + 1))).put 1 (.slice A2 q c2)
        simp only [List.setIfInBounds_toArray, List.set_cons_succ, List.set_cons_zero] at hb2
        have r0 := hb2.cell 0
        have r1 := hb2.cell 1
        simp only [List.getElem?_toArray, List.getElem?_cons_zero, List.getElem?_cons_succ] at r0 r1
        have hS : Chg (fun b => b = b0 + 1) wr ((wr.setCell ⟨b0 + 1, 0, none⟩ (.int .i64 (ep + 1))).setCell ⟨b0 + 1, 1, none⟩ (.slice A2 q c2)) := ((Chg.refl _ _).set1 0 _).set1 1 _
        have hwin := (Win.of_own hown).chg hS (fun b hb e => hown.apart hbR (by decide) (by rw [hb, show b = b0 + 1 from e]))
        have hC2 := hC.trans2 hS (fun b e => .inr (by have e : b = b0 + 1 := e; omega))
        have hge := fun b (hb : (Value.slice A2 q c2).ownBlock = some b) => Nat.le_trans hb0w' (hown.lt hb).1
        have hfin : VwR w (ep + 1) (insM (x, life) L) 0 (.returned (.tuple #[.agg #[.int .i64 (ep + 1), .slice A2 q c2], .int .i64 0])) _ := ⟨A2, q, c2, rfl, hwin, hge, hC2⟩
        have Hfin := Lib.hid hfin
        clear hown hbO hb2 hbV hbR hwin hC2 hge hfin
        go_wp2_with fail
        exact bodyPost_ret (v := .tuple #[.agg #[.int .i64 (ep + 1), .slice A2 q c2], .int .i64 0]) (by simp [results, Try.results21, go_sem, r0, r1]) rfl Hfin.out
      | false =>
        have hmid : midM (x, life) L ++ [(x, life)] = insM (x, life) L := by rw [ins_out (x, life) hp Hne.out]; unfold midM; rw [if_neg (by rw [hp]; exact Bool.false_ne_true)]
        have Hmid := Lib.hid hmid
        clear hmid hp
        generalize midM (x, life) L = M at hown Hmid
        go_wp2_with (at_builtin; refine appR1 (K := rkM) rfl (.tmp 88) (.tmp 92) rfl hown rfl (cs := #[.int .i64 x, .int .i64 life]) rfl rfl (cellM_one (x, life)) ?_ ?_ ?_; (next => omega); (next => have := hC.size; omega); intro v6 w6 h6 hc6 hv6; obtain ⟨A6, c6, rfl, _⟩ := h6.open_; have hb16 := hbO.chg hc6 (fun e => hown.apart hbO (by decide) e); have c16 := hb16.cell 1; have c06 := hb16.cell 0; have f16 := hb16.frozen 1; have f06 := hb16.frozen 0; simp only [List.getElem?_toArray, List.getElem?_cons_zero, List.getElem?_cons_succ] at c16 c06; have hbR6 := hbR.chg hc6 (fun e => hown.apart hbR (by decide) e); obtain ⟨wz, hwz⟩ : ∃ wz, w6.setCell ⟨g, 1, none⟩ (.slice A6 (q + 1) c6) = wz := ⟨_, rfl⟩; have hS : Chg (fun b => b = g) w6 wz := hwz ▸ (Chg.refl _ _).set1 1 _; have hbOz := hb16.put 1 (.slice A6 (q + 1) c6); simp only [List.setIfInBounds_toArray, List.set_cons_succ, List.set_cons_zero] at hbOz; rw [hwz] at hbOz; have hbRz := hbR6.chg hS (fun e => by have e : b0 + 1 = g := e; omega); have o0 := hbOz.cell 0; have o1 := hbOz.cell 1; have d0 := hbRz.cell 0; have d1 := hbRz.cell 1; have e0 := hbRz.frozen 0; have e1 := hbRz.frozen 1; simp only [List.getElem?_toArray, List.getElem?_cons_zero, List.getElem?_cons_succ] at o0 o1 d0 d1)
        have hC6 : Chg Non w w6 := hC.trans2 hc6 (fun b e => .inr (by have := (hown.lt e).1; omega))
        have hoz := h6.chg hS (fun b hb e => h6.apart hb16 (by decide) (by rw [hb, show b = g from e]))
        rw [show mv M ++ (#[.int .i64 x, .int .i64 life] : Array Value).toList = mv (M ++ [(x, life)]) from (mv_snoc M (x, life)).symm, Hmid.out] at hoz
        have hCz : Chg Non w wz := hwz ▸ hC6.setCell (p := ⟨g, 1, none⟩) (.inr (by show w.heap.size ≤ g; omega)) (.slice A6 (q + 1) c6)
        have hb2 := (hbRz.put 0 (.int .i64 (ep + 1))).put 1 (.slice A6 (q + 1) c6)
        simp only [List.setIfInBounds_toArray, List.set_cons_succ, List.set_cons_zero] at hb2
        have r0 := hb2.cell 0
        have r1 := hb2.cell 1
        simp only [List.getElem?_toArray, List.getElem?_cons_zero, List.getElem?_cons_succ] at r0 r1
        have hS2 : Chg (fun b => b = b0 + 1) wz ((wz.setCell ⟨b0 + 1, 0, none⟩ (.int .i64 (ep + 1))).setCell ⟨b0 + 1, 1, none⟩ (.slice A6 (q + 1) c6)) := ((Chg.refl _ _).set1 0 _).set1 1 _
        have hwin := (Win.of_own hoz).chg hS2 (fun b hb e => hoz.apart hbRz (by decide) (by rw [hb, show b = b0 + 1 from e]))
        have hC2 := hCz.trans2 hS2 (fun b e => .inr (by have e : b = b0 + 1 := e; omega))
        have hge := fun b (hb : (Value.slice A6 (q + 1) c6).ownBlock = some b) => Nat.le_trans hb0w' (hoz.lt hb).1
        have hfin : VwR w (ep + 1) (insM (x, life) L) 0 (.returned (.tuple #[.agg #[.int .i64 (ep + 1), .slice A6 (q + 1) c6], .int .i64 0])) _ := ⟨A6, q + 1, c6, rfl, hwin, hge, hC2⟩
        have Hfin := Lib.hid hfin
        clear hown hbO hb2 hbV hbR hwin hC2 hge hfin hoz h6 hC6 hCz hbOz hbRz hb16
        try go_wp2_with fail
        exact bodyPost_ret (v := .tuple #[.agg #[.int .i64 (ep + 1), .slice A6 (q + 1) c6], .int .i64 0]) (by simp [results, Try.results21, go_sem, r0, r1]) rfl Hfin.out

end Go.Proofs.Ytojlglkefiddnaa
