/-
  gleanerref4.depths: the walk.
  gleanerref4.checkFunc: what it takes is sound.
-/
import Derived.Test.YteinbdifncdaiaaTdDeepIns
import Derived.Test.YteinbdifncdaiaaTdRegionM
namespace Go.Proofs.Yteinbdifncdaiaa
open Go.RowKit
set_option linter.unusedVariables false
set_option linter.unusedSimpArgs false

theorem FnsAt.non {w w2 : World} {A : Option Addr} {n : Nat} {F : List Fn} (h : FnsAt w A n F) (hc : Chg Non w w2) : FnsAt w2 A n F := ⟨h.rds.non hc, h.le⟩
theorem countP_rep (n : Nat) : (List.replicate n false).countP (fun b => !b) = n := by
  rw [List.countP_replicate]
  simp
/-- How the search begins. -/
theorem dst_start {F : List Fn} {code : List (Int × Int)} {D : List Int} (hl : D.length = code.length) (h0 : 0 < code.length → D[0]? = some 0) (h1 : ∀ p, 1 ≤ p → p < code.length → D[p]? = some (-1)) : Dst F code D (List.replicate code.length false) := by
  have hall : ∀ (p : Nat) (d : Int), D[p]? = some d → (p = 0 ∧ d = 0) ∨ d = -1 := fun p d h => by
    have hp := (List.getElem?_eq_some_iff.1 h).1
    rw [hl] at hp
    by_cases e : p = 0
    · subst e
      rw [h0 hp] at h
      exact .inl ⟨rfl, (Option.some.inj h).symm⟩
    · rw [h1 p (by omega) hp] at h
      exact .inr (Option.some.inj h).symm
  refine ⟨hl, by simp, h0, fun d hd => ?_, fun D2 h2 p d h hd => ?_, fun p i ho hi => ?_⟩
  · obtain ⟨p, hp⟩ := List.getElem?_of_mem hd
    rcases hall p d hp with ⟨_, e⟩ | e <;> omega
  · rcases hall p d h with ⟨rfl, rfl⟩ | e
    · exact h2.zero (by have := (List.getElem?_eq_some_iff.1 h).1; omega)
    · omega
  · rw [List.getElem?_replicate] at ho
    split at ho <;> simp at ho
set_option maxRecDepth 100000 in
set_option maxHeartbeats 16000000 in
theorem refDepths_any (w : World) (j : Jb) (f : Fn) (hF : FnsAt w j.fA j.fn j.F) (hC : Rds w 2 f.cA f.cn (f.code.flatMap cellI)) (hcn : f.cn ≤ 256) (hins : ∀ i ∈ f.code, InsOk j.fn f i) :
    Calls Try.prog 46 #[.agg (jbC j), .agg (fnC f)] w (DepPost w j f) := by
  have Hcl : Hid (f.cn = f.code.length) := flat_eq cellI_len (by decide) hC
  obtain ⟨w2, hw2⟩ : ∃ w2, (w.alloc (.cells (jbC j) 48)).alloc (.cells (fnC f) 67) = w2 := ⟨_, rfl⟩
  have hc2 : Chg Non w w2 := hw2 ▸ ((Chg.refl _ _).alloc _).alloc _
  have hbJ : Blk w2 w.heap.size 48 (jbC j) := hw2 ▸ (Blk.new w _ _).alloc _
  have hbF : Blk w2 (w.heap.size + 1) 67 (fnC f) := by
    have := Blk.new (w.alloc (.cells (jbC j) 48)) 67 (fnC f)
    rw [hw2, World.size_alloc] at this
    exact this
  have hs2 : w2.heap.size = w.heap.size + 2 := by rw [← hw2, World.size_alloc, World.size_alloc]
  have f3 : w2.cell? ⟨w.heap.size + 1, 3, none⟩ = some (.slice f.cA f.cn f.cc) := hbF.cell 3
  have fl := hbF.lt
  have mk1 := mk_ints f.cn (by omega)
  have mk2 := mk_bools f.cn (by omega)
  rw [show ((List.replicate f.cn false).map Value.bool).toArray = Array.replicate f.cn (Value.bool false) by simp] at mk2
  obtain ⟨w3, hw3⟩ : ∃ w3, w2.alloc (.cells (iv (List.replicate f.cn 0)).toArray 3) = w3 := ⟨_, rfl⟩
  obtain ⟨w4, hw4⟩ : ∃ w4, w3.alloc (.cells (Array.replicate f.cn (Value.bool false)) 4) = w4 := ⟨_, rfl⟩
  have HF := Lib.hid hF
  have HC := Lib.hid hC
  have HI := Lib.hid hins
  have HJ2 := Lib.hid hbJ
  have HF2 := Lib.hid hbF
  have Hc2 := Lib.hid hc2
  have hc3 : Chg Non w2 w3 := hw3 ▸ (Chg.refl _ _).alloc _
  have hc4 : Chg Non w3 w4 := hw4 ▸ (Chg.refl _ _).alloc _
  obtain ⟨bD, hbD⟩ : ∃ b, w2.heap.size = b := ⟨_, rfl⟩
  have hs3 : w3.heap.size = bD + 1 := by rw [← hw3, World.size_alloc, hbD]
  have hB3 : Blk w3 bD 3 (iv (List.replicate f.cn 0)).toArray := hbD ▸ hw3 ▸ Blk.new _ _ _
  have hB4 := hB3.non hc4
  have hO4 : Blk w4 (bD + 1) 4 ((List.replicate f.cn false).map Value.bool).toArray := by
    rw [show ((List.replicate f.cn false).map Value.bool).toArray = Array.replicate f.cn (Value.bool false) by simp]
    exact hs3 ▸ hw4 ▸ Blk.new _ _ _
  obtain ⟨n, hn⟩ : ∃ n, f.cn = n := ⟨_, rfl⟩
  rw [hn] at f3 mk1 mk2 hw3 hw4 hcn Hcl hB4 hO4
  unfold jbC fnC at hw2
  unfold jbC fnC
  rw [hn] at hw2 ⊢
  have f33 := hc3.cell f3 id
  have fl3 : w.heap.size + 1 < w3.heap.size := Nat.lt_of_lt_of_le fl hc3.size
  have Hn := Lib.hid hn
  have HB4 := Lib.hid hB4
  have HO4 := Lib.hid hO4
  have Hc34 := Lib.hid (hc3.non hc4)
  have hbw : bD = w.heap.size + 2 := by omega
  have Hbw := Lib.hid hbw
  clear hF hC hins hbJ hbF hc2 hn hB3 hB4 hO4 hc3 hc4 hbw hs2
  go_enter Try.func46, Try.ntmps46
  go_wp2_with fail
  clear f3 f33 fl fl3 mk1 mk2 hw2 hw3 hw4 hs3 hbD
  go_loopw [9] (fun i wr => ∃ (k : Nat) (D : List Int), 1 ≤ k ∧ k ≤ n + 1 ∧ i = .int .i64 k ∧ Blk wr bD 3 (iv D).toArray ∧ Hid (D.length = n ∧ (0 < n → D[0]? = some 0) ∧ ∀ p, 1 ≤ p → p < k → p < n → D[p]? = some (-1)) ∧ Chg (fun b => b = bD) w4 wr) (fun i _ => n + 1 - (intOf i).toNat)
  case atStart =>
    refine ⟨1, List.replicate n 0, Nat.le_refl _, by omega, rfl, HB4.out, ⟨by simp, fun h => by simp [h], fun p h1 h2 => by omega⟩, Chg.refl _ _⟩
  case round =>
    obtain ⟨k, D, hk1, hk, rfl, hB, hD, hCh⟩ := hrel
    by_cases hlt : k < n
    · obtain ⟨d, hd⟩ : ∃ d, D[k]? = some d := ⟨_, List.getElem?_eq_getElem (by rw [hD.out.1]; exact hlt)⟩
      have q1 : wr.cell? ⟨bD, k, none⟩ = some (.int .i64 d) := (hB.cell k).trans (iv_at hd)
      have fz := hB.frozen k
      have hB2 := hB.put k (.int .i64 (-1))
      rw [iv_set] at hB2
      have HB2 := Lib.hid hB2
      have hD2 : Hid ((D.set k (-1)).length = n ∧ (0 < n → (D.set k (-1))[0]? = some 0) ∧ ∀ p, 1 ≤ p → p < k + 1 → p < n → (D.set k (-1))[p]? = some (-1)) := by
        obtain ⟨h1, h2, h3⟩ := hD.out
        refine ⟨by rw [List.length_set]; exact h1, fun h => by rw [List.getElem?_set_ne (by omega)]; exact h2 h, fun p g1 g2 g3 => ?_⟩
        by_cases e : p = k
        · subst e
          exact List.getElem?_set_self (by omega)
        · rw [List.getElem?_set_ne (fun x => e x.symm)]
          exact h3 p g1 (by omega) g3
      have hC2 := hCh.setCell (p := ⟨bD, k, none⟩) (.inl rfl) (.int .i64 (-1))
      have hbl := hB.lt
      clear hB hB2 hD hd hCh
      go_wp2_with fail
      go_roundw
      case rel => exact ⟨k + 1, D.set k (-1), by omega, by omega, by go_num, HB2.out, hD2, hC2⟩
      case measure => simp [intOf]; omega
    · have hD3 : Hid (Dst j.F f.code D (List.replicate f.code.length false)) := by
        obtain ⟨h1, h2, h3⟩ := hD.out
        have := Hcl.out
        exact dst_start (by omega) (fun h => h2 (by omega)) (fun p g1 g2 => h3 p g1 (by omega) (by omega))
      have hrel0 : RelD w j f bD (bD + 1) f.cn wr := by
        obtain ⟨h1, _, _⟩ := hD.out
        have hO : Blk wr (bD + 1) 4 ((List.replicate f.code.length false).map Value.bool).toArray := by
          rw [← Hcl.out]
          exact HO4.out.chg hCh (fun e => by have e : bD + 1 = bD := e; omega)
        refine ⟨D, _, hB, hO, by rw [h1, Hn.out], by simp [← Hcl.out, Hn.out], ?_, fun _ => hD3.out, ?_, ((HJ2.out.non Hc34.out).chg hCh (fun e => by have e : w.heap.size = bD := e; have := Hbw.out; omega)), ((HF2.out.non Hc34.out).chg hCh (fun e => by have e : w.heap.size + 1 = bD := e; have := Hbw.out; omega))⟩
        · rw [countP_rep, ← Hcl.out, Hn.out]
        · exact (Hc2.out.non Hc34.out).trans2 hCh (fun b e => .inr (by have e : b = bD := e; have := Hbw.out; omega))
      have Hrel0 := Lib.hid hrel0
      clear hrel0 hB hD hD3 hCh
      go_wp2_with fail
      go_loopw [] (fun wr => ∃ m, RelD w j f bD (bD + 1) m wr) (fun wr => leastN (fun m => RelD w j f bD (bD + 1) m wr))
      case atStart => exact ⟨_, Hrel0.out⟩
      case round =>
        clear Hrel0
        have hsp := leastN_spec hrel
        obtain ⟨m, hm⟩ : ∃ m, leastN (fun m => RelD w j f bD (bD + 1) m wr) = m := ⟨_, rfl⟩
        rw [hm] at hsp
        have Hm := Lib.hid hm
        clear hrel hm
        obtain ⟨D, O, hB, hO, hDl, hOl, hmc, hdst, hC, hJr, hFr⟩ := hsp
        have HJr := Lib.hid hJr
        have HFr := Lib.hid hFr
        clear hJr hFr
        rw [Hn.out] at hDl hOl
        have HDl := Lib.hid hDl
        have HOl := Lib.hid hOl
        have Hmc := Lib.hid hmc
        clear hDl hOl hmc
        have hBl := hB.lt
        have hOL := hO.lt
        have HB := Lib.hid hB
        have HO := Lib.hid hO
        clear hB hO
        go_wp2_with fail
        go_loop [10] (fun i => ∃ k : Nat, k ≤ n ∧ i = .int .i64 k ∧ Hid (∀ p d, p < k → D[p]? = some d → 0 ≤ d → O[p]? = some true)) (fun i => n - (intOf i).toNat)
        case atStart => exact ⟨0, Nat.zero_le _, rfl, fun p d h => by omega⟩
        case round =>
          obtain ⟨k, hk, rfl, hno⟩ := hrel
          by_cases hlt : k < n
          · obtain ⟨d, hd⟩ : ∃ d, D[k]? = some d := ⟨_, List.getElem?_eq_getElem (by rw [HDl.out]; exact hlt)⟩
            obtain ⟨b, hb⟩ : ∃ b, O[k]? = some b := ⟨_, List.getElem?_eq_getElem (by rw [HOl.out]; exact hlt)⟩
            have q1 : wr.cell? ⟨bD, k, none⟩ = some (.int .i64 d) := (HB.out.cell k).trans (iv_at hd)
            have q2 : wr.cell? ⟨bD + 1, k, none⟩ = some (.bool b) := (HO.out.cell k).trans (bo_at hb)
            by_cases hd0 : d < 0
            · have hno2 : Hid (∀ p d, p < k + 1 → D[p]? = some d → 0 ≤ d → O[p]? = some true) := fun p d2 h1 h2 h3 => by
                by_cases e : p = k
                · subst e
                  rw [hd] at h2
                  obtain rfl := Option.some.inj h2
                  omega
                · exact hno.out p d2 (by omega) h2 h3
              clear hd hb hno
              go_wp2_with fail
              go_round
              case rel => exact ⟨k + 1, by omega, by go_num, hno2⟩
              case measure => simp [intOf]; omega
            · have hd1 : 0 ≤ d := by omega
              clear hd0
              cases b with
              | true =>
                have hno2 : Hid (∀ p d, p < k + 1 → D[p]? = some d → 0 ≤ d → O[p]? = some true) := fun p d2 h1 h2 h3 => by
                  by_cases e : p = k
                  · subst e
                    exact hb
                  · exact hno.out p d2 (by omega) h2 h3
                clear hd hb hno
                go_wp2_with fail
                go_round
                case rel => exact ⟨k + 1, by omega, by go_num, hno2⟩
                case measure => simp [intOf]; omega
              | false =>
                have Hd := Lib.hid hd
                have Hb := Lib.hid hb
                clear hd hb hno
                obtain ⟨ia, i, hia, hi, hi0, hi1⟩ := HC.out.getN cellI_len (by decide) (k := k) (by rw [Hn.out]; exact hlt)
                obtain ⟨op, N⟩ := i
                have hz : bD + 1 ≥ w.heap.size := by have := Hbw.out; omega
                have q3 := HO.out.frozen k
                have hO5 := HO.out.put k (.bool true)
                rw [bo_set] at hO5
                have hB5 := HB.out.chg ((Chg.refl (fun b => b = bD + 1) wr).set1 k (.bool true)) (fun e => by have e : bD = bD + 1 := e; omega)
                have hC5 := hC.setCell (p := ⟨bD + 1, k, none⟩) (.inr hz) (.bool true)
                obtain ⟨w5, hw5⟩ : ∃ w5, wr.setCell ⟨bD + 1, k, none⟩ (.bool true) = w5 := ⟨_, rfl⟩
                rw [hw5] at hO5 hB5 hC5
                have hcA : Hid (f.cA = some ia) := hia
                clear hia
                have hJ5 := HJr.out.chg ((Chg.refl (fun b => b = bD + 1) wr).set1 k (.bool true)) (fun e => by have e : w.heap.size = bD + 1 := e; have := Hbw.out; omega)
                have hF5 := HFr.out.chg ((Chg.refl (fun b => b = bD + 1) wr).set1 k (.bool true)) (fun e => by have e : w.heap.size + 1 = bD + 1 := e; have := Hbw.out; omega)
                rw [hw5] at hJ5 hF5
                have hfl5 := hF5.lt
                have hjl5 := hJ5.lt
                have i0 : ∀ wx, Chg Non w5 wx → wx.cell? (ia.add (k * 2)) = some (.int .i64 op) := fun wx h => h.cell (hC5.cell (hi0 (.int .i64 op) rfl) id) id
                have i1 : ∀ wx, Chg Non w5 wx → wx.cell? ⟨(ia.add (k * 2)).block, (ia.add (k * 2)).off + 1, none⟩ = some (.int .i64 N) := fun wx h => h.cell (hC5.cell (hi1 0 (.int .i64 N) rfl) id) id
                have g3 : ∀ wx, Chg Non w5 wx → wx.cell? ⟨w.heap.size + 1, 3, none⟩ = some (.slice (some ia) n f.cc) := fun wx h => by
                  have h9 := (hF5.non h).cell 3
                  rw [show (fnC f)[3]? = some (.slice f.cA f.cn f.cc) from rfl, hcA.out, Hn.out] at h9
                  exact h9
                have g0 : ∀ wx, Chg Non w5 wx → wx.cell? ⟨w.heap.size, 0, none⟩ = some (.slice j.fA j.fn j.fc) := fun wx h => (hJ5.non h).cell 0
                have b1 : (0 : Int) ≤ (k : Int) := by omega
                have b2 : (k : Int) < n := by omega
                go_wp2_with fail
                refine st_region _ Non [7] [] (fun _ _ _ _ => True) (fun _ _ _ _ => True) (fun _ _ v => v = .int .i64 (popsP j.F (op, N))) (fun _ => True) (by kernel_rfl) (okB_of_F _ (by kernel_rfl)) (fun _ h => h.elim) trivial (fun _ _ _ => trivial) ?_
                repeat (first | (refine st_pass (by rfl) ?_; simp only [Act.put, List.setIfInBounds_toArray, List.set_cons_succ, List.set_cons_zero]) | (refine st_plain (Non) (w5) rfl rfl (f := ?_) (by rfl) rfl rfl (fun w hC hG => ?_) ?_; rotate_left; (clear hG; first | (go_simp; done) | (go_simp; with_reducible rfl) | (simp [*, go_sem, ↓IntWalk.iteOmega]; done) | (simp [*, go_sem, ↓IntWalk.iteOmega]; with_reducible rfl)); simp only [Act.put, List.setIfInBounds_toArray, List.set_cons_succ, List.set_cons_zero]))
                refine st_major (Non) (w5) rfl rfl (by rfl) rfl (⟨_, rfl⟩) (fun _ _ _ _ _ _ => trivial) (fun _ _ _ _ => trivial) (fun w hC hG hS => settle_of (r2 := ?_) ?_ ?_) ?_
                rotate_left
                (first | (go_simp; done) | (go_simp; rfl))
                · refine settle_enter ((refPops_any _ op N j.fA j.fn j.fc j.F ((HF.out.non hC5).non hC)).mono ?_)
                  rintro e w6 ⟨rfl, hc6⟩
                  exact ⟨_, rfl, rfl, hc6, trivial, trivial⟩
                rintro v rfl
                simp only [Act.put, List.setIfInBounds_toArray, List.set_cons_succ, List.set_cons_zero]
                repeat (first | (refine st_pass (by rfl) ?_; simp only [Act.put, List.setIfInBounds_toArray, List.set_cons_succ, List.set_cons_zero]) | (refine st_plain (Non) (w5) rfl rfl (f := ?_) (by rfl) rfl rfl (fun w hC hG => ?_) ?_; rotate_left; (clear hG; first | (go_simp; done) | (go_simp; with_reducible rfl) | (simp [*, go_sem, ↓IntWalk.iteOmega]; done) | (simp [*, go_sem, ↓IntWalk.iteOmega]; with_reducible rfl)); simp only [Act.put, List.setIfInBounds_toArray, List.set_cons_succ, List.set_cons_zero]))
                refine st_end Non w5 rfl rfl (fun w6 hC6 _ _ => ?_)
                have hB6 := hB5.non hC6
                have hO6 := hO5.non hC6
                have hF6 := hF5.non hC6
                have hJ6 := hJ5.non hC6
                have hC06 := hC5.non hC6
                have d0 : ∀ wx, Chg Non w6 wx → wx.cell? ⟨bD, k, none⟩ = some (.int .i64 d) := fun wx h => ((hB6.non h).cell k).trans (iv_at Hd.out)
                replace i0 : ∀ wx, Chg Non w6 wx → wx.cell? (ia.add (k * 2)) = some (.int .i64 op) := fun wx h => i0 wx (hC6.non h)
                replace i1 : ∀ wx, Chg Non w6 wx → wx.cell? ⟨(ia.add (k * 2)).block, (ia.add (k * 2)).off + 1, none⟩ = some (.int .i64 N) := fun wx h => i1 wx (hC6.non h)
                replace g3 : ∀ wx, Chg Non w6 wx → wx.cell? ⟨w.heap.size + 1, 3, none⟩ = some (.slice (some ia) n f.cc) := fun wx h => g3 wx (hC6.non h)
                obtain ⟨pp, hpp⟩ : ∃ pp, popsP j.F (op, N) = pp := ⟨_, rfl⟩
                rw [hpp]
                clear g0 hB5 hO5 hF5 hJ5
                go_wp2_with fail
                refine st_region _ Non [11] [] (fun _ _ _ _ => True) (fun _ _ _ _ => True) (fun _ _ v => v = .int .i64 (pushP (op, N))) (fun _ => True) (by kernel_rfl) (okB_of_F _ (by kernel_rfl)) (fun _ h => h.elim) trivial (fun _ _ _ => trivial) ?_
                repeat (first | (refine st_pass (by rfl) ?_; simp only [Act.put, List.setIfInBounds_toArray, List.set_cons_succ, List.set_cons_zero]) | (refine st_plain (Non) (w6) rfl rfl (f := ?_) (by rfl) rfl rfl (fun w hC hG => ?_) ?_; rotate_left; (clear hG; first | (go_simp; done) | (go_simp; with_reducible rfl) | (simp [*, go_sem, ↓IntWalk.iteOmega]; done) | (simp [*, go_sem, ↓IntWalk.iteOmega]; with_reducible rfl)); simp only [Act.put, List.setIfInBounds_toArray, List.set_cons_succ, List.set_cons_zero]))
                refine st_major (Non) (w6) rfl rfl (by rfl) rfl (⟨_, rfl⟩) (fun _ _ _ _ _ _ => trivial) (fun _ _ _ _ => trivial) (fun w hC hG hS => settle_of (r2 := ?_) ?_ ?_) ?_
                rotate_left
                (first | (go_simp; done) | (go_simp; rfl))
                · refine settle_enter ((refPushes_any _ op N).mono ?_)
                  rintro e w7 ⟨rfl, hc7⟩
                  exact ⟨_, rfl, rfl, hc7, trivial, trivial⟩
                rintro v rfl
                simp only [Act.put, List.setIfInBounds_toArray, List.set_cons_succ, List.set_cons_zero]
                repeat (first | (refine st_pass (by rfl) ?_; simp only [Act.put, List.setIfInBounds_toArray, List.set_cons_succ, List.set_cons_zero]) | (refine st_plain (Non) (w6) rfl rfl (f := ?_) (by rfl) rfl rfl (fun w hC hG => ?_) ?_; rotate_left; (clear hG; first | (go_simp; done) | (go_simp; with_reducible rfl) | (simp [*, go_sem, ↓IntWalk.iteOmega]; done) | (simp [*, go_sem, ↓IntWalk.iteOmega]; with_reducible rfl)); simp only [Act.put, List.setIfInBounds_toArray, List.set_cons_succ, List.set_cons_zero]))
                refine st_end Non w6 rfl rfl (fun w7 hC7 _ _ => ?_)
                obtain ⟨nn, hnn⟩ : ∃ nn, IntKind.i64.wrap (IntKind.i64.wrap (d - pp) + pushP (op, N)) = nn := ⟨_, rfl⟩
                rw [hnn]
                have Hnn : Hid (nAt j.F d (op, N) = nn) := by show _ = _; unfold nAt; rw [hpp]; exact hnn
                have Hpp := Lib.hid hpp
                have hC07 := hC06.non hC7
                have hB7 := hB6.non hC7
                have hO7 := hO6.non hC7
                have hF7 := hF6.non hC7
                have hJ7 := hJ6.non hC7
                have d7 : w7.cell? ⟨bD, k, none⟩ = some (.int .i64 d) := (hB7.cell k).trans (iv_at Hd.out)
                have hbl7 := hB7.lt
                have Hbad : Hid ((d < pp ∨ 32 < nn) → DepPost w j f (.returned (.tuple #[.slice none 0 0, .int .i64 k, .int .i64 12])) w7) := fun hb => by
                  refine ⟨none, 0, 0, k, 12, [], rfl, hC07, fun hA => .inr ⟨by omega, ?_⟩⟩
                  refine (hdst.out hA).bad1 (at_ := k) hi Hd.out hd1 ?_
                  rw [Hpp.out, Hnn.out]
                  exact hb
                have i07 := i0 w7 hC7
                have i17 := i1 w7 hC7
                have g37 := g3 w7 hC7
                have hfl7 := hF7.lt
                have hnx := refNext_any w7 op N k (by omega)
                clear hnn hpp d0 i0 i1 g3
                have h3 : (d < pp) ∨ (pp ≤ d ∧ 32 < nn) ∨ (pp ≤ d ∧ nn ≤ 32) := by omega
                rcases h3 with h3 | ⟨h3, h4⟩ | ⟨h3, h4⟩
                · go_wp2_with fail
                  exact bodyPost_ret (v := .tuple #[.slice none 0 0, .int .i64 k, .int .i64 12]) (by simp [results, Try.results46, go_sem]) rfl (Hbad.out (.inl h3))
                · go_wp2_with fail
                  exact bodyPost_ret (v := .tuple #[.slice none 0 0, .int .i64 k, .int .i64 12]) (by simp [results, Try.results46, go_sem]) rfl (Hbad.out (.inr h4))
                · go_wp2_with fail
                  refine hnx.mono ?_
                  rintro e w8 ⟨nA, nn8, nc8, rfl, hnl, hn2, hnr, hnw, hC8⟩
                  have hB8 := hB7.non hC8
                  have hO8 := hO7.non hC8
                  have hF8 := hF7.non hC8
                  have hJ8 := hJ7.non hC8
                  have hC08 := hC07.non hC8
                  have hbl8 := hB8.lt
                  have Hts : Hid (nn8 = (nextP (op, N) k).length) := hnl
                  have Hnr := Lib.hid hnr
                  have Hmid0 : Hid (ArgsOk j.F → Dmid j.F f.code D (O.set k true) k (op, N) d []) := fun hA => (hdst.out hA).start hi Hd.out hd1 (by rw [Hpp.out]; exact h3) (by rw [Hnn.out]; exact h4)
                  clear hnl hnr d7 i07 i17 g37 hnx hfl7
                  obtain ⟨ts, hts⟩ : ∃ ts, nextP (op, N) k = ts := ⟨_, rfl⟩
                  go_wp2_with fail
                  go_loopw [14] (fun i wx => ∃ (q : Nat) (D2 : List Int), q ≤ nn8 ∧ i = .int .i64 q ∧ Blk wx bD 3 (iv D2).toArray ∧ Hid (D2.length = n) ∧ Hid (ArgsOk j.F → Dmid j.F f.code D2 (O.set k true) k (op, N) d ((nextP (op, N) k).take q)) ∧ Chg (fun b => b = bD) w8 wx) (fun i _ => nn8 - (intOf i).toNat)
                  case atStart => exact ⟨0, D, Nat.zero_le _, rfl, hB8, HDl.out, Hmid0.out, Chg.refl _ _⟩
                  case round =>
                    obtain ⟨q, D2, hq, rfl, hBq, hDq, hMq, hCq⟩ := hrel
                    by_cases hlt2 : q < nn8
                    · obtain ⟨ta, t, hta, ht, hct⟩ := Hnr.out.getI hlt2
                      have hnb : ta.block ≠ bD := by have := hnw ta hta; omega
                      subst hta
                      have t0 := hCq.cell hct (by rw [block_add]; exact hnb)
                      have tl := World.block_lt_of_cell? wr _ t0
                      have htm : t ∈ nextP (op, N) k := List.mem_of_getElem? ht
                      have ht0 : 0 ≤ t := next_low (HI.out _ (List.mem_of_getElem? hi)) (by omega) htm
                      have hblq := hBq.lt
                      have HBq := Lib.hid hBq
                      have HCq := Lib.hid hCq
                      have Htm := Lib.hid htm
                      have Ht := Lib.hid ht
                      have hC0q : Chg Non w wr := hC08.trans2 hCq (fun b e => .inr (by have e : b = bD := e; have := Hbw.out; omega))
                      clear hBq hCq htm ht hct
                      by_cases htn : (n : Int) ≤ t
                      · have Hb2 : Hid (DepPost w j f (.returned (.tuple #[.slice none 0 0, .int .i64 k, .int .i64 11])) wr) := by
                          refine ⟨none, 0, 0, k, 11, [], rfl, hC0q, fun hA => .inr ⟨by omega, (hMq.out hA).bad2 Htm.out ?_⟩⟩
                          have := Hcl.out
                          omega
                        go_wp2_with fail
                        exact bodyPost_ret (v := .tuple #[.slice none 0 0, .int .i64 k, .int .i64 11]) (by simp [results, Try.results46, go_sem]) rfl Hb2.out
                      · obtain ⟨z, rfl⟩ : ∃ z : Nat, t = z := ⟨t.toNat, by omega⟩
                        have hzn : z < n := by omega
                        obtain ⟨v, hv⟩ : ∃ v, D2[z]? = some v := ⟨_, List.getElem?_eq_getElem (by rw [hDq.out]; exact hzn)⟩
                        have v0 : wr.cell? ⟨bD, z, none⟩ = some (.int .i64 v) := (HBq.out.cell z).trans (iv_at hv)
                        have vf := HBq.out.frozen z
                        have hcases : (0 ≤ v ∧ (v == nn) = false ∧ v ≠ nn) ∨ ((v < 0 ∨ (0 ≤ v ∧ v = nn)) ∧ ∀ u, D2[z]? = some u → 0 ≤ u → u = nn) := by
                          by_cases g1 : v < 0
                          · exact .inr ⟨.inl g1, fun u h1 h2 => by rw [hv] at h1; obtain rfl := Option.some.inj h1; omega⟩
                          · by_cases g2 : v = nn
                            · exact .inr ⟨.inr ⟨by omega, g2⟩, fun u h1 h2 => by rw [hv] at h1; obtain rfl := Option.some.inj h1; exact g2⟩
                            · exact .inl ⟨by omega, beq_eq_false_iff_ne.2 g2, g2⟩
                        rcases hcases with ⟨g1, g2, g3⟩ | ⟨g1, g2⟩
                        · have Hb3 : Hid (DepPost w j f (.returned (.tuple #[.slice none 0 0, .int .i64 k, .int .i64 12])) wr) :=
                            ⟨none, 0, 0, k, 12, [], rfl, hC0q, fun hA => .inr ⟨by omega, (hMq.out hA).bad3 Htm.out hv g1 (by rw [Hnn.out]; exact g3)⟩⟩
                          have g4 : (v != nn) = true := bne_iff_ne.2 g3
                          clear g3 hv
                          go_wp2_with fail
                          exact bodyPost_ret (v := .tuple #[.slice none 0 0, .int .i64 k, .int .i64 12]) (by simp [results, Try.results46, go_sem]) rfl Hb3.out
                        · have hM2 : Hid (ArgsOk j.F → Dmid j.F f.code (D2.set z nn) (O.set k true) k (op, N) d ((nextP (op, N) k).take (q + 1))) := fun hA => by
                            have h9 := (hMq.out hA).lay hA (q := z) (by have := Hcl.out; omega) Htm.out (by rw [Hnn.out]; exact g2)
                            rw [Hnn.out] at h9
                            rw [List.take_add_one, Ht.out]
                            exact h9
                          have hB9 := HBq.out.put z (.int .i64 nn)
                          rw [iv_set] at hB9
                          have HB9 := Lib.hid hB9
                          have hC9 := HCq.out.setCell (p := ⟨bD, z, none⟩) (.inl rfl) (.int .i64 nn)
                          have hD9 : Hid ((D2.set z nn).length = n) := by show _ = _; rw [List.length_set]; exact hDq.out
                          clear hB9 hv g2
                          rcases g1 with g1 | ⟨g1, rfl⟩
                          all_goals
                            go_wp2_with fail
                            go_roundw
                            case rel => exact ⟨q + 1, _, by omega, by go_num, HB9.out, hD9, hM2, hC9⟩
                            case measure => simp [intOf]; omega
                    · obtain rfl : q = nn8 := by omega
                      have hO9 := hO8.chg hCq (fun e => by have e : bD + 1 = bD := e; omega)
                      have hF9 := hF8.chg hCq (fun e => by have e : w.heap.size + 1 = bD := e; have := Hbw.out; omega)
                      have hJ9 := hJ8.chg hCq (fun e => by have e : w.heap.size = bD := e; have := Hbw.out; omega)
                      have hcnt := count_set (k := k) Hb.out
                      have Hrel2 : Hid (RelD w j f bD (bD + 1) (m - 1) wr) := by
                        refine ⟨D2, _, hBq, hO9, by rw [hDq.out, Hn.out], by rw [List.length_set, HOl.out, Hn.out], ?_, fun hA => ?_, hC08.trans2 hCq (fun b e => .inr (by have e : b = bD := e; have := Hbw.out; omega)), hJ9, hF9⟩
                        · rw [Hmc.out]
                          omega
                        · refine Dmid.fin (at_ := k) (i := (op, N)) (d := d) ?_
                          have h9 := hMq.out hA
                          rw [List.take_of_length_le (Nat.le_of_eq Hts.out.symm)] at h9
                          exact h9
                      have Hms : Hid (m - 1 < m) := by show _ < _; rw [Hmc.out]; omega
                      clear hBq hO9 hF9 hJ9 hcnt hDq hMq hCq
                      go_wp2_with fail
                      go_roundw
                      case rel => exact ⟨_, Hrel2.out⟩
                      case measure => rw [Hm.out]; have := leastN_le (p := fun m => RelD w j f bD (bD + 1) m wr) Hrel2.out; have := Hms.out; omega
          · have hk2 : k = n := by omega
            subst hk2
            have hfin : DepPost w j f (.returned (.tuple #[.slice (some ⟨bD, 0, none⟩) k k, .int .i64 0, .int .i64 0])) wr := by
              refine ⟨_, k, k, 0, 0, D, rfl, hC, fun hA => .inl ⟨rfl, (hdst.out hA).closed (fun p d h1 h2 => hno.out p d ?_ h1 h2), Hn.out.symm, Rds.block HB.out (by rw [List.size_toArray]; simp [iv]; exact HDl.out), fun ad e => by cases e; have := Hbw.out; exact ⟨by show w.heap.size ≤ bD; omega, HB.out.lt⟩⟩⟩
              rw [← HDl.out]
              exact (List.getElem?_eq_some_iff.1 h1).1
            have Hfin := Lib.hid hfin
            clear hfin hno hlt
            go_wp2_with fail
            exact bodyPost_ret (v := .tuple #[.slice (some ⟨bD, 0, none⟩) k k, .int .i64 0, .int .i64 0]) (by simp [results, Try.results46, go_sem]) rfl Hfin.out

/-- A job as an argument. -/
structure JbAt (w : World) (j : Jb) : Prop where
  fns : FnsAt w j.fA j.fn j.F
  code : ∀ f ∈ j.F, Rds w 2 f.cA f.cn (f.code.flatMap cellI) ∧ f.cn ≤ 9223372036854775807 ∧ f.nm.size ≤ 9223372036854775807
  args : Rds w 1 j.aA j.an (iv j.args)
  argn : j.an ≤ 9223372036854775807
theorem JbAt.non {w w2 : World} {j : Jb} (h : JbAt w j) (hc : Chg Non w w2) : JbAt w2 j := ⟨h.fns.non hc, fun f hf => ⟨(h.code f hf).1.non hc, (h.code f hf).2⟩, h.args.non hc, h.argn⟩
/-- A function's four cells. -/
theorem FnsAt.get {w : World} {A : Option Addr} {n : Nat} {F : List Fn} (h : FnsAt w A n F) {k : Nat} (hk : k < n) :
    ∃ ad f, A = some ad ∧ F[k]? = some f ∧ w.cell? (ad.add (k * 4)) = some (.string f.nm) ∧ w.cell? ⟨(ad.add (k * 4)).block, (ad.add (k * 4)).off + 1, none⟩ = some (.int .i64 f.args) ∧
      w.cell? ⟨(ad.add (k * 4)).block, (ad.add (k * 4)).off + 2, none⟩ = some (.int .i64 f.locs) ∧ w.cell? ⟨(ad.add (k * 4)).block, (ad.add (k * 4)).off + 3, none⟩ = some (.slice f.cA f.cn f.cc) := by
  obtain ⟨ad, f, rfl, hf, h0, hN⟩ := h.rds.getN cellF_len (by decide) hk
  exact ⟨ad, f, rfl, hf, h0 _ rfl, hN 0 _ rfl, hN 1 _ rfl, hN 2 _ rfl⟩
/-- What checkFunc answers. -/
def CfPost (w : World) (j : Jb) (f : Fn) (e : Ending) (w2 : World) : Prop :=
  ∃ at_ x, e = .returned (.tuple #[.int .i64 at_, .int .i64 x]) ∧ Chg Non w w2 ∧ (x = 0 → FnOk j.fn f ∧ (ArgsOk j.F → ∃ D, Closed j.F f.code D))
theorem CfPost.bad {w : World} {j : Jb} {f : Fn} {w2 : World} (hc : Chg Non w w2) {at_ x : Int} (hx : x ≠ 0) : CfPost w j f (.returned (.tuple #[.int .i64 at_, .int .i64 x])) w2 := ⟨at_, x, rfl, hc, fun e => absurd e hx⟩
set_option maxRecDepth 100000 in
set_option maxHeartbeats 16000000 in
theorem refFunc_any (w : World) (j : Jb) (hj : JbAt w j) (k : Nat) (f : Fn) (hk : k < j.fn) (hf : j.F[k]? = some f) (h32 : j.fn ≤ 32) :
    Calls Try.prog 58 #[.agg (jbC j), .int .i64 k] w (CfPost w j f) := by
  obtain ⟨ad, f2, hA, hf2, c0, c1, c2, c3⟩ := hj.fns.get hk
  rw [hf] at hf2
  obtain rfl := Option.some.inj hf2
  obtain ⟨hcode, hcn, hnm⟩ := hj.code f (List.mem_of_getElem? hf)
  have hcc : (ad.add (k * 4)).block < w.heap.size := World.block_lt_of_cell? w _ c0
  have hcc2 : ad.block < w.heap.size := by rw [← block_add ad (k * 4)]; exact hcc
  have HA := Lib.hid hA
  have HJ := Lib.hid hj
  have Hf := Lib.hid hf
  have Hcode := Lib.hid hcode
  have Hjc : Hid (jbC j = #[.slice (some ad) j.fn j.fc, .int .i64 j.main, .slice j.aA j.an j.ac, .int .i64 j.fuel, .int .i64 j.tasks]) := by show _ = _; unfold jbC; rw [hA]
  rw [Hjc.out]
  clear hj hf hcode hf2 hA
  go_enter Try.func58, Try.ntmps58
  go_wp2_with fail
  refine (refFName_any _ f.nm hnm).mono ?_
  rintro e w9 ⟨⟨b0, rfl⟩, rfl⟩
  obtain ⟨w2, hw2⟩ : ∃ w2, (w.alloc (.cells #[.slice (some ad) j.fn j.fc, .int .i64 j.main, .slice j.aA j.an j.ac, .int .i64 j.fuel, .int .i64 j.tasks] 48)).alloc (.cells #[.string f.nm, .int .i64 f.args, .int .i64 f.locs, .slice f.cA f.cn f.cc] 67) = w2 := ⟨_, rfl⟩
  rw [hw2]
  have hc2 : Chg Non w w2 := hw2 ▸ ((Chg.refl _ _).alloc _).alloc _
  have hbJ : Blk w2 w.heap.size 48 #[.slice (some ad) j.fn j.fc, .int .i64 j.main, .slice j.aA j.an j.ac, .int .i64 j.fuel, .int .i64 j.tasks] := hw2 ▸ (Blk.new w _ _).alloc _
  have hbF : Blk w2 (w.heap.size + 1) 67 (fnC f) := by
    have := Blk.new (w.alloc (.cells (jbC j) 48)) 67 (fnC f)
    rw [Hjc.out, World.size_alloc] at this
    unfold fnC at this ⊢
    rw [hw2] at this
    exact this
  have HJ2 := Lib.hid hbJ
  have HF2 := Lib.hid hbF
  have Hc2 := Lib.hid hc2
  have jl := hbJ.lt
  have fl := hbF.lt
  have j0 : w2.cell? ⟨w.heap.size, 0, none⟩ = some (.slice (some ad) j.fn j.fc) := hbJ.cell 0
  have f0 : w2.cell? ⟨w.heap.size + 1, 0, none⟩ = some (.string f.nm) := hbF.cell 0
  have f1 : w2.cell? ⟨w.heap.size + 1, 1, none⟩ = some (.int .i64 f.args) := hbF.cell 1
  have f2 : w2.cell? ⟨w.heap.size + 1, 2, none⟩ = some (.int .i64 f.locs) := hbF.cell 2
  have f3 : w2.cell? ⟨w.heap.size + 1, 3, none⟩ = some (.slice f.cA f.cn f.cc) := hbF.cell 3
  clear hw2 hbJ hbF hc2 c0 c1 c2 c3 hcc hcc2
  go_wp2_with fail
  clear j0 jl f0 f1 f2 f3 fl
  go_loopw [7, 8] (fun u i wr => ∃ (b : Bool) (q : Nat), q ≤ k ∧ u = .bool b ∧ i = .int .i64 q ∧ Chg Non w2 wr) (fun u i _ => k - (intOf i).toNat)
  case atStart => exact ⟨b0, 0, Nat.zero_le _, rfl, rfl, Chg.refl _ _⟩
  case round =>
    obtain ⟨b, q, hq, rfl, rfl, hCr⟩ := hrel
    have HCr := Lib.hid hCr
    have hbJ := HJ2.out.non hCr
    have hbF := HF2.out.non hCr
    have jl := hbJ.lt
    have fl := hbF.lt
    have j0 : wr.cell? ⟨w.heap.size, 0, none⟩ = some (.slice (some ad) j.fn j.fc) := hbJ.cell 0
    have f0 : wr.cell? ⟨w.heap.size + 1, 0, none⟩ = some (.string f.nm) := hbF.cell 0
    by_cases hlt : q < k
    · obtain ⟨ad2, g, e1, _, c0, _⟩ := HJ.out.fns.get (k := q) (by omega)
      rw [HA.out] at e1
      obtain rfl := Option.some.inj e1
      clear e1
      replace c0 := (Hc2.out.non hCr).cell c0 id
      have hcc := World.block_lt_of_cell? wr _ c0
      clear hCr hbJ hbF
      cases b with
      | true =>
        go_wp2_with fail
        go_quiet (fail)
        go_wp2_with fail
        go_roundw
        case rel => exact ⟨_, q + 1, by omega, rfl, by go_num, HCr.out.drewN _⟩
        case measure => simp [intOf]; omega
      | false =>
        go_wp2_with fail
        go_quiet (fail)
        go_wp2_with fail
        go_roundw
        case rel => exact ⟨_, q + 1, by omega, rfl, by go_num, HCr.out.drewN _⟩
        case measure => simp [intOf]; omega
    · have hC := Hc2.out.non hCr
      have HBF := Lib.hid hbF
      have HBJ := Lib.hid hbJ
      have HC := Lib.hid hC
      clear hCr hbJ hbF hC
      cases b with
      | false =>
        have Hb := Lib.hid (CfPost.bad (w := w) (j := j) (f := f) HC.out (at_ := 0) (x := 6) (by omega))
        go_wp2_with fail
        exact bodyPost_ret (v := .tuple #[.int .i64 0, .int .i64 6]) (by simp [results, Try.results58, go_sem]) rfl Hb.out
      | true =>
        have f1 : wr.cell? ⟨w.heap.size + 1, 1, none⟩ = some (.int .i64 f.args) := HBF.out.cell 1
        by_cases ha : f.args < 0 ∨ 8 < f.args
        · have Hb := Lib.hid (CfPost.bad (w := w) (j := j) (f := f) HC.out (at_ := 0) (x := 15) (by omega))
          rcases ha with ha | ha
          all_goals
            go_wp2_with fail
            exact bodyPost_ret (v := .tuple #[.int .i64 0, .int .i64 15]) (by simp [results, Try.results58, go_sem]) rfl Hb.out
        · have f2 : wr.cell? ⟨w.heap.size + 1, 2, none⟩ = some (.int .i64 f.locs) := HBF.out.cell 2
          have ha1 : 0 ≤ f.args := by omega
          have ha2 : f.args ≤ 8 := by omega
          by_cases hl : f.locs < f.args ∨ 16 < f.locs
          · have Hb := Lib.hid (CfPost.bad (w := w) (j := j) (f := f) HC.out (at_ := 0) (x := 13) (by omega))
            clear ha
            rcases hl with hl | hl
            · go_wp2_with fail
              exact bodyPost_ret (v := .tuple #[.int .i64 0, .int .i64 13]) (by simp [results, Try.results58, go_sem]) rfl Hb.out
            · have hl2 : f.args ≤ f.locs := by omega
              go_wp2_with fail
              exact bodyPost_ret (v := .tuple #[.int .i64 0, .int .i64 13]) (by simp [results, Try.results58, go_sem]) rfl Hb.out
          · have f3 : wr.cell? ⟨w.heap.size + 1, 3, none⟩ = some (.slice f.cA f.cn f.cc) := HBF.out.cell 3
            have hl1 : f.args ≤ f.locs := by omega
            have hl2 : f.locs ≤ 16 := by omega
            by_cases hn : f.cn = 0 ∨ 256 < f.cn
            · have Hb := Lib.hid (CfPost.bad (w := w) (j := j) (f := f) HC.out (at_ := 0) (x := 3) (by omega))
              clear ha hl
              rcases hn with hn | hn
              · have hn2 : ((f.cn : Int) == 0) = true := by rw [hn]; rfl
                clear hn
                go_wp2_with fail
                exact bodyPost_ret (v := .tuple #[.int .i64 0, .int .i64 3]) (by simp [results, Try.results58, go_sem]) rfl Hb.out
              · have hn2 : ((f.cn : Int) == 0) = false := beq_eq_false_iff_ne.2 (by omega)
                go_wp2_with fail
                exact bodyPost_ret (v := .tuple #[.int .i64 0, .int .i64 3]) (by simp [results, Try.results58, go_sem]) rfl Hb.out
            · have hn2 : ((f.cn : Int) == 0) = false := beq_eq_false_iff_ne.2 (by omega)
              have hn3 : f.cn ≤ 256 := by omega
              have hn4 : 0 < f.cn := by omega
              clear ha hl hn
              go_wp2_with fail
              have Hcl : Hid (f.cn = f.code.length) := flat_eq cellI_len (by decide) Hcode.out
              clear f0 f1 f2 f3 j0 jl fl
              go_loopw [9] (fun i wx => ∃ q : Nat, q ≤ f.cn ∧ i = .int .i64 q ∧ Hid (∀ p i, p < q → f.code[p]? = some i → InsOk j.fn f i) ∧ Chg Non wr wx) (fun i _ => f.cn - (intOf i).toNat)
              case atStart => exact ⟨0, Nat.zero_le _, rfl, fun p i h => by omega, Chg.refl _ _⟩
              case round =>
                obtain ⟨q2, hq2, rfl, hIq, hCq⟩ := hrel
                clear hq
                have hbJ := HBJ.out.non hCq
                have hbF := HBF.out.non hCq
                have hCw := HC.out.non hCq
                have hCodeQ := Hcode.out.non hCw
                by_cases hlt2 : q2 < f.cn
                · obtain ⟨ia, i, hia, hi, hi0, hi1⟩ := hCodeQ.getN cellI_len (by decide) (k := q2) hlt2
                  obtain ⟨op, N⟩ := i
                  have HCq := Lib.hid hCq
                  have hjl := hbJ.lt
                  have hfl := hbF.lt
                  have b1 : (0 : Int) ≤ (q2 : Int) := by omega
                  have b2 : (q2 : Int) < f.cn := by omega
                  have Hia := Lib.hid hia
                  have Hi := Lib.hid hi
                  obtain ⟨w5, hw5⟩ : ∃ w5, wr = w5 := ⟨_, rfl⟩
                  have j0 : ∀ wx, Chg Non w5 wx → wx.cell? ⟨w.heap.size, 0, none⟩ = some (.slice (some ad) j.fn j.fc) := fun wx h => (hbJ.non (hw5 ▸ h)).cell 0
                  have j1 : ∀ wx, Chg Non w5 wx → wx.cell? ⟨w.heap.size, 1, none⟩ = some (.int .i64 j.main) := fun wx h => (hbJ.non (hw5 ▸ h)).cell 1
                  have j2 : ∀ wx, Chg Non w5 wx → wx.cell? ⟨w.heap.size, 2, none⟩ = some (.slice j.aA j.an j.ac) := fun wx h => (hbJ.non (hw5 ▸ h)).cell 2
                  have j3 : ∀ wx, Chg Non w5 wx → wx.cell? ⟨w.heap.size, 3, none⟩ = some (.int .i64 j.fuel) := fun wx h => (hbJ.non (hw5 ▸ h)).cell 3
                  have j4 : ∀ wx, Chg Non w5 wx → wx.cell? ⟨w.heap.size, 4, none⟩ = some (.int .i64 j.tasks) := fun wx h => (hbJ.non (hw5 ▸ h)).cell 4
                  have g0 : ∀ wx, Chg Non w5 wx → wx.cell? ⟨w.heap.size + 1, 0, none⟩ = some (.string f.nm) := fun wx h => (hbF.non (hw5 ▸ h)).cell 0
                  have g1 : ∀ wx, Chg Non w5 wx → wx.cell? ⟨w.heap.size + 1, 1, none⟩ = some (.int .i64 f.args) := fun wx h => (hbF.non (hw5 ▸ h)).cell 1
                  have g2 : ∀ wx, Chg Non w5 wx → wx.cell? ⟨w.heap.size + 1, 2, none⟩ = some (.int .i64 f.locs) := fun wx h => (hbF.non (hw5 ▸ h)).cell 2
                  have g3 : ∀ wx, Chg Non w5 wx → wx.cell? ⟨w.heap.size + 1, 3, none⟩ = some (.slice (some ia) f.cn f.cc) := fun wx h => by
                    have := (hbF.non (hw5 ▸ h)).cell 3
                    rw [show (fnC f)[3]? = some (.slice f.cA f.cn f.cc) from rfl, Hia.out] at this
                    exact this
                  have i0 : ∀ wx, Chg Non w5 wx → wx.cell? (ia.add (q2 * 2)) = some (.int .i64 op) := fun wx h => (show Chg Non wr wx from hw5 ▸ h).cell (hi0 (.int .i64 op) rfl) id
                  have i1 : ∀ wx, Chg Non w5 wx → wx.cell? ⟨(ia.add (q2 * 2)).block, (ia.add (q2 * 2)).off + 1, none⟩ = some (.int .i64 N) := fun wx h => (show Chg Non wr wx from hw5 ▸ h).cell (hi1 0 (.int .i64 N) rfl) id
                  have f3 := g3 w5 (Chg.refl _ _)
                  rw [hw5] at hjl hfl
                  have Hw5 := Lib.hid hw5
                  rw [hw5]
                  clear hbJ hbF hCodeQ hCq hia hi hi0 hi1 hw5
                  go_wp2_with fail
                  have hIns : ∀ (wx : World), Calls Try.prog 86 #[.agg #[.slice (some ad) j.fn j.fc, .int .i64 j.main, .slice j.aA j.an j.ac, .int .i64 j.fuel, .int .i64 j.tasks], .agg #[.string f.nm, .int .i64 f.args, .int .i64 f.locs, .slice (some ia) f.cn f.cc], .agg #[.int .i64 op, .int .i64 N]] wx fun e w2 => e = .returned (.int .i64 (insE j.fn f.cn f.locs op N)) ∧ Chg Non wx w2 := fun wx => by
                    have := refIns_any wx j f op N hcn (by omega)
                    rw [Hjc.out] at this
                    unfold fnC at this
                    rw [Hia.out] at this
                    exact this
                  have HIns := Lib.hid hIns
                  clear hIns
                  refine st_region _ Non [7] [] (fun _ _ _ _ => True) (fun _ _ _ _ => True) (fun _ _ v => v = .int .i64 (insE j.fn f.cn f.locs op N)) (fun _ => True) (by kernel_rfl) (okB_of_F _ (by kernel_rfl)) (fun _ h => h.elim) trivial (fun _ _ _ => trivial) ?_
                  repeat (first | (refine st_pass (by rfl) ?_; simp only [Act.put, List.setIfInBounds_toArray, List.set_cons_succ, List.set_cons_zero]) | (refine st_plain (Non) (w5) rfl rfl (f := ?_) (by rfl) rfl rfl (fun w hC hG => ?_) ?_; rotate_left; (clear hG; first | (go_simp; done) | (go_simp; with_reducible rfl) | (simp [*, go_sem, ↓IntWalk.iteOmega]; done) | (simp [*, go_sem, ↓IntWalk.iteOmega]; with_reducible rfl)); simp only [Act.put, List.setIfInBounds_toArray, List.set_cons_succ, List.set_cons_zero]))
                  refine st_major (Non) (w5) rfl rfl (by rfl) rfl (⟨_, rfl⟩) (fun _ _ _ _ _ _ => trivial) (fun _ _ _ _ => trivial) (fun w hC hG hS => settle_of (r2 := ?_) ?_ ?_) ?_
                  rotate_left
                  (first | (go_simp; done) | (go_simp; rfl))
                  · refine settle_enter ((HIns.out _).mono ?_)
                    rintro e w6 ⟨rfl, hc6⟩
                    exact ⟨_, rfl, rfl, hc6, trivial, trivial⟩
                  rintro v rfl
                  simp only [Act.put, List.setIfInBounds_toArray, List.set_cons_succ, List.set_cons_zero]
                  repeat (first | (refine st_pass (by rfl) ?_; simp only [Act.put, List.setIfInBounds_toArray, List.set_cons_succ, List.set_cons_zero]) | (refine st_plain (Non) (w5) rfl rfl (f := ?_) (by rfl) rfl rfl (fun w hC hG => ?_) ?_; rotate_left; (clear hG; first | (go_simp; done) | (go_simp; with_reducible rfl) | (simp [*, go_sem, ↓IntWalk.iteOmega]; done) | (simp [*, go_sem, ↓IntWalk.iteOmega]; with_reducible rfl)); simp only [Act.put, List.setIfInBounds_toArray, List.set_cons_succ, List.set_cons_zero]))
                  refine st_end Non w5 rfl rfl (fun w6 hC6 _ _ => ?_)
                  have HC6 : Hid (Chg Non w w6) := hCw.non (show Chg Non wr w6 from by rw [Hw5.out]; exact hC6)
                  have HCq6 := Lib.hid (HCq.out.non (show Chg Non wr w6 from by rw [Hw5.out]; exact hC6))
                  clear hC6 j0 j1 j2 j3 j4 g0 g1 g2 g3 i0 i1 f3 hjl hfl HIns
                  obtain ⟨x, hx⟩ : ∃ x, insE j.fn f.cn f.locs op N = x := ⟨_, rfl⟩
                  have Hx := Lib.hid hx
                  rw [hx]
                  clear hx
                  by_cases hx0 : x = 0
                  · subst hx0
                    go_wp2_with fail
                    go_roundw
                    case rel =>
                      refine ⟨q2 + 1, by omega, by go_num, fun p i hp hi => ?_, HCq6.out⟩
                      by_cases hpq : p = q2
                      · subst hpq
                        rw [Hi.out] at hi
                        obtain rfl := Option.some.inj hi
                        refine insE_ok ?_
                        rw [← Hcl.out]
                        exact Hx.out
                      · exact hIq.out p i (by omega) hi
                    case measure => simp [intOf]; omega
                  · have hx1 : (x == 0) = false := beq_eq_false_iff_ne.2 hx0
                    have Hb := Lib.hid (CfPost.bad (w := w) (j := j) (f := f) HC6.out (at_ := q2) (x := x) hx0)
                    clear hx0
                    go_wp2_with fail
                    exact bodyPost_ret (v := .tuple #[.int .i64 q2, .int .i64 x]) (by simp [results, Try.results58, go_sem]) rfl Hb.out
                · have hjl := hbJ.lt
                  have hfl := hbF.lt
                  have j0 : wr.cell? ⟨w.heap.size, 0, none⟩ = some (.slice (some ad) j.fn j.fc) := hbJ.cell 0
                  have j1 : wr.cell? ⟨w.heap.size, 1, none⟩ = some (.int .i64 j.main) := hbJ.cell 1
                  have j2 : wr.cell? ⟨w.heap.size, 2, none⟩ = some (.slice j.aA j.an j.ac) := hbJ.cell 2
                  have j3 : wr.cell? ⟨w.heap.size, 3, none⟩ = some (.int .i64 j.fuel) := hbJ.cell 3
                  have j4 : wr.cell? ⟨w.heap.size, 4, none⟩ = some (.int .i64 j.tasks) := hbJ.cell 4
                  have g0 : wr.cell? ⟨w.heap.size + 1, 0, none⟩ = some (.string f.nm) := hbF.cell 0
                  have g1 : wr.cell? ⟨w.heap.size + 1, 1, none⟩ = some (.int .i64 f.args) := hbF.cell 1
                  have g2 : wr.cell? ⟨w.heap.size + 1, 2, none⟩ = some (.int .i64 f.locs) := hbF.cell 2
                  have g3 : wr.cell? ⟨w.heap.size + 1, 3, none⟩ = some (.slice f.cA f.cn f.cc) := hbF.cell 3
                  have HCw := Lib.hid hCw
                  have Hins : Hid (∀ i ∈ f.code, InsOk j.fn f i) := fun i hi => by
                    obtain ⟨p, hp⟩ := List.getElem?_of_mem hi
                    have h1 := (List.getElem?_eq_some_iff.1 hp).1
                    have h2 := Hcl.out
                    exact hIq.out p i (by omega) hp
                  have hD := refDepths_any wr j f (HJ.out.fns.non hCw) hCodeQ hn3 Hins.out
                  rw [Hjc.out] at hD
                  unfold fnC at hD
                  have HD := Lib.hid hD
                  clear hbJ hbF hCw hCodeQ hCq hD
                  go_wp2_with fail
                  refine HD.out.mono ?_
                  rintro e w6 ⟨dA, dn, dc, at_, x, D, rfl, hc6, hp⟩
                  have Hres : Hid (CfPost w j f (.returned (.tuple #[.int .i64 at_, .int .i64 x])) w6) := by
                    refine ⟨at_, x, rfl, HCw.out.non hc6, fun hx => ⟨⟨⟨ha1, ha2⟩, ⟨hl1, hl2⟩, ?_, Hins.out⟩, fun hA => ?_⟩⟩
                    · have := Hcl.out
                      omega
                    · rcases hp hA with ⟨_, hcl, _⟩ | ⟨h0, _⟩
                      · exact ⟨D, hcl⟩
                      · exact absurd hx h0
                  clear hp hc6
                  go_wp2_with fail
                  exact bodyPost_ret (v := .tuple #[.int .i64 at_, .int .i64 x]) (by simp [results, Try.results58, go_sem]) rfl Hres.out
end Go.Proofs.Yteinbdifncdaiaa
