/-
  gleanerref14.Far: the document's own search.
-/
import Derived.Test.YtjbiglaohlmknaaGraphRef
namespace Go.Proofs.Ytjbiglaohlmknaa
open Go.RowKit
set_option linter.unusedVariables false
set_option linter.unusedSimpArgs false

theorem incF_eq (D : Int → Int) (y : Int) : incF D y = D y + 1 := rfl

set_option maxRecDepth 100000 in
set_option maxHeartbeats 4000000 in
theorem refFar_core (w : World) (N aN bN : Nat) (hN : N ≤ 4096) (haN : aN < N) (hbN : bN < N) :
    Calls Try.prog 14 #[.int .i64 (N : Int), .int .i64 (aN : Int), .int .i64 (bN : Int)] w fun e w2 => ∃ r, e = .returned (.int .i64 r) ∧ FarIs N aN bN r ∧ Chg Non w w2 := by
  have hmk := fun w => run_make_row' (P := Try.prog) 22 3 (.int .i64 0) 8 Try.underlying22 (by kernel_rfl) rfl .i64 .i64 N (by omega) (by omega) w
  have q0 : (madeCells #[Value.int .i64 0] N)[aN]? = some (.int .i64 0) := by rw [inc_0, dA_get haN]; rfl
  have d1 : decide ((N : Int) < 1) = false := decide_eq_false (by omega)
  have d2 : decide (4096 < (N : Int)) = false := decide_eq_false (by omega)
  have d3 : decide ((aN : Int) < 0) = false := decide_eq_false (by omega)
  have d3b : decide ((bN : Int) < 0) = false := decide_eq_false (by omega)
  have d4 : decide ((N : Int) ≤ (aN : Int)) = false := decide_eq_false (by omega)
  have d5 : decide (N ≤ aN) = false := decide_eq_false (by omega)
  have d6 : decide ((N : Int) ≤ (bN : Int)) = false := decide_eq_false (by omega)
  have d7 : decide (N ≤ bN) = false := decide_eq_false (by omega)
  go_enter Try.func14, Try.ntmps14
  go_wp2_with fail
  rw [inc_0, inc_set (v := 0) (by omega)]
  have hb0 := Blk.new w 3 (dA N (incF (updF (fun _ => -1) aN 0)))
  have hC0 : Chg Non w (w.alloc (.cells (dA N (incF (updF (fun _ => -1) aN 0))) 3)) := (Chg.refl _ _).alloc _
  obtain ⟨W0, hW0⟩ : ∃ W0, w.alloc (.cells (dA N (incF (updF (fun _ => -1) aN 0))) 3) = W0 := ⟨_, rfl⟩
  have hsz0 : w.heap.size + 1 = W0.heap.size := by rw [← hW0, World.size_alloc]
  rw [hW0] at hb0 hC0
  rw [hW0, hsz0]
  obtain ⟨gd, hgde⟩ : ∃ gd, w.heap.size = gd := ⟨_, rfl⟩
  have hgw : w.heap.size ≤ gd := by omega
  have hgl2 : gd < W0.heap.size := by omega
  rw [hgde] at hb0
  rw [hgde]
  have hs0 := hC0.size
  clear hgde hsz0 hmk hW0 q0 d1 d2 d3 d3b d4 d5 d6 d7
  have hC3 : Chg Non w (W0.alloc (.cells #[.int .i64 (aN : Int)] 3)) := hC0.alloc _
  have hb3 : Blk (W0.alloc (.cells #[.int .i64 (aN : Int)] 3)) gd 3 (dA N (incF (updF (fun _ => -1) aN 0))) := hb0.alloc _
  have hwin : Win rkN (W0.alloc (.cells #[.int .i64 (aN : Int)] 3)) (.slice (some ⟨W0.heap.size, 0, none⟩) 1 1) 1 (iv [(aN : Int)]) :=
    ⟨rfl, .inr ⟨W0.heap.size, 0, 1, #[.int .i64 (aN : Int)], rfl, Blk.new _ _ _, Nat.le_refl _, by decide, by show 0 + 1 * 1 ≤ 1; omega, fun j u hu => by rw [Nat.zero_add]; show ([Value.int .i64 (aN : Int)].toArray)[j]? = _; rw [List.getElem?_toArray]; exact hu⟩⟩
  have Hs : Hid ((∃ x, Inv N [] aN (updF (fun _ => -1) aN 0) [(aN : Int)] 0 x [] ∧ 0 < 1) ∨ (Fin N [] aN (updF (fun _ => -1) aN 0) ∧ 0 = 1)) := .inl ⟨_, Inv.start (by omega) (by omega), by omega⟩
  clear hb0 hC0
  go_loopw [8, 9] (fun v i wr => ∃ (D : Int → Int) (T : List Int) (kk m : Nat), i = .int .i64 kk ∧ kk ≤ m ∧ m ≤ N ∧ Hid (m = T.length) ∧ Win rkN wr v m (iv T) ∧ Blk wr gd 3 (dA N (incF D)) ∧ (∀ b, v.ownBlock = some b → w.heap.size ≤ b ∧ b ≠ gd) ∧ Chg Non w wr ∧ Hid ((∃ x, Inv N [] aN D T kk x [] ∧ kk < m) ∨ (Fin N [] aN D ∧ kk = m))) (fun _ i _ => N - (intOf i).toNat)
  case atStart => exact ⟨_, [(aN : Int)], 0, 1, rfl, by omega, by omega, rfl, hwin, hb3, fun b hb => by have hb : some W0.heap.size = some b := hb; cases hb; omega, hC3, Hs⟩
  case round =>
    clear hwin hb3 hC3 Hs hgl2 hs0
    obtain ⟨D, T, kk, m, rfl, hkm, hmN, Hm, hwin, hb, hown, hC, Hs⟩ := hrel
    obtain ⟨A2, c2, rfl, hmc, hcm, hrw⟩ := hwin.open_
    have hd : ((∃ x, Inv N [] aN D T kk x [] ∧ kk < m) ∨ (Fin N [] aN D ∧ kk = m)) := Hs.out
    clear Hs
    rcases hd with ⟨x, hinv, hm⟩ | ⟨hfin, hm⟩
    · have Hinv := Lib.hid hinv
      obtain ⟨ad, y, rfl, hy, hcell⟩ := hrw.getI hm
      obtain rfl : x = y := by
        rw [hinv.cur] at hy
        exact Option.some.inj hy
      have hxv := hinv.val x (List.mem_of_getElem? hinv.cur)
      obtain ⟨xn, rfl⟩ : ∃ xn : Nat, x = xn := ⟨x.toNat, by omega⟩
      clear hinv hy hrw
      go_wp2_with fail
      refine (refLines_any N xn wr).mono ?_
      rintro e w6 ⟨vL, nL, rfl, hL, hc6⟩
      obtain ⟨AL, cL, rfl, hnL, hcL, hrL, hobL⟩ := hL.open_
      have hLl := Lib.hid (show nL = (linesG N xn).length from hrL.lenMap (f := fun n : Int => .int .i64 n))
      have s6 := hc6.size
      have hnLi : nL ≤ 9223372036854775807 := by unfold maxLen at hcL; omega
      have hgl6 : gd < wr.heap.size := hb.lt
      have hcb : ∀ b, (Value.slice (some ad) m c2).ownBlock = some b → w.heap.size ≤ b ∧ b ≠ gd ∧ (b < wr.heap.size ∨ w6.heap.size ≤ b) := by
        intro b hb
        have h1 := hown b hb
        have h2 := hwin.lt hb
        exact ⟨h1.1, h1.2, .inl h2⟩
      obtain ⟨s5, hs5⟩ : ∃ s5, wr.heap.size = s5 := ⟨_, rfl⟩
      have hC6 := hC.non hc6
      have hb6 := hb.non hc6
      have hwin6 := hwin.non hc6
      clear hc6 hC hb hwin hcell
      have HrL : Hid (∀ wx, Chg (fun b => w.heap.size ≤ b ∧ b < s5) w6 wx → Rds wx 1 AL nL (iv (linesG N xn))) := fun wx hx => hrL.chg hx fun ad e hb => by
        have := (hL.lt (hobL ad e)).1
        omega
      clear hL hrL hobL
      go_wp2_with fail
      rw [hs5] at hcb hgl6 s6
      clear hs5
      go_loopw [8, 11] (fun v i wx => ∃ (j : Nat) (D2 : Int → Int) (T2 : List Int) (m2 : Nat), j ≤ nL ∧ i = .int .i64 j ∧ kk < m2 ∧ m2 ≤ N ∧ Hid (m2 = T2.length) ∧ Win rkN wx v m2 (iv T2) ∧ Blk wx gd 3 (dA N (incF D2)) ∧ (∀ b, v.ownBlock = some b → w.heap.size ≤ b ∧ b ≠ gd ∧ (b < s5 ∨ w6.heap.size ≤ b)) ∧ Chg (fun b => w.heap.size ≤ b ∧ b < s5) w6 wx ∧ Hid (Inv N [] aN D2 T2 kk xn ((linesG N xn).take j))) (fun _ i _ => nL - (intOf i).toNat)
      case atStart => exact ⟨0, D, T, m, Nat.zero_le _, rfl, hm, hmN, Hm, hwin6, hb6, hcb, Chg.refl _ _, Hinv⟩
      case round =>
        clear hwin6 hb6 Hinv hown hcb
        obtain ⟨j, D2, T2, m2, hj, rfl, hkm2, hm2N, Hm2, hwx, hbx, hox, hCx, Hiv⟩ := hrel
        by_cases hjn : j < nL
        · obtain ⟨adL, y, rfl, hy, hcy⟩ := (HrL.out _ hCx).getI hjn
          have hyl := List.mem_of_getElem? hy
          have hyv := linesG_mem hyl
          obtain ⟨yn, rfl⟩ : ∃ yn : Nat, y = yn := ⟨y.toNat, by omega⟩
          have Htk : Hid ((linesG N xn).take (j + 1) = (linesG N xn).take j ++ [(yn : Int)]) := by
            show _ = _
            rw [List.take_add_one, hy]
            rfl
          have hiv := Hiv.out
          have q1 : wr.cell? ⟨gd, yn, none⟩ = _ := hbx.cell yn
          rw [dA_get (by omega), incF_eq] at q1
          have hbd := hiv.bd xn (List.mem_of_getElem? hiv.cur)
          have hlen0 := hiv.len
          have hx0 := (hiv.mem xn).1 (List.mem_of_getElem? hiv.cur)
          by_cases hd : D2 yn < 0
          · have hm1 := hiv.no _ hd
            have hnx := hiv.found hyl hd (by simp)
            rw [← Htk.out] at hnx
            have hlen := hnx.len
            rw [List.length_append, List.length_singleton, ← Hm2.out] at hlen
            have Hnx := Lib.hid hnx
            rw [hm1, show (-1 : Int) + 1 = 0 from rfl] at q1
            obtain ⟨A4, c4, rfl, hmc4, hcm4, hrw4⟩ := hwx.open_
            obtain ⟨ad4, x4, rfl, hx4, hcx4⟩ := hrw4.getI hkm2
            obtain rfl : x4 = xn := by
              rw [hiv.cur] at hx4
              exact (Option.some.inj hx4).symm
            have q2 : wr.cell? ⟨gd, xn, none⟩ = _ := hbx.cell xn
            rw [dA_get (by omega), incF_eq] at q2
            obtain ⟨ex, hex⟩ : ∃ ex, D2 xn + 1 = ex := ⟨_, rfl⟩
            rw [hex] at q2
            have hexb : 0 ≤ ex ∧ ex ≤ 5000 := by omega
            have Hex := Lib.hid hex
            clear hex hnx hm1 hx4 hrw4 hiv hy hyl hd hx0 hbd hlen0
            go_wp2_with fail
            have k1 : ∀ w, Chg Non wr w → w.cell? (adL.add j) = some (.int .i64 (yn : Int)) := fun w h => h.cell hcy id
            have k2 : ∀ w, Chg Non wr w → w.cell? (ad4.add kk) = some (.int .i64 (xn : Int)) := fun w h => h.cell hcx4 id
            have k3 : ∀ w, Chg Non wr w → w.cell? ⟨gd, xn, none⟩ = some (.int .i64 ex) := fun w h => h.cell q2 id
            have i1 : IntKind.i64.wrap (ex + 1) = ex + 1 := IntWalk.i64_in _ (by omega)
            refine st_region_tail 8 14 Non [] [] (fun _ _ _ _ => True) (fun _ _ _ _ => True) (fun _ _ _ => True) (fun _ => True) (by kernel_rfl) (by kernel_rfl) (by kernel_rfl) (fun _ h => h.elim) trivial (fun _ _ _ => trivial) ?_
            repeat (first | (refine st_pass (by rfl) ?_; simp only [Act.put, List.setIfInBounds_toArray, List.set_cons_succ, List.set_cons_zero]) | (refine st_plain (Non) (wr) rfl rfl (f := ?_) (by rfl) rfl rfl (fun w hC hG => ?_) ?_; rotate_left; (clear hG; first | (go_simp; done) | (go_simp; with_reducible rfl) | (simp [*, go_sem, ↓IntWalk.iteOmega]; done) | (simp [*, go_sem, ↓IntWalk.iteOmega]; with_reducible rfl)); simp only [Act.put, List.setIfInBounds_toArray, List.set_cons_succ, List.set_cons_zero]))
            refine st_tail Non wr rfl rfl rfl (fun w5 hC5 _ _ => ?_)
            simp only [List.drop_succ_cons, List.drop_zero]
            clear k1 k2 k3 q2 hcx4
            have hby := hbx.non hC5
            have q5 : w5.cell? ⟨gd, yn, none⟩ = _ := hC5.cell q1 id
            have f5 := hby.frozen yn
            have hb2 := hby.put yn (.int .i64 (ex + 1))
            rw [inc_set (v := D2 xn + 1) (by rw [Hex.out])] at hb2
            have hgx := hby.lt
            obtain ⟨W1, hW1⟩ : ∃ W1, w5.setCell ⟨gd, yn, none⟩ (.int .i64 (ex + 1)) = W1 := ⟨_, rfl⟩
            have hC1 : Chg (fun b => w.heap.size ≤ b ∧ b < s5) w6 W1 := hW1 ▸ (hCx.non hC5).setCell (p := ⟨gd, yn, none⟩) (.inl ⟨hgw, hgl6⟩) _
            have hw1 : Win rkN W1 (.slice (some ad4) m2 c4) m2 (iv T2) := (hwx.non hC5).chg (S := fun b => b = gd) (hW1 ▸ (Chg.refl _ _).set1 yn _) fun b hb e => (hox b hb).2.1 e
            rw [hW1] at hb2
            have hcy1 : W1.cell? (adL.add j) = some (.int .i64 (yn : Int)) := by
              obtain ⟨ad9, y9, e9, hy9, hc9⟩ := (HrL.out _ hC1).getI hjn
              obtain rfl := Option.some.inj e9
              have hy := List.getElem?_eq_some_iff.1 hy9
              have h0 := hcy
              obtain ⟨ad8, y8, e8, hy8, hc8⟩ := (HrL.out _ hCx).getI hjn
              obtain rfl := Option.some.inj e8
              rw [hy9] at hy8
              obtain rfl := Option.some.inj hy8
              rw [hcy] at hc8
              have : y9 = (yn : Int) := by
                have := Option.some.inj hc8
                injection this with _ h
                exact h.symm
              rw [← this]
              exact hc9
            have hsz := hCx.size
            have hsz1 := hC1.size
            clear hbx hby hwx hC5 q1 hcy
            go_wp2_with (at_builtin; refine appW1 (K := rkN) rfl (.tmp 83) (.tmp 88) rfl hw1 rfl (cs := #[.int .i64 (yn : Int)]) rfl rfl (iv_one' [(yn : Int)]) ?_ ?_; (next => omega); intro v7 w7 o7 c7 hb7)
            have hC7 : Chg (fun b => w.heap.size ≤ b ∧ b < s5) w6 w7 := hC1.trans2 c7 fun b e => by
              have := hox b e
              show (w.heap.size ≤ b ∧ b < s5) ∨ w6.heap.size ≤ b
              omega
            have hb8 := hb2.chg c7 fun e => (hox gd e).2.1 rfl
            rw [show iv T2 ++ (#[.int .i64 (yn : Int)] : Array Value).toList = iv (T2 ++ [(yn : Int)]) from by simp [iv]] at o7
            have Hm3 : Hid (m2 + 1 = (T2 ++ [(yn : Int)]).length) := by show _ = _; rw [List.length_append, List.length_singleton, Hm2.out]
            go_roundw
            case rel => exact ⟨j + 1, _, _, m2 + 1, by omega, by go_num, by omega, by omega, Hm3, o7, hb8, fun b hb => by
              rcases hb7 b hb with h | h
              · exact hox b h
              · omega, hC7, Hnx⟩
            case measure => simp [intOf]; omega
          · have Hnx := Lib.hid (hiv.skip (y := yn) (.inl (by omega)))
            rw [← Htk.out] at Hnx
            have t1 : (D2 yn + 1 == 0) = false := beq_eq_false_iff_ne.2 (by omega)
            clear hiv hy hyl hd
            go_wp2_with fail
            go_roundw
            case rel => exact ⟨j + 1, D2, T2, m2, by omega, by go_num, hkm2, hm2N, Hm2, hwx, hbx, hox, hCx, Hnx⟩
            case measure => simp [intOf]; omega
        · obtain rfl : j = nL := by omega
          have hlf : (linesG N xn).take j = linesG N xn := List.take_of_length_le (by have := hLl.out; omega)
          rw [hlf] at Hiv
          clear hlf
          have Hs : Hid ((∃ x, Inv N [] aN D2 T2 (kk + 1) x [] ∧ kk + 1 < m2) ∨ (Fin N [] aN D2 ∧ kk + 1 = m2)) := by
            have hm2 := Hm2.out
            by_cases h : kk + 1 < m2
            · exact .inl ⟨_, Hiv.out.next (List.getElem?_eq_getElem (by omega)), h⟩
            · exact .inr ⟨Hiv.out.fin (by omega), by omega⟩
          have hCC := hC6.trans2 hCx fun b e => .inr e.1
          clear Hiv
          go_wp2_with fail
          go_roundw
          case rel => exact ⟨D2, T2, kk + 1, m2, by go_num, by omega, hm2N, Hm2, hwx, hbx, fun b hb => ⟨(hox b hb).1, (hox b hb).2.1⟩, hCC, Hs⟩
          case measure => simp [intOf]; omega
    · subst hm
      have Hfin := Lib.hid hfin
      have q1 : wr.cell? ⟨gd, bN, none⟩ = _ := hb.cell bN
      rw [dA_get hbN, incF_eq] at q1
      have hbb := hfin.bd bN
      have hbn := hfin.no bN
      obtain ⟨ex, hex⟩ : ∃ ex, D bN + 1 = ex := ⟨_, rfl⟩
      have hexb : -1 ≤ ex - 1 ∧ ex ≤ 5000 := by
        by_cases h : D bN < 0
        · have := hbn h; omega
        · omega
      rw [hex] at q1
      have Hex := Lib.hid hex
      clear hfin hwin hrw hown Hm hbb hbn hex
      go_wp2_with fail
      go_ret
      exact ⟨_, rfl, .inl ⟨isG_iff.2 (by omega), isG_iff.2 (by omega), D, Hfin.out, by rw [← Hex.out]; omega⟩, hC⟩

set_option maxRecDepth 100000 in
set_option maxHeartbeats 2000000 in
theorem refFar_any (w : World) (nodes a b : Int) :
    Calls Try.prog 14 #[.int .i64 nodes, .int .i64 a, .int .i64 b] w fun e w2 => ∃ r, e = .returned (.int .i64 r) ∧ FarIs nodes a b r ∧ Chg Non w w2 := by
  by_cases hn : 1 ≤ nodes ∧ nodes ≤ 4096 ∧ 0 ≤ a ∧ 0 ≤ b ∧ a < nodes ∧ b < nodes
  · obtain ⟨k1, k2, k3, k4, k5, k6⟩ := hn
    obtain ⟨N, rfl⟩ : ∃ N : Nat, nodes = N := ⟨nodes.toNat, by omega⟩
    obtain ⟨aN, rfl⟩ : ∃ aN : Nat, a = aN := ⟨a.toNat, by omega⟩
    obtain ⟨bN, rfl⟩ : ∃ bN : Nat, b = bN := ⟨b.toNat, by omega⟩
    exact refFar_core w N aN bN (by omega) (by omega) (by omega)
  · have Hno : Hid (isG nodes a = false ∨ isG nodes b = false) := by
      show _ ∨ _
      rw [← Bool.not_eq_true, ← Bool.not_eq_true, isG_iff, isG_iff]
      omega
    have hcase : nodes < 1 ∨ (1 ≤ nodes ∧ 4096 < nodes) ∨ (1 ≤ nodes ∧ nodes ≤ 4096 ∧ a < 0) ∨ (1 ≤ nodes ∧ nodes ≤ 4096 ∧ 0 ≤ a ∧ b < 0) ∨ (1 ≤ nodes ∧ nodes ≤ 4096 ∧ 0 ≤ a ∧ 0 ≤ b ∧ nodes ≤ a) ∨ (1 ≤ nodes ∧ nodes ≤ 4096 ∧ 0 ≤ a ∧ 0 ≤ b ∧ a < nodes ∧ nodes ≤ b) := by omega
    clear hn
    rcases hcase with k1 | ⟨k1, k2⟩ | ⟨k1, k2, k3⟩ | ⟨k1, k2, k3, k4⟩ | ⟨k1, k2, k3, k4, k5⟩ | ⟨k1, k2, k3, k4, k5, k6⟩
    all_goals
      go_enter Try.func14, Try.ntmps14
      go_wp2_with fail
      go_ret
      exact ⟨_, rfl, .inr ⟨Hno.out, rfl⟩, Chg.refl _ _⟩
end Go.Proofs.Ytjbiglaohlmknaa
