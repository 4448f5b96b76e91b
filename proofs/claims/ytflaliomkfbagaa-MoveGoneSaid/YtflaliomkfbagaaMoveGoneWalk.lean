/-
  gleanerlaw21.MoveGone: the walk.
-/
import Derived.Test.YtflaliomkfbagaaMvGone
namespace Go.Proofs.Ytflaliomkfbagaa
open Go.RowKit
set_option linter.unusedVariables false
set_option linter.unusedSimpArgs false

set_option maxRecDepth 100000 in
set_option maxHeartbeats 2000000 in
theorem moveGone_much (w : World) (A : Option Addr) (n c : Nat) (A2 : Option Addr) (n2 c2 : Nat) (h : 16 < n ∨ (n ≤ 16 ∧ 20 < n2)) :
    Calls Try.prog 6 #[.slice A n c, .slice A2 n2 c2] w fun e w2 => e = .returned (.bool true) ∧ Chg Non w w2 := by
  rcases h with h | ⟨h, h2⟩
  all_goals
    go_enter Try.func6, Try.ntmps6
    go_wp2_with fail
    refine (mv_alive w).mono ?_
    rintro e w2 ⟨rfl, hc2⟩
    go_wp2_with fail
    go_ret
    exact ⟨rfl, hc2⟩

set_option maxRecDepth 100000 in
set_option maxHeartbeats 8000000 in
theorem moveGone_core (w : World) (A : Option Addr) (n c : Nat) (A2 : Option Addr) (n2 c2 : Nat) (l I : List Int) (hr : Rds w 1 A n (iv l)) (hr2 : Rds w 1 A2 n2 (iv I)) (hn : n ≤ 16) (hn2 : n2 ≤ 20) :
    Calls Try.prog 6 #[.slice A n c, .slice A2 n2 c2] w fun e w2 => e = .returned (.bool true) ∧ Chg Non w w2 := by
  have Hr := Lib.hid hr
  have Hr2 := Lib.hid hr2
  have qc := @conv1
  clear hr hr2
  go_enter Try.func6, Try.ntmps6
  go_wp2_with fail
  refine (mv_alive w).mono ?_
  rintro e wa ⟨rfl, hca⟩
  go_wp2_with fail
  refine (newGiver_any wa 0).mono ?_
  rintro e w1 ⟨g, sm, om, F, rfl, hG, hF, hC⟩
  replace hF : ∀ b, F b → w.heap.size ≤ b := fun b hb => Nat.le_trans hca.size (hF b hb)
  replace hC := hca.non hC
  have hFlt : ∀ b, F b → b < w1.heap.size := fun b hb => hG.lt b hb
  clear hca
  go_wp2_with fail
  go_loopw [7, 8] (fun o i wr => ∃ (k ns no q : Nat) (A3 : Option Addr) (c3 : Nat), k ≤ n ∧ i = .int .i64 k ∧ o = .slice A3 q c3 ∧ q ≤ k ∧ ns ≤ k ∧ no ≤ k ∧ Gv wr F g sm om ns no (gS l k) ∧ OwnR rkI wr w1.heap.size (.slice A3 q c3) q (sv (wantG l I k)) ∧ w1.heap.size ≤ wr.heap.size ∧ Chg Non w wr) (fun _ i _ => n - (intOf i).toNat)
  case atStart => exact ⟨0, 0, 0, 0, none, 0, Nat.zero_le _, rfl, rfl, Nat.le_refl _, Nat.le_refl _, Nat.le_refl _, hG, OwnR.nil _ _ _, Nat.le_refl _, hC⟩
  case round =>
    clear hG hC
    obtain ⟨k, ns, no, q, A3, c3, hk, rfl, rfl, hq, hns, hno, hG, hown, hSr, hC⟩ := hrel
    by_cases hlt : k < n
    · obtain ⟨ad, x, rfl, hx, hcx⟩ := Hr.out.getI hlt
      obtain ⟨y, hy8, hyx⟩ := and7 x
      have hyv : yT l k = (y : Int) + 1 := by unfold yT; rw [List.getD_eq_getElem?_getD, hx]; show 1 + bits .and .i64 x 7 = _; rw [hyx]; omega
      have hyw : IntKind.i64.wrap (1 + (y : Int)) = (y : Int) + 1 := by rw [IntKind.wrap_i64] <;> omega
      have hst := wantG_step l I k
      have qw := fun w => qc (show k < 256 by omega) w
      have hsz : (id1 k).size ≤ 1000 := by show 1 ≤ 1000; decide
      have hgo := gS_own l (show k < 16 by omega)
      have hgf := gS_offer l k
      have hhh : (gSh l k).has (id1 k) = true := by show (decide (id1 k = id1 k) || _) = true; simp
      rw [hyv] at hst hgf
      generalize hnm : id1 k = nm at qw hst hsz hgo hgf hhh
      have qww := qw wr
      obtain ⟨w3, hw3⟩ : ∃ w3, wr.alloc (.cells #[.int .u8 (k : Int)] 5) = w3 := ⟨_, rfl⟩
      obtain ⟨w4, hw4⟩ : ∃ w4, w3.alloc (.cells #[.string nm] 33) = w4 := ⟨_, rfl⟩
      rw [hw3] at qww
      have hc3 : Chg Non wr w3 := hw3 ▸ (Chg.refl _ _).alloc _
      have hc4 : Chg Non wr w4 := hw4 ▸ hc3.alloc _
      have hs3 := hc3.size
      have hr4 : Rds w4 1 (some ⟨w3.heap.size, 0, none⟩) 1 (sv [nm]) := hw4 ▸ Rds.one w3 _ _
      have hOw := gvOwn_any w4 F g sm om ns no (gS l k) (hG.non hc4) (some ⟨w3.heap.size, 0, none⟩) 1 1 [nm] hr4 (fun ad e _ h => by obtain rfl := Option.some.inj e; have := hFlt _ h; have h2 : w3.heap.size < w1.heap.size := this; omega) (by omega) (by omega) (by intro a ha; simp at ha; subst ha; omega)
      rw [hgo] at hOw
      have Hgf := Lib.hid hgf
      have Hst := Lib.hid hst
      have Hyv := Lib.hid hyv
      clear qw hst hgo hgf hnm hyv hr4 hx hG
      go_wp2_with fail
      refine hOw.mono ?_
      clear hOw hw3 qww
      rintro e w5 ⟨rfl, ns5, hns5, hG5, hc5⟩
      have hns5 : ns5 ≤ k + 1 := by omega
      have hC5 : Chg Non w w5 := (hC.non hc4).trans2 hc5 (fun b e => .inr (hF b e))
      have hoF : ∀ b, (Value.slice A3 q c3).ownBlock = some b → ¬ F b := fun b hb h => by have := (hown.lt hb).1; have := hFlt b h; omega
      have hown5 := (hown.non hc4).chg hc5 hoF
      have hz5 : wr.heap.size ≤ w5.heap.size := Nat.le_trans hc4.size hc5.size
      have hOf := gvOffer_yes w5 F g sm om ns5 no (gSh l k) hG5 nm (by unfold maxLen; omega) ((y : Int) + 1) 1 hhh (by show ((y : Int) + 1 == 0) = false; rw [beq_eq_false_iff_ne]; omega) (by omega) (by omega) (by omega) (by omega) (show (0 : Int) ≤ k ∧ (k : Int) ≤ 1000000 by omega) (by omega)
      rw [Hgf.out, show ({ to := (y : Int) + 1, epoch := 1, num := (gSh l k).num + 1 } : Of) = ⟨(y : Int) + 1, 1, (k : Int) + 1⟩ from rfl] at hOf
      have a0 := hC5.cell hcx id
      have al := World.block_lt_of_cell? w5 _ a0
      clear hC hown hc4 hc5 hG5 hw4 hhh Hgf hc3
      go_wp2_with fail
      refine hOf.mono ?_
      clear hOf a0 al
      rintro e w6 ⟨rfl, ns6, no6, hns6, hno6, hG6, hc6⟩
      have hns6 : ns6 ≤ k + 1 := by omega
      have hC6 : Chg Non w w6 := hC5.trans2 hc6 (fun b e => .inr (hF b e))
      have hown6 := hown5.chg hc6 hoF
      have hz6 : wr.heap.size ≤ w6.heap.size := Nat.le_trans hz5 hc6.size
      rw [show offV ⟨(y : Int) + 1, 1, (k : Int) + 1⟩ nm = .agg #[.int .i64 4, .int .i64 0, .int .i64 ((k : Int) + 1), .int .i64 1, .string nm, .int .i64 0, .slice none 0 0, .int .i64 0, .int .i64 0, .int .i64 0, .slice none 0 0] from rfl]
      clear hC5 hc6 hown5 hz5
      go_wp2_with fail
      refine (num_any _ _).mono ?_
      rintro e w7 ⟨rfl, hw7⟩
      have hc7 : Chg Non w6 w7 := hw7 ▸ (Chg.refl _ _).alloc _
      replace hG6 := hG6.non hc7
      replace hown6 := hown6.non hc7
      replace hC6 := hC6.non hc7
      have hz7 : w1.heap.size ≤ w7.heap.size := by have := hc7.size; omega
      have hin := refIn_any w7 A2 n2 c2 I ((y : Int) + 1) (Hr2.out.non hC6) (by omega)
      have a0 := hC6.cell hcx id
      have al := World.block_lt_of_cell? w7 _ a0
      clear hw7 hc7 hz6
      go_wp2_with fail
      refine hin.mono ?_
      clear hin a0 al
      rintro e w8 ⟨rfl, rfl⟩
      cases hy : inI I ((y : Int) + 1) with
      | false =>
        have Hst2 : Hid (wantG l I (k + 1) = wantG l I k) := by show _ = _; rw [Hst.out, hy]; simp
        clear Hst hy
        go_wp2_with fail
        go_roundw
        case rel => exact ⟨k + 1, ns6, no6, q, A3, c3, by omega, by go_num, rfl, by omega, by omega, by omega, hG6, by rw [Hst2.out]; exact hown6, hz7, hC6⟩
        case measure => simp [intOf]; omega
      | true =>
        have Hst2 : Hid (wantG l I (k + 1) = wantG l I k ++ [nm]) := by show _ = _; rw [Hst.out, hy]; simp
        clear Hst hy
        generalize wantG l I k = W at hown6 Hst2
        go_wp2_with (at_builtin; refine appR1 (K := rkI) rfl (.tmp 67) (.tmp 69) rfl hown6 rfl (cs := #[.string nm]) rfl rfl (svI_one [nm]) ?_ ?_ ?_; (next => omega); (next => exact hz7); intro v9 w9 h9 hc9 hv9; obtain ⟨A9, c9, rfl, _⟩ := h9.open_)
        have hC9 : Chg Non w w9 := hC6.trans2 hc9 (fun b e => .inr (by have h1 := (hown6.lt e).1; have h2 := hF g hG6.Fg; have h3 := hFlt g hG6.Fg; omega))
        have hG9 := hG6.chg hc9 (fun b hb h => hoF b h hb)
        have hz9 : w1.heap.size ≤ w9.heap.size := Nat.le_trans hz7 hc9.size
        have hown9 : OwnR rkI w9 w1.heap.size (.slice A9 (q + 1) c9) (q + 1) (sv (wantG l I (k + 1))) := by
          rw [Hst2.out, show sv (W ++ [nm]) = sv W ++ (#[.string nm] : Array Value).toList by simp [sv]]
          exact h9
        clear hown6 h9 hc9
        go_roundw
        case rel => exact ⟨k + 1, ns6, no6, q + 1, A9, c9, by omega, by go_num, rfl, by omega, by omega, by omega, hG9, hown9, hz9, hC9⟩
        case measure => simp [intOf]; omega
    · obtain rfl : k = n := by omega
      have hBa := gvBack_any wr F g sm om ns no (gS l k) hG A2 n2 c2 I (Hr2.out.non hC) (fun ad e h0 hb => by
        obtain ⟨ad2, e2, hcell⟩ := Hr2.out.2 h0
        obtain rfl : ad2 = ad := by rw [e] at e2; exact (Option.some.inj e2).symm
        have h1 := hF _ hb
        have h2 : ∃ u, (iv I)[0]? = some u := by
          have : 0 < (iv I).length := by rw [Hr2.out.1]; omega
          exact ⟨_, List.getElem?_eq_getElem this⟩
        obtain ⟨u, hu⟩ := h2
        have h3 := World.block_lt_of_cell? w _ (hcell 0 u hu)
        rw [block_add] at h3
        omega) (by omega) (by omega) (by omega)
      have hrise := wantG_rises l I (show k ≤ 256 by omega)
      have hwm := wantG_mem l I (show k ≤ 256 by omega)
      clear hG
      go_wp2_with fail
      refine hBa.mono ?_
      clear hBa
      rintro e w5 hpost
      unfold BackPost at hpost
      obtain ⟨A5, m5, c5, L5, rfl, hL5, hM5, hm5, hm5n, hown5, ⟨ns5, no5, hns5, hno5, hG5⟩, hc5⟩ := hpost
      have hoF : ∀ b, (Value.slice A3 q c3).ownBlock = some b → ¬ F b := fun b hb h => by have := (hown.lt hb).1; have := hFlt b h; omega
      replace hown := hown.chg hc5 hoF
      obtain rfl : L5 = wantG l I k := one_list hL5 hM5 hrise hwm
      obtain rfl : m5 = q := by rw [hm5, hown.lenS]
      have hC5 : Chg Non w w5 := hC.trans2 hc5 (fun b e => .inr (hF b e))
      have hSa := sameIDs_same w5 A5 m5 c5 A3 c3 _ hown5.rds hown.rds (by omega)
      have hno2 := backs_no I (gS l k) hM5
      have hHas : ∀ x, (backS (gS l k) (wantG l I k)).has x = backs I (gS l k) x := fun x => by
        show (hasL (wantG l I k) x || false) = _
        rw [Bool.or_false, Bool.eq_iff_iff, hasL_true, hwm]
      clear hc5 hm5 hC hown5
      go_wp2_with fail
      refine hSa.mono ?_
      clear hSa
      rintro e w6 ⟨rfl, hc6⟩
      replace hG5 := hG5.non hc6
      replace hown := hown.non hc6
      replace hC5 := hC5.non hc6
      clear hc6
      have c0 : w6.cell? ⟨g, 0, none⟩ = some (.map (some sm)) := hG5.hb.cell 0
      have gl := hG5.hb.lt
      have hHs := setHas_any w6 sm ns5 _ hG5.hs (by omega)
      go_wp2_with fail
      refine hHs.mono ?_
      clear hHs c0 gl
      rintro e w7 ⟨A7, c7, L7, rfl, hr7, hm7, hn7, hown7, hc7⟩
      obtain rfl : L7 = wantG l I k := one_list hr7 (fun x => by rw [hm7, hHas]) hrise hwm
      obtain rfl : ns5 = m5 := by rw [hn7, hown.lenS]
      replace hG5 := hG5.non hc7
      replace hown := hown.non hc7
      replace hC5 := hC5.non hc7
      have hSa := sameIDs_same w7 A7 ns5 c7 A3 c3 _ hown7.rds hown.rds (by omega)
      clear hn7 hc7 hown7
      go_wp2_with fail
      refine hSa.mono ?_
      clear hSa
      rintro e w8 ⟨rfl, hc8⟩
      replace hG5 := hG5.non hc8
      replace hC5 := hC5.non hc8
      have hBa := gvBack_any w8 F g sm om ns5 no5 _ hG5 A2 n2 c2 I (Hr2.out.non hC5) (fun ad e h0 hb => by
        obtain ⟨ad2, e2, hcell⟩ := Hr2.out.2 h0
        obtain rfl : ad2 = ad := by rw [e] at e2; exact (Option.some.inj e2).symm
        have h1 := hF _ hb
        have h2 : ∃ u, (iv I)[0]? = some u := by
          have : 0 < (iv I).length := by rw [Hr2.out.1]; omega
          exact ⟨_, List.getElem?_eq_getElem this⟩
        obtain ⟨u, hu⟩ := h2
        have h3 := World.block_lt_of_cell? w _ (hcell 0 u hu)
        rw [block_add] at h3
        omega) (by omega) (by omega) (by omega)
      clear hc8 hG5 hown
      go_wp2_with fail
      refine hBa.mono ?_
      clear hBa
      rintro e w9 hpost
      unfold BackPost at hpost
      obtain ⟨A9, m9, c9, L9, rfl, hL9, hM9, hm9, hm9n, _, _, hc9⟩ := hpost
      obtain rfl : m9 = 0 := by
        rw [hm9]
        cases L9 with
        | nil => rfl
        | cons a L => have := (hM9 a).1 (by simp); rw [hno2] at this; cases this
      have hC9 : Chg Non w w9 := hC5.trans2 hc9 (fun b e => .inr (hF b e))
      clear hm9 hc9
      go_wp2_with fail
      go_ret
      exact ⟨rfl, hC9⟩

theorem moveGone_walk (w : World) (A : Option Addr) (n c : Nat) (e0 : Rd Try.prog w 29 (Value.slice A n c).cells.toList) (A2 : Option Addr) (n2 c2 : Nat) (e1 : Rd Try.prog w 29 (Value.slice A2 n2 c2).cells.toList) :
    Calls Try.prog 6 #[.slice A n c, .slice A2 n2 c2] w fun e w2 => e = .returned (.bool true) ∧ Chg Non w w2 := by
  obtain ⟨A', n', c', l, h5, h6, h7, h8, _⟩ := e0.ints Try.underlying29 (by kernel_rfl) Try.underlying3
  simp only [Value.cells, List.cons.injEq, and_true, Value.slice.injEq] at h5
  obtain ⟨rfl, rfl, rfl⟩ := h5
  obtain ⟨A', n', c', l2, h5, h6, h7, h82, _⟩ := e1.ints Try.underlying29 (by kernel_rfl) Try.underlying3
  simp only [Value.cells, List.cons.injEq, and_true, Value.slice.injEq] at h5
  obtain ⟨rfl, rfl, rfl⟩ := h5
  by_cases h : n ≤ 16 ∧ n2 ≤ 20
  · exact moveGone_core w A n c A2 n2 c2 l l2 h8 h82 h.1 h.2
  · exact moveGone_much w A n c A2 n2 c2 (by omega)
end Go.Proofs.Ytflaliomkfbagaa
