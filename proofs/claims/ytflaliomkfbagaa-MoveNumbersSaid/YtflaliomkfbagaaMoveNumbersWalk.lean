/-
  gleanerlaw21.MoveNumbers: the walk.
-/
import Derived.Test.YtflaliomkfbagaaMvAlive
namespace Go.Proofs.Ytflaliomkfbagaa
open Go.RowKit
set_option linter.unusedVariables false
set_option linter.unusedSimpArgs false

/-- The giver has the root alone, and has offered it i times. -/
def sN (i : Int) : GvS := ⟨0, fun c => decide (c = ⟨#[]⟩), fun _ => none, i⟩
def oN (i : Int) : GvS := offerS (sN i) ⟨#[]⟩ ⟨1, 4, i + 1⟩
theorem root_len : (⟨#[]⟩ : ByteArray).size ≤ maxLen := by decide
def nN (kd node life epoch : Int) : Nt := { Nt.zero with kind := kd, node := node, life := life, epoch := epoch, id := ⟨#[]⟩ }
theorem s1_sN : s1 = sN 0 := by
  unfold s1 sN g0
  simp
theorem oN_off (i : Int) : (oN i).off ⟨#[]⟩ = some ⟨1, 4, i + 1⟩ := by
  unfold oN offerS setO
  simp
theorem oN_A (i : Int) : inOk (oN i) (nN 5 1 i 4) = false := by
  unfold inOk
  rw [show (nN 5 1 i 4).id = ⟨#[]⟩ from rfl, oN_off]
  show (((5 : Int) == 5 || (5 : Int) == 6) && ((1 : Int) == 1 && (4 : Int) == 4 && (i + 1 == i))) = false
  rw [show (i + 1 == i) = false from beq_eq_false_iff_ne.2 (by omega)]
  simp
theorem oN_B (i : Int) : inOk (oN i) (nN 6 2 (i + 1) 4) = false := by
  unfold inOk
  rw [show (nN 6 2 (i + 1) 4).id = ⟨#[]⟩ from rfl, oN_off]
  rfl
theorem oN_C (i : Int) : inOk (oN i) (nN 6 1 (i + 1) 3) = false := by
  unfold inOk
  rw [show (nN 6 1 (i + 1) 3).id = ⟨#[]⟩ from rfl, oN_off]
  rfl
theorem oN_D (i : Int) : inOk (oN i) (nN 6 1 (i + 1) 4) = true := by
  unfold inOk
  rw [show (nN 6 1 (i + 1) 4).id = ⟨#[]⟩ from rfl, oN_off]
  show (((6 : Int) == 5 || (6 : Int) == 6) && ((1 : Int) == 1 && (4 : Int) == 4 && (i + 1 == i + 1))) = true
  simp
theorem oN_in (i : Int) : inS (oN i) (nN 6 1 (i + 1) 4) = sN (i + 1) := by
  have h1 : (inS (oN i) (nN 6 1 (i + 1) 4)).has = (sN (i + 1)).has := by
    funext c
    show (if (6 : Int) = 6 then fun c => decide (c = (⟨#[]⟩ : ByteArray)) || (oN i).has c else (oN i).has) c = decide (c = (⟨#[]⟩ : ByteArray))
    rw [if_pos rfl]
    show (decide (c = (⟨#[]⟩ : ByteArray)) || (!decide (c = (⟨#[]⟩ : ByteArray)) && decide (c = (⟨#[]⟩ : ByteArray)))) = decide (c = (⟨#[]⟩ : ByteArray))
    by_cases h : c = (⟨#[]⟩ : ByteArray) <;> simp [h]
  have h2 : (inS (oN i) (nN 6 1 (i + 1) 4)).off = (sN (i + 1)).off := by
    funext c
    show setO (setO (fun _ => none) ⟨#[]⟩ (some ⟨1, 4, i + 1⟩)) ⟨#[]⟩ none c = none
    unfold setO
    by_cases h : c = (⟨#[]⟩ : ByteArray) <;> simp [h]
  have h3 : (inS (oN i) (nN 6 1 (i + 1) 4)).num = (sN (i + 1)).num := rfl
  have h4 : (inS (oN i) (nN 6 1 (i + 1) 4)).node = (sN (i + 1)).node := rfl
  revert h1 h2 h3 h4
  generalize inS (oN i) (nN 6 1 (i + 1) 4) = x
  generalize sN (i + 1) = y
  cases x; cases y
  rintro rfl rfl rfl rfl
  rfl

set_option maxRecDepth 100000 in
set_option maxHeartbeats 2000000 in
theorem moveNumbers_much (w : World) (n : Int) (h : n < 1 ∨ 60 < n) :
    Calls Try.prog 5 #[.int .i64 n] w fun e w2 => e = .returned (.bool true) ∧ Chg Non w w2 := by
  rcases h with h | h
  all_goals
    go_enter Try.func5, Try.ntmps5
    go_wp2_with fail
    refine (mv_alive w).mono ?_
    rintro e w2 ⟨rfl, hc2⟩
    go_wp2_with fail
    go_ret
    exact ⟨rfl, hc2⟩

set_option maxRecDepth 100000 in
set_option maxHeartbeats 8000000 in
theorem moveNumbers_core (w : World) (n : Int) (h1 : 1 ≤ n) (h60 : n ≤ 60) :
    Calls Try.prog 5 #[.int .i64 n] w fun e w2 => e = .returned (.bool true) ∧ Chg Non w w2 := by
  go_enter Try.func5, Try.ntmps5
  go_wp2_with fail
  refine (mv_alive w).mono ?_
  rintro e wa ⟨rfl, hca⟩
  go_wp2_with fail
  refine (newGiver_any wa 0).mono ?_
  rintro e w1 ⟨g, sm, om, F, rfl, hG, hF, hC⟩
  replace hF : ∀ b, F b → w.heap.size ≤ b := fun b hb => Nat.le_trans hca.size (hF b hb)
  replace hC := hca.non hC
  have hFl : ∀ b, F b → b < w1.heap.size := fun b hb => hG.lt b hb
  obtain ⟨w3, hw3⟩ : ∃ w3, w1.alloc (.cells #[.string ⟨#[]⟩] 33) = w3 := ⟨_, rfl⟩
  have hc3 : Chg Non w1 w3 := hw3 ▸ (Chg.refl _ _).alloc _
  have hr3 : Rds w3 1 (some ⟨w1.heap.size, 0, none⟩) 1 (sv [⟨#[]⟩]) := hw3 ▸ Rds.one w1 _ _
  have hOw := gvOwn_any w3 F g sm om 0 0 (g0 0) (hG.non hc3) (some ⟨w1.heap.size, 0, none⟩) 1 1 [⟨#[]⟩] hr3 (fun ad e _ h => by obtain rfl := Option.some.inj e; have h1 := hFl _ h; have h2 : w1.heap.size < w1.heap.size := h1; omega) (by omega) (by omega) (by intro a ha; simp at ha; subst ha; decide)
  rw [own_one vid_rt rfl rfl] at hOw
  replace hC := hC.non hc3
  clear hr3 hG hca hc3
  go_wp2_with fail
  refine hOw.mono ?_
  rintro e w4 ⟨rfl, ns, hns, hG, hc4⟩
  replace hG : Gv w4 F g sm om ns 0 s1 := hG
  rw [s1_sN] at hG
  clear hOw hw3 hFl
  replace hC := hC.trans2 hc4 (fun b h => .inr (hF b h))
  clear hc4
  go_wp2_with fail
  go_loopw [5] (fun i wr => ∃ (k ns no : Nat), (k : Int) ≤ n ∧ i = .int .i64 ((k : Int) + 1) ∧ Gv wr F g sm om ns no (sN k) ∧ ns ≤ 4 * k + 1 ∧ no ≤ k ∧ Chg Non w wr) (fun i _ => (n + 1 - intOf i).toNat)
  case atStart => exact ⟨0, ns, 0, by omega, rfl, hG, by omega, Nat.le_refl _, hC⟩
  case round =>
    clear hG hC hns ns
    obtain ⟨k, ns, no, hk, rfl, hG, hns, hno, hC⟩ := hrel
    by_cases hlt : (k : Int) + 1 ≤ n
    · have hOf := gvOffer_yes wr F g sm om ns no (sN k) hG ⟨#[]⟩ (by decide) 1 4 (by unfold sN; simp) rfl (by omega) (by omega) (by omega) (by omega) (show (0 : Int) ≤ k ∧ (k : Int) ≤ 1000000 by omega) (by omega)
      clear hG
      go_wp2_with fail
      refine hOf.mono ?_
      clear hOf
      rintro e w5 ⟨rfl, ns2, no2, hns2, hno2, hG, hc5⟩
      replace hG : Gv w5 F g sm om ns2 no2 (oN k) := hG
      replace hC := hC.trans2 hc5 (fun b h => .inr (hF b h))
      rw [show offV ⟨1, 4, (sN (k : Int)).num + 1⟩ ⟨#[]⟩ = .agg #[.int .i64 4, .int .i64 0, .int .i64 ((k : Int) + 1), .int .i64 4, .string ⟨#[]⟩, .int .i64 0, .slice none 0 0, .int .i64 0, .int .i64 0, .int .i64 0, .slice none 0 0] from rfl]
      clear hc5
      go_wp2_with fail
      refine (num_any _ _).mono ?_
      rintro e w6 ⟨rfl, hw6⟩
      have hc6 : Chg Non w5 w6 := hw6 ▸ (Chg.refl _ _).alloc _
      have y0 : w6.cell? ⟨w5.heap.size, 0, none⟩ = some (.int .i64 4) := by rw [← hw6]; exact (Blk.new w5 _ _).cell 0
      have y2 : w6.cell? ⟨w5.heap.size, 2, none⟩ = some (.int .i64 ((k : Int) + 1)) := by rw [← hw6]; exact (Blk.new w5 _ _).cell 2
      have y3 : w6.cell? ⟨w5.heap.size, 3, none⟩ = some (.int .i64 4) := by rw [← hw6]; exact (Blk.new w5 _ _).cell 3
      have yl := World.block_lt_of_cell? w6 _ y0
      replace hG := hG.non hc6
      replace hC := hC.non hc6
      clear hc6 hw6
      rcases Nat.eq_zero_or_pos k with hk0 | hk0
      · have hgt : ((k : Int) + 1 : Int) ≤ 1 := by omega
        clear hk0
        go_wp2_with fail
        refine (gvIn_any w6 F g sm om ns2 no2 _ hG (nN 6 1 ((k : Int) + 1) 4) none 0 0 none 0 0 root_len (by omega)).mono ?_
        rintro e w20 h10
        unfold GvInPost at h10
        rw [oN_D] at h10
        obtain ⟨rfl, ns20, no20, hns20, hno20, hG, hcN⟩ := h10
        rw [if_pos rfl, oN_in] at hG
        replace hC := hC.trans2 hcN (fun b h => .inr (hF b h))
        clear hcN
        have c0 : w20.cell? ⟨g, 0, none⟩ = some (.map (some sm)) := hG.hb.cell 0
        have gl := hG.hb.lt
        go_wp2_with fail
        refine (setHas_any w20 sm ns20 _ hG.hs (by omega)).mono ?_
        clear c0 gl
        rintro e w21 ⟨A21, c21, L21, rfl, hq1, hq2, hq3, hq4, hc21⟩
        have hL1 : ns20 = 1 := by rw [hq3, one_name hq1 hq2 (fun x => rfl)]; rfl
        clear hq1 hq2 hq3 hq4
        subst hL1
        replace hC := hC.non hc21
        replace hG := hG.non hc21
        clear hc21
        go_wp2_with fail
        go_roundw
        case rel => exact ⟨k + 1, 1, no20, by omega, by go_num, hG, by omega, by omega, hC⟩
        case measure => simp [intOf]; omega
      · have hgt : (1 : Int) < (k : Int) + 1 := by omega
        have hwr : IntKind.i64.wrap ((k : Int) + 1 - 1) = k := by rw [IntKind.wrap_i64] <;> omega
        have hwr2 : IntKind.i64.wrap (k : Int) = k := by rw [IntKind.wrap_i64]; omega
        go_wp2_with fail
        refine (gvIn_any w6 F g sm om ns2 no2 _ hG (nN 5 1 k 4) none 0 0 none 0 0 root_len (by omega)).mono ?_
        rintro e w7 h10
        unfold GvInPost at h10
        rw [oN_A] at h10
        obtain ⟨rfl, ns7, no7, hns7, hno7, hG, hcN⟩ := h10
        replace hG : Gv w7 F g sm om ns7 no7 (oN k) := hG
        replace hC := hC.trans2 hcN (fun b h => .inr (hF b h))
        clear hcN
        go_wp2_with fail
        refine (gvIn_any w7 F g sm om ns7 no7 _ hG (nN 6 2 ((k : Int) + 1) 4) none 0 0 none 0 0 root_len (by omega)).mono ?_
        rintro e w8 h10
        unfold GvInPost at h10
        rw [oN_B] at h10
        obtain ⟨rfl, ns8, no8, hns8, hno8, hG, hcN⟩ := h10
        replace hG : Gv w8 F g sm om ns8 no8 (oN k) := hG
        replace hC := hC.trans2 hcN (fun b h => .inr (hF b h))
        clear hcN
        go_wp2_with fail
        refine (gvIn_any w8 F g sm om ns8 no8 _ hG (nN 6 1 ((k : Int) + 1) 3) none 0 0 none 0 0 root_len (by omega)).mono ?_
        rintro e w9 h10
        unfold GvInPost at h10
        rw [oN_C] at h10
        obtain ⟨rfl, ns9, no9, hns9, hno9, hG, hcN⟩ := h10
        replace hG : Gv w9 F g sm om ns9 no9 (oN k) := hG
        replace hC := hC.trans2 hcN (fun b h => .inr (hF b h))
        clear hcN
        go_wp2_with fail
        refine (gvIn_any w9 F g sm om ns9 no9 _ hG (nN 6 1 ((k : Int) + 1) 4) none 0 0 none 0 0 root_len (by omega)).mono ?_
        rintro e w20 h10
        unfold GvInPost at h10
        rw [oN_D] at h10
        obtain ⟨rfl, ns20, no20, hns20, hno20, hG, hcN⟩ := h10
        rw [if_pos rfl, oN_in] at hG
        replace hC := hC.trans2 hcN (fun b h => .inr (hF b h))
        clear hcN
        have c0 : w20.cell? ⟨g, 0, none⟩ = some (.map (some sm)) := hG.hb.cell 0
        have gl := hG.hb.lt
        go_wp2_with fail
        refine (setHas_any w20 sm ns20 _ hG.hs (by omega)).mono ?_
        clear c0 gl
        rintro e w21 ⟨A21, c21, L21, rfl, hq1, hq2, hq3, hq4, hc21⟩
        have hL1 : ns20 = 1 := by rw [hq3, one_name hq1 hq2 (fun x => rfl)]; rfl
        clear hq1 hq2 hq3 hq4
        subst hL1
        replace hC := hC.non hc21
        replace hG := hG.non hc21
        clear hc21
        go_wp2_with fail
        go_roundw
        case rel => exact ⟨k + 1, 1, no20, by omega, by go_num, hG, by omega, by omega, hC⟩
        case measure => simp [intOf]; omega
    · go_wp2_with fail
      go_ret
      exact ⟨rfl, hC⟩

theorem moveNumbers_walk (w : World) (n : Int) (hw : i64 n) :
    Calls Try.prog 5 #[.int .i64 n] w fun e w2 => e = .returned (.bool true) ∧ Chg Non w w2 := by
  by_cases h : 1 ≤ n ∧ n ≤ 60
  · exact moveNumbers_core w n h.1 h.2
  · exact moveNumbers_much w n (by omega)
end Go.Proofs.Ytflaliomkfbagaa
