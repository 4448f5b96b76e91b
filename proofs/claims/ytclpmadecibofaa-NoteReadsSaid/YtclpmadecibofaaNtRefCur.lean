/-
  gleanerref1.Cursor.
-/
import Derived.Test.YtclpmadecibofaaCurState
import Derived.Test.YtclpmadecibofaaBytes
import Derived.Test.YtclpmadecibofaaGet
import Derived.Test.YtclpmadecibofaaSteps
namespace Go.Proofs.Ytclpmadecibofaa
open Go.RowKit
set_option linter.unusedVariables false

theorem Rds.chg0 {w w2 : World} {size n : Nat} {A : Option Addr} {xs : List Value} {g : Nat} (h : Rds w size A n xs) (hc : Chg (fun b => b = g) w w2) (hn : 0 < n → ∀ ad, A = some ad → ad.block ≠ g) : Rds w2 size A n xs :=
  ⟨h.1, fun h0 => by
    obtain ⟨ad, e, hx⟩ := h.2 h0
    exact ⟨ad, e, fun j u hu => hc.cell (hx j u hu) (by rw [block_add]; exact hn h0 ad e)⟩⟩

theorem neOf {n : Nat} {A : Option Addr} {g : Nat} (h : 0 < n → ∀ ad, A = some ad → ad.block < g) : 0 < n → ∀ ad, A = some ad → ad.block ≠ g := fun a b c => Nat.ne_of_lt (h a b c)
/-- The reference's cursor: R is left. -/
def RCur (w : World) (g : Nat) (R : List UInt8) (bad : Bool) : Prop :=
  ∃ (A : Option Addr) (n c : Nat) (B : List UInt8) (t : Nat), Blk w g 71 #[.slice A n c, .int .i64 t, .bool bad] ∧ Rds w 1 A n (bv B) ∧ n ≤ c ∧ c ≤ maxLen ∧ t ≤ n ∧ (0 < n → ∀ ad, A = some ad → ad.block < g) ∧ Hid (R = if bad then [] else B.drop t)

theorem RCur.lt {w : World} {g : Nat} {R : List UInt8} {bad : Bool} (h : RCur w g R bad) : g < w.heap.size := by
  obtain ⟨A, n, c, B, t, hb, _⟩ := h
  exact hb.lt
theorem RCur.chg {S : Nat → Prop} {w w2 : World} {g : Nat} {R : List UInt8} {bad : Bool} (h : RCur w g R bad) (hc : Chg S w w2) (hg : ¬ S g) (hS : ∀ b, S b → b = g ∨ w.heap.size ≤ b) : RCur w2 g R bad := by
  obtain ⟨A, n, c, B, t, hb, hr, h1, h2, h3, h4, h5⟩ := h
  refine ⟨A, n, c, B, t, hb.chg hc hg, ⟨hr.1, fun h0 => ?_⟩, h1, h2, h3, h4, h5⟩
  obtain ⟨ad, e, hx⟩ := hr.2 h0
  refine ⟨ad, e, fun j u hu => hc.cell (hx j u hu) fun hs => ?_⟩
  have hlt := World.block_lt_of_cell? w _ (hx j u hu)
  rw [block_add] at hs hlt
  rcases hS _ hs with e2 | e2
  · have := h4 h0 ad e; omega
  · omega
theorem RCur.non {w w2 : World} {g : Nat} {R : List UInt8} {bad : Bool} (h : RCur w g R bad) (hc : Chg Non w w2) : RCur w2 g R bad := h.chg hc id fun _ e => e.elim

set_option maxRecDepth 100000 in
set_option maxHeartbeats 400000 in
theorem refCurInt_bad (g : Nat) (R : List UInt8) (w : World) (hc : RCur w g R true) :
    Calls Try.prog 33 #[.pointer (some ⟨g, 0, none⟩)] w fun e w2 => e = .returned (.int .i64 (cInt R true).1) ∧ RCur w2 g (cInt R true).2.1 (cInt R true).2.2 ∧ Chg (fun b => b = g) w w2 := by
  obtain ⟨A, n, c, B, t, hb, hr, h1, h2, h3, h4, h5⟩ := hc
  have c0 := hb.cell 0
  have c1 := hb.cell 1
  have c2 := hb.cell 2
  have f1 := hb.frozen 1
  have f2 := hb.frozen 2
  simp at c0 c1 c2
  have hR : R = [] := h5.out
  subst hR
  rw [cInt_nil]
  go_enter Try.func33, Try.ntmps33
  go_wp2_with fail
  refine wp_loop_rounds 1 ?_
  rw [rounds_succ]
  go_wp2_with fail
  go_quiet (fail)
  go_wp2_with fail
  go_ret
  have hB2 := hb.put 2 (.bool true)
  simp only [List.setIfInBounds_toArray, List.set_cons_succ, List.set_cons_zero] at hB2
  have hC2 := (Chg.refl (fun b => b = g) w).set1 2 (.bool true)
  exact ⟨rfl, ⟨A, n, c, B, t, hB2.drewN _, hr.chg0 (hC2.drewN _) (neOf h4), h1, h2, h3, h4, rfl⟩, hC2.drewN _⟩

set_option maxRecDepth 100000 in
set_option maxHeartbeats 2000000 in
theorem refCurInt_any (g : Nat) (R : List UInt8) (bad : Bool) (w : World) (hc : RCur w g R bad) :
    Calls Try.prog 33 #[.pointer (some ⟨g, 0, none⟩)] w fun e w2 => e = .returned (.int .i64 (cInt R bad).1) ∧ RCur w2 g (cInt R bad).2.1 (cInt R bad).2.2 ∧ Chg (fun b => b = g) w w2 := by
  cases bad with
  | true => exact refCurInt_bad g R w hc
  | false =>
  obtain ⟨A, n, c, B, t, hb, hr, h1, h2, h3, h4, h5⟩ := hc
  have c0 := hb.cell 0
  have c1 := hb.cell 1
  have c2 := hb.cell 2
  have f1 := hb.frozen 1
  have f2 := hb.frozen 2
  simp at c0 c1 c2
  have hn := hr.lenMap
  have h64 : n ≤ 9223372036854775807 := by unfold maxLen at h2; omega
  have Hn := Lib.hid hn; clear hn
  · have hR : R = B.drop t := h5.out
    subst hR
    have Hr := Lib.hid hr
    have mk : ∀ (w2 : World) (p2 : Nat) (b2 : Bool) (R2 : List UInt8), Blk w2 g 71 #[.slice A n c, .int .i64 p2, .bool b2] → Chg (fun b => b = g) w w2 → p2 ≤ n → Hid (R2 = if b2 then [] else B.drop p2) → RCur w2 g R2 b2 :=
      fun w2 p2 b2 R2 hb2 hc2 hp2 h => ⟨A, n, c, B, p2, hb2, hr.chg0 hc2 (neOf h4), h1, h2, hp2, h4, h⟩
    have Mk := Lib.hid mk; clear mk
    go_enter Try.func33, Try.ntmps33
    go_wp2_with fail
    clear c0 c1 c2 f1 f2
    go_loopw [3, 4] (fun u i wr => ∃ (k q p : Nat), u = .int .u64 q ∧ i = .int .i64 k ∧ p ≤ n ∧ k ≤ 9 ∧ Hid (p = t + k) ∧ Hid (q < 128 ^ k) ∧ Hid (dnum 0 0 (B.drop t) = dnum k q (B.drop p)) ∧ Blk wr g 71 #[.slice A n c, .int .i64 p, .bool false] ∧ Chg (fun b => b = g) w wr) (fun _ i _ => 10 - (intOf i).toNat)
    case atStart => exact ⟨0, 0, t, rfl, rfl, by omega, by omega, rfl, Nat.one_pos, rfl, hb, Chg.refl _ _⟩
    case round =>
      clear hb
      obtain ⟨k, q, p, rfl, rfl, htk, hk9, Hp, Hq, Hd, hb, hC⟩ := hrel
      have c0 := hb.cell 0
      have c1 := hb.cell 1
      have c2 := hb.cell 2
      have f1 := hb.frozen 1
      have f2 := hb.frozen 2
      simp only [List.getElem?_toArray, List.getElem?_cons_zero, List.getElem?_cons_succ] at c0 c1 c2
      by_cases hlt : p < n
      · have e1 : decide ((n : Int) ≤ p) = false := by simp; omega
        have e2 : ((k : Int) == 10) = false := by simp; omega
        have e3 : (0 : Int) ≤ p := by omega
        have e4 : (p : Int) < n := by omega
        have hrw := hr.chg0 hC (neOf h4)
        obtain ⟨ad, x, rfl, hx, hcell⟩ := hrw.getB hlt
        have hx8 := x.toNat_lt
        have hdrop : B.drop p = x :: B.drop (p + 1) := by
          have h1 := List.getElem?_eq_some_iff.1 hx
          rw [List.drop_eq_getElem_cons h1.1, h1.2]
        have Hdrop := Lib.hid hdrop; clear hdrop hx
        have hB1 := (hb.put 1 (.int .i64 (p + 1 : Nat)))
        simp only [List.setIfInBounds_toArray, List.set_cons_succ, List.set_cons_zero] at hB1
        have hC1 := hC.set1 1 (.int .i64 (p + 1 : Nat))
        have hp1 : (((p + 1 : Nat) : Int)) = (p : Int) + 1 := by omega
        rw [hp1] at hB1 hC1
        by_cases hbad : (k = 9 ∧ 1 < x.toNat) ∨ (x.toNat = 0 ∧ 0 < k)
        · have hnone := cInt_none (bad := false) (show dnum 0 0 (B.drop t) = none from (Hd.out.trans (by rw [Hdrop.out]; exact dnum_bad hbad)))
          have Hnone := Lib.hid hnone; clear hnone
          have hC2 := hC1.set1 2 (.bool true)
          have hB2 := hB1.put 2 (.bool true)
          simp only [List.setIfInBounds_toArray, List.set_cons_succ, List.set_cons_zero] at hB2
          have hfin : ∀ j, (fun e w2 => e = Ending.returned (.int .i64 (cInt (B.drop t) false).1) ∧ RCur w2 g (cInt (B.drop t) false).2.1 (cInt (B.drop t) false).2.2 ∧ Chg (fun b => b = g) w w2) (.returned (.int .i64 0)) (((wr.setCell ⟨g, 1, none⟩ (.int .i64 ((p : Int) + 1))).setCell ⟨g, 2, none⟩ (.bool true)).drewN j) := by
            intro j
            rw [Hnone.out]
            exact ⟨rfl, Mk.out _ (p + 1) true [] (by rw [hp1]; exact hB2.drewN _) (hC2.drewN _) (by omega) rfl, hC2.drewN _⟩
          have Hfin := Lib.hid hfin
          clear hfin hB2 hC2 hB1 hC1 hp1
          have hb0 : (k = 9 ∧ 1 < x.toNat) ∨ (x.toNat = 0 ∧ 0 < k ∧ k < 9) ∨ (x.toNat = 0 ∧ k = 9) := by omega
          clear hbad
          rcases hb0 with ⟨ha, hb2⟩ | ⟨ha, hb2, hb3⟩ | ⟨ha, hb2⟩
          · have e9 : 9 ≤ k := by omega
            have hx2 : (1 : Int) < x.toNat := by omega
            clear ha
            go_wp2_with fail
            go_quiet (fail)
            go_wp2_with fail
            go_quiet (fail)
            go_wp2_with fail
            go_ret
            exact Hfin.out _
          · obtain rfl : x = 0 := UInt8.toNat_inj.1 ha
            have hcell0 : wr.cell? (ad.add p) = some (.int .u8 0) := hcell
            clear ha hcell hx8
            go_wp2_with fail
            go_quiet (fail)
            go_wp2_with fail
            go_quiet (fail)
            go_wp2_with fail
            go_ret
            exact Hfin.out _
          · obtain rfl : x = 0 := UInt8.toNat_inj.1 ha
            have hcell0 : wr.cell? (ad.add p) = some (.int .u8 0) := hcell
            have e9 : 9 ≤ k := by omega
            clear ha hb2 hcell hx8
            go_wp2_with fail
            go_quiet (fail)
            go_wp2_with fail
            go_quiet (fail)
            go_wp2_with fail
            go_ret
            exact Hfin.out _
        · have hb1 : k = 9 → x.toNat ≤ 1 := by omega
          have hb0 : x.toNat = 0 → k = 0 := by omega
          clear hbad
          have hbits := bits_step Hq.out hk9 hx8 (fun h => by have := hb1 h; omega)
          generalize hU : q + x.toNat % 128 * 128 ^ k = U at hbits
          by_cases hx1 : x.toNat < 128
          · have hdn := dnum_end (u := q) (R := B.drop (p + 1)) hk9 hb1 hb0 hx1
            rw [hU] at hdn
            have hsome := cInt_some (bad := false) (show dnum 0 0 (B.drop t) = _ from (Hd.out.trans (by rw [Hdrop.out, hdn])))
            have hu := dnum_bound (B.drop t) 0 0 _ _ (by omega) (by omega) (Hd.out.trans (by rw [Hdrop.out, hdn]))
            have hfin : ∀ j, (fun e w2 => e = Ending.returned (.int .i64 (cInt (B.drop t) false).1) ∧ RCur w2 g (cInt (B.drop t) false).2.1 (cInt (B.drop t) false).2.2 ∧ Chg (fun b => b = g) w w2) (.returned (.int .i64 (unzz U))) ((wr.setCell ⟨g, 1, none⟩ (.int .i64 ((p : Int) + 1))).drewN j) := by
              intro j
              rw [hsome]
              exact ⟨rfl, Mk.out _ (p + 1) false _ (by rw [hp1]; exact hB1.drewN _) (hC1.drewN _) (by omega) rfl, hC1.drewN _⟩
            have Hfin := Lib.hid hfin
            clear hfin hsome hdn hB1 hC1 hp1
            have hx2 : (x.toNat : Int) < 128 := by omega
            have hU2 : (U : Int) ≤ 18446744073709551615 := by omega
            have hodd : (bits .and .u64 (U : Int) 1 == 1) = decide (U % 2 = 1) := by
              rw [and1 hu]
              by_cases h : U % 2 = 1
              · simp [h]
              · simp [show U % 2 = 0 by omega]
            have Hu := Lib.hid hu; clear hu
            by_cases hod : U % 2 = 1
            all_goals
              have hz : (if U % 2 = 1 then -((U : Int) / 2) - 1 else (U : Int) / 2) = unzz U := by unfold unzz; split <;> omega
              first | rw [if_pos hod] at hz | rw [if_neg hod] at hz
              have Hz := Lib.hid hz; clear hz
              first | rw [decide_eq_true hod] at hodd | rw [decide_eq_false hod] at hodd
              clear hod
              rcases Nat.eq_zero_or_pos k with hk0 | hk0
              · subst hk0
                obtain rfl : q = 0 := by have := Hq.out; omega
                have hbits0 : bits .or .u64 0 (IntKind.u64.wrap (IntKind.u64.wrap (bits .and .u8 (x.toNat : Int) 127))) = (U : Int) := by
                  rw [← hbits]
                  simp
                have HU := Lib.hid hU; clear hU hbits hb0 hb1
                go_wp2_with fail
                go_quiet (fail)
                go_wp2_with fail
                go_quiet (fail)
                go_wp2_with fail
                go_ret
                have h := Hfin.out
                rw [← Hz.out] at h
                exact h _
              · have HU := Lib.hid hU; clear hU
                rcases Nat.lt_or_ge k 9 with h9 | h9
                · have hx0 : 1 ≤ x.toNat := by omega
                  clear hb0 hb1
                  go_wp2_with fail
                  go_quiet (fail)
                  go_wp2_with fail
                  go_quiet (fail)
                  go_wp2_with fail
                  go_ret
                  have h := Hfin.out
                  rw [← Hz.out] at h
                  exact h _
                · have hx9 : x.toNat ≤ 1 := hb1 (by omega)
                  have hx0 : ((x.toNat : Int) == 0) = false := by simp; omega
                  have hx91 : ¬ (1 : Int) < x.toNat := by omega
                  clear hb0 hb1
                  obtain rfl : k = 9 := by omega
                  have hbits9 : bits .or .u64 (q : Int) (IntKind.u64.wrap (IntKind.u64.wrap (bits .and .u8 (x.toNat : Int) 127) * 9223372036854775808)) = (U : Int) := hbits
                  clear hbits
                  go_wp2_with fail
                  go_quiet (fail)
                  go_wp2_with fail
                  go_quiet (fail)
                  go_wp2_with fail
                  go_ret
                  have h := Hfin.out
                  rw [← Hz.out] at h
                  exact h _
          · have hk8 : k < 9 := by omega
            have hdn := dnum_on (u := q) (R := B.drop (p + 1)) hk8 hx1
            rw [hU] at hdn
            have hD : dnum 0 0 (B.drop t) = dnum (k + 1) U (B.drop (p + 1)) := Hd.out.trans (by rw [Hdrop.out, hdn])
            have hU3 : U < 128 ^ (k + 1) := by rw [← hU]; exact dnum_lt Hq.out
            have HD := Lib.hid hD
            have HU3 := Lib.hid hU3
            have HU := Lib.hid hU
            have hx0 : 1 ≤ x.toNat := by omega
            clear hD hU3 hU hdn hb0 hb1
            go_wp2_with fail
            go_quiet (fail)
            go_wp2_with fail
            go_quiet (fail)
            go_wp2_with fail
            all_goals go_roundw
            all_goals try case rel => exact ⟨k + 1, U, p + 1, rfl, by go_num, by omega, by omega, (show p + 1 = t + (k + 1) by have := Hp.out; omega), HU3.out, HD.out, by rw [hp1]; exact hB1.drewN _, hC1.drewN _⟩
            all_goals (simp [intOf]; omega)
      · have e1 : decide ((n : Int) ≤ p) = true := by simp; omega
        have hnone := cInt_none (bad := false) (show dnum 0 0 (B.drop t) = none from (Hd.out.trans (by rw [List.drop_of_length_le (by have := Hn.out; omega)]; rfl)))
        have Hnone := Lib.hid hnone; clear hnone
        have hB2 := hb.put 2 (.bool true)
        simp only [List.setIfInBounds_toArray, List.set_cons_succ, List.set_cons_zero] at hB2
        have hC2 := hC.set1 2 (.bool true)
        go_wp2_with fail
        go_quiet (fail)
        go_wp2_with fail
        go_ret
        rw [Hnone.out]
        exact ⟨rfl, Mk.out _ p true [] (hB2.drewN _) (hC2.drewN _) htk rfl, hC2.drewN _⟩
end Go.Proofs.Ytclpmadecibofaa
