/-
  gleanerlaw29.TraceWrong: a commit twice, two turned around, one missing.
-/
import Derived.Test.YteinbdifncdaiaaTraceWrongA
import Derived.Test.YteinbdifncdaiaaRegionK
import Derived.Test.YteinbdifncdaiaaRegionF
namespace Go.Proofs.Yteinbdifncdaiaa
open Go.RowKit
set_option linter.unusedVariables false
set_option linter.unusedSimpArgs false

/-- A whole struct is stored into a row's middle. -/
theorem exec_store_mid {P : Program} {o : Oper} {a : Act} {w : World} {ty : TypeId} (x y : Operand) (ho : o.op = .store ty x y) {g k : Nat} {cs : Array Value} (hx : a.eval x = .pointer (some ⟨g, k, none⟩)) (hy : a.eval y = .agg cs) (hth : w.there g k cs.size)
    (hi : (P.info? ty).map (·.size) = some cs.size) (h1 : cs.all (·.oneCell') = true) : (execOp a.eval o).run P w = .ok .skip (w.setCells g k cs.toList) := by
  unfold execOp
  simp only [ho, hx, hy, Instr.storeAt, Instr.sureAddr, Sem.run_bind, Sem.run_pure, Result.andThen_ok, run_storeVar_mid w g k ty cs hth hi h1]
/-- The cells of a commit in a row. -/
def nearC (g j : Nat) (a : Addr) : Prop := ∃ q, q < 3 ∧ a = ⟨g, j * 3 + q, none⟩
theorem keepC {w : World} {base gl n c j m : Nat} {L : List Cm} (hm : m < j) (h : OwnR rkC w base (.slice (some ⟨gl, 0, none⟩) n c) n (cv L)) {a : Addr} {v : Value} (hn : nearC gl j a) (hc : w.cell? a = some v) {vs : List Value} (hv : vs.length = 3 := by rfl) : (w.setCells gl (m * 3) vs).cell? a = some v := by
  obtain ⟨q, hq, rfl⟩ := hn
  rcases h.2 with ⟨e, _⟩ | ⟨g2, cap, cur, e, _, hb, _⟩
  · cases e
  · cases e
    have hb : Blk w gl rkC.e cur := hb
    rw [hb.cell] at hc
    rw [(hb.puts vs (m * 3)).cell, putAll_out _ _ _ _ (by omega)]
    exact hc

set_option maxRecDepth 100000 in
set_option maxHeartbeats 4000000 in
theorem traceWrong_c3 (w : World) (kids m : Nat) (hk2 : 2 ≤ kids) (hk : kids ≤ 16) (hm : m < kids) :
    Calls Try.prog 3 #[.int .i64 (kids : Int), .int .i64 3, .int .i64 (m : Int)] w fun e w2 => e = .returned (.bool true) ∧ Chg Non w w2 := by
  have d1 : ¬ (kids : Int) < 2 := by omega
  have d2 : ¬ (16 : Int) < kids := by omega
  have d3 : ¬ (kids : Int) ≤ m := by omega
  go_enter Try.func3, Try.ntmps3
  go_wp2_with fail
  refine (trace_alive _).mono ?_
  rintro e w1 ⟨rfl, hc1⟩
  go_wp2_with fail
  refine (entries_any w1 kids hk).mono ?_
  rintro e w2 ⟨g, c, A, ac, rfl, hE, hN, hc2⟩
  have hC2 := hc1.non hc2
  have hgl := (hE.lt (g := g) rfl).2
  have HE := Lib.hid hE
  have HN := Lib.hid hN
  clear hE hN hc1 hc2
  go_wp2_with fail
  obtain ⟨s2, hs2⟩ : ∃ s2, w2.heap.size = s2 := ⟨_, rfl⟩
  have hs2' : s2 ≤ w2.heap.size := by omega
  have hs2l : w2.heap.size ≤ s2 := by omega
  have hgl2 : g < s2 := by omega
  clear hs2
  go_loopw [9, 10] (RelW1 w2 kids s2) (fun _ i _ => kids + 1 - (intOf i).toNat)
  case atStart => exact ⟨0, Nat.zero_le _, rfl, OwnR.nil _ _ _, Chg.refl _ _⟩
  case round =>
    obtain ⟨j, hj, rfl, hO, hC⟩ := hrel
    have hsz := hC.size
    by_cases hlt : j < kids
    · obtain ⟨k0, k3, k4⟩ := (HE.out.non hC).kid (i := j) hlt
      have kk0 : ∀ wx, Chg Non wr wx → wx.cell? ⟨g, (j + 1) * 8, none⟩ = some (.string (one j)) := fun wx h => h.cell k0 id
      have kk3 : ∀ wx, Chg Non wr wx → wx.cell? ⟨g, (j + 1) * 8 + 3, none⟩ = some (.int .i64 0) := fun wx h => h.cell k3 id
      have kk4 : ∀ wx, Chg Non wr wx → wx.cell? ⟨g, (j + 1) * 8 + 3 + 1, none⟩ = some (.int .i64 j) := fun wx h => h.cell k4 id
      have hst : (List.range (j + 1)).map kidC = (List.range j).map kidC ++ [kidC j] := by rw [List.range_succ, List.map_append]; rfl
      have b1 : (j : Int) + 1 ≤ kids := by omega
      have Hst := Lib.hid hst
      have HO := Lib.hid hO
      clear hst hO k0 k3 k4
      go_wp2_with fail
      refine st_region_tail 12 13 Non [] [12] (fun _ _ _ _ => True) (fun _ _ _ _ => True) (fun _ _ _ => True) (fun _ => True) (by kernel_rfl) (by kernel_rfl) (by kernel_rfl) (fun _ h => h.elim) trivial (fun _ _ _ => trivial) ?_
      repeat (first | (refine st_pass (by rfl) ?_; simp only [Act.put, List.setIfInBounds_toArray, List.set_cons_succ, List.set_cons_zero]) | (refine st_plain (Non) (wr) rfl rfl (f := ?_) (by rfl) rfl rfl (fun w hC hG => ?_) ?_; rotate_left; (clear hG; first | (go_simp; done) | (go_simp; with_reducible rfl) | (simp [*, go_sem, ↓IntWalk.iteOmega]; done) | (simp [*, go_sem, ↓IntWalk.iteOmega]; with_reducible rfl)); simp only [Act.put, List.setIfInBounds_toArray, List.set_cons_succ, List.set_cons_zero]))
      refine st_minor Non wr rfl rfl (ob := .cells #[.string (one j), .int .i64 0, .int .i64 j] 34) (kd := some (1, 1)) (by rfl) rfl rfl (fun w hC hG => by clear hG; go_simp; rfl) (fun g2 => ?_)
      simp only [Act.put, List.setIfInBounds_toArray, List.set_cons_succ, List.set_cons_zero]
      refine st_tail Non wr rfl rfl rfl (fun w7 hC7 hS7 hG7 => ?_)
      have hB7 : Blk w7 g2 34 #[.string (one j), .int .i64 0, .int .i64 j] := (hG7 12).2
      clear hG7 hS7
      simp only [List.drop_succ_cons, List.drop_zero, mkv]
      refine appRs (K := rkC) rfl (.tmp 43) (.tmp 55) rfl (HO.out.non hC7) rfl (Rds.blockN (m := 1) (size := 3) hB7 rfl) rfl (cellC_one (kidC j)) (by omega) (by have := hC7.size; omega) (fun A8 c8 w8 hO8 hc8 hb8 => ?_)
      simp only [Act.put, List.setIfInBounds_toArray, List.set_cons_succ, List.set_cons_zero]
      have hO9 : OwnR rkC w8 s2 (.slice A8 (j + 1) c8) (j + 1) (cv ((List.range (j + 1)).map kidC)) := by rw [Hst.out, cv_snoc2]; exact hO8
      have hC9 : Chg Non w2 w8 := (hC.non hC7).trans2 hc8 (fun b e => .inr (by have := (HO.out.lt e).1; omega))
      have hrel : RelW1 w2 kids s2 (.slice A8 (j + 1) c8) (.int .i64 ((j + 1 + 1 : Nat) : Int)) w8 := ⟨j + 1, by omega, rfl, hO9, hC9⟩
      have Hrel := Lib.hid hrel
      clear hrel hO9 hC9 hO8 hc8 hb8 hB7 hC7 kk0 kk3 kk4
      go_wp2_with fail
      go_roundw
      case rel => exact Hrel.out
      case measure => simp [intOf]; omega
    · obtain rfl : j = kids := by omega
      have b1 : ¬ (j : Int) + 1 ≤ j := by omega
      have HO := Lib.hid hO
      have HC := Lib.hid hC
      have h3 : wr.cell? ⟨g, 3, none⟩ = some (.int .i64 0) := (HE.out.non hC).cellN (K := rkE) entC_len (k := 0) (x := headE A ac j j) rfl (j := 3) rfl
      have h4 : wr.cell? ⟨g, 4, none⟩ = some (.int .i64 100) := (HE.out.non hC).cellN (K := rkE) entC_len (k := 0) (x := headE A ac j j) rfl (j := 4) rfl
      clear hO hC
      go_wp2_with (first
        | (at_builtin; refine appR1s (K := rkC) rfl (.tmp 57) (.tmp 63) rfl HO.out rfl (cs := #[.string ⟨#[]⟩, .int .i64 0, .int .i64 100]) rfl rfl (cellC_one headC) ?_ ?_ ?_; (next => omega); (next => omega); intro A5 c5 w5 hO5 hc5 hb5; obtain ⟨gl, cl, e5, hcl5, hcm5, hgs5, hgl5⟩ := hO5.form (by omega); injection e5 with e51 e52 e53; subst e51 e53; have hB5 : OwnR rkC w5 s2 (.slice (some ⟨gl, 0, none⟩) (j + 1) c5) (j + 1) (cv (base j)) := (by unfold base; rw [cv_snoc2]; exact hO5); have p0 : w5.cell? ⟨gl, m * 3, none⟩ = some (.string (one m)) := hB5.cellN (K := rkC) cellC_len (base_kid hm) (j := 0) rfl; have p1 : w5.cell? ⟨gl, m * 3 + 1, none⟩ = some (.int .i64 0) := hB5.cellN (K := rkC) cellC_len (base_kid hm) (j := 1) rfl; have p2 : w5.cell? ⟨gl, m * 3 + 2, none⟩ = some (.int .i64 m) := hB5.cellN (K := rkC) cellC_len (base_kid hm) (j := 2) rfl; have hs5 := hc5.size; have HB := Lib.hid hB5; clear hB5 hO5)
        | (at_builtin; refine appR1s (K := rkC) rfl (.tmp 85) (.tmp 90) rfl HB.out rfl (cs := #[.string (one m), .int .i64 0, .int .i64 m]) rfl rfl (cellC_one (kidC m)) ?_ ?_ ?_; (next => omega); (next => omega); intro A6 c6 w6 hO6 hc6 hb6))
      have hC5 : Chg Non w2 w5 := HC.out.trans2 hc5 (fun b e => .inr (by have := (HO.out.lt e).1; omega))
      have hL6 : OwnR rkC w6 s2 (.slice A6 (j + 1 + 1) c6) (j + 1 + 1) (cv (base j ++ [kidC m])) := by rw [cv_snoc2]; exact hO6
      have hC6 : Chg Non w2 w6 := hC5.trans2 hc6 (fun b e => .inr (by have := (HB.out.lt e).1; omega))
      clear hO6 hc6 hb6 p0 p1 p2
      have hrow := (tree_row hk HE.out HN.out).non hC6
      have hsml : ∀ c ∈ base j ++ [kidC m], c.1.size ≤ maxLen := by intro c hc; rcases List.mem_append.1 hc with h | h; (exact base_small j c h); (simp only [List.mem_singleton] at h; subst h; exact one_small m)
      have hr6 := Rds.of_own hL6
      have hcw := hC2.non hC6
      have hn6 : (j + 1 + 1) ≤ 1000000 := by omega
      have hchk := check_any w6 (some ⟨g, 0, none⟩) (j + 1) c (tree A ac j j) A6 (j + 1 + 1) c6 (base j ++ [kidC m]) hrow hr6 (by omega) hn6 hsml
      have hwh := fun (w7 : World) (h7 : Chg Non w6 w7) => whole_any w7 (some ⟨g, 0, none⟩) (j + 1) c (tree A ac j j) A6 (j + 1 + 1) c6 (base j ++ [kidC m]) (hrow.non h7) (hr6.non h7) (by omega) hn6 hsml
      have hl : chkP (tree A ac j j) (base j ++ [kidC m]) = ((j : Int) + 1, false) := by rw [wrong3 hk hm]; rfl
      have hwb : wholeB (tree A ac j j) (base j ++ [kidC m]) = false := by
        unfold wholeB
        rw [hl]
        rfl
      rw [hwb] at hwh
      have Hl := Lib.hid hl
      have Hwh := Lib.hid hwh
      clear hl hwb hwh hr6 hrow hsml hL6 hC6
      refine hchk.mono ?_
      rintro e w7 ⟨rfl, hc7⟩
      rw [Hl.out]
      have hw7 := Hwh.out w7 hc7
      have hC7 := hcw.non hc7
      clear hchk hc7 hcw
      go_wp2_with fail
      refine hw7.mono ?_
      rintro e w8 ⟨rfl, hc8⟩
      have hC8 := hC7.non hc8
      clear hw7 hc8 hC7
      go_wp2_with fail
      go_ret
      exact ⟨rfl, hC8⟩

set_option maxRecDepth 100000 in
set_option maxHeartbeats 4000000 in
theorem traceWrong_c4 (w : World) (kids m : Nat) (hk2 : 2 ≤ kids) (hk : kids ≤ 16) (hm : m < kids) :
    Calls Try.prog 3 #[.int .i64 (kids : Int), .int .i64 4, .int .i64 (m : Int)] w fun e w2 => e = .returned (.bool true) ∧ Chg Non w w2 := by
  have d1 : ¬ (kids : Int) < 2 := by omega
  have d2 : ¬ (16 : Int) < kids := by omega
  have d3 : ¬ (kids : Int) ≤ m := by omega
  go_enter Try.func3, Try.ntmps3
  go_wp2_with fail
  refine (trace_alive _).mono ?_
  rintro e w1 ⟨rfl, hc1⟩
  go_wp2_with fail
  refine (entries_any w1 kids hk).mono ?_
  rintro e w2 ⟨g, c, A, ac, rfl, hE, hN, hc2⟩
  have hC2 := hc1.non hc2
  have hgl := (hE.lt (g := g) rfl).2
  have HE := Lib.hid hE
  have HN := Lib.hid hN
  clear hE hN hc1 hc2
  go_wp2_with fail
  obtain ⟨s2, hs2⟩ : ∃ s2, w2.heap.size = s2 := ⟨_, rfl⟩
  have hs2' : s2 ≤ w2.heap.size := by omega
  have hs2l : w2.heap.size ≤ s2 := by omega
  have hgl2 : g < s2 := by omega
  clear hs2
  go_loopw [9, 10] (RelW1 w2 kids s2) (fun _ i _ => kids + 1 - (intOf i).toNat)
  case atStart => exact ⟨0, Nat.zero_le _, rfl, OwnR.nil _ _ _, Chg.refl _ _⟩
  case round =>
    obtain ⟨j, hj, rfl, hO, hC⟩ := hrel
    have hsz := hC.size
    by_cases hlt : j < kids
    · obtain ⟨k0, k3, k4⟩ := (HE.out.non hC).kid (i := j) hlt
      have kk0 : ∀ wx, Chg Non wr wx → wx.cell? ⟨g, (j + 1) * 8, none⟩ = some (.string (one j)) := fun wx h => h.cell k0 id
      have kk3 : ∀ wx, Chg Non wr wx → wx.cell? ⟨g, (j + 1) * 8 + 3, none⟩ = some (.int .i64 0) := fun wx h => h.cell k3 id
      have kk4 : ∀ wx, Chg Non wr wx → wx.cell? ⟨g, (j + 1) * 8 + 3 + 1, none⟩ = some (.int .i64 j) := fun wx h => h.cell k4 id
      have hst : (List.range (j + 1)).map kidC = (List.range j).map kidC ++ [kidC j] := by rw [List.range_succ, List.map_append]; rfl
      have b1 : (j : Int) + 1 ≤ kids := by omega
      have Hst := Lib.hid hst
      have HO := Lib.hid hO
      clear hst hO k0 k3 k4
      go_wp2_with fail
      refine st_region_tail 12 13 Non [] [12] (fun _ _ _ _ => True) (fun _ _ _ _ => True) (fun _ _ _ => True) (fun _ => True) (by kernel_rfl) (by kernel_rfl) (by kernel_rfl) (fun _ h => h.elim) trivial (fun _ _ _ => trivial) ?_
      repeat (first | (refine st_pass (by rfl) ?_; simp only [Act.put, List.setIfInBounds_toArray, List.set_cons_succ, List.set_cons_zero]) | (refine st_plain (Non) (wr) rfl rfl (f := ?_) (by rfl) rfl rfl (fun w hC hG => ?_) ?_; rotate_left; (clear hG; first | (go_simp; done) | (go_simp; with_reducible rfl) | (simp [*, go_sem, ↓IntWalk.iteOmega]; done) | (simp [*, go_sem, ↓IntWalk.iteOmega]; with_reducible rfl)); simp only [Act.put, List.setIfInBounds_toArray, List.set_cons_succ, List.set_cons_zero]))
      refine st_minor Non wr rfl rfl (ob := .cells #[.string (one j), .int .i64 0, .int .i64 j] 34) (kd := some (1, 1)) (by rfl) rfl rfl (fun w hC hG => by clear hG; go_simp; rfl) (fun g2 => ?_)
      simp only [Act.put, List.setIfInBounds_toArray, List.set_cons_succ, List.set_cons_zero]
      refine st_tail Non wr rfl rfl rfl (fun w7 hC7 hS7 hG7 => ?_)
      have hB7 : Blk w7 g2 34 #[.string (one j), .int .i64 0, .int .i64 j] := (hG7 12).2
      clear hG7 hS7
      simp only [List.drop_succ_cons, List.drop_zero, mkv]
      refine appRs (K := rkC) rfl (.tmp 43) (.tmp 55) rfl (HO.out.non hC7) rfl (Rds.blockN (m := 1) (size := 3) hB7 rfl) rfl (cellC_one (kidC j)) (by omega) (by have := hC7.size; omega) (fun A8 c8 w8 hO8 hc8 hb8 => ?_)
      simp only [Act.put, List.setIfInBounds_toArray, List.set_cons_succ, List.set_cons_zero]
      have hO9 : OwnR rkC w8 s2 (.slice A8 (j + 1) c8) (j + 1) (cv ((List.range (j + 1)).map kidC)) := by rw [Hst.out, cv_snoc2]; exact hO8
      have hC9 : Chg Non w2 w8 := (hC.non hC7).trans2 hc8 (fun b e => .inr (by have := (HO.out.lt e).1; omega))
      have hrel : RelW1 w2 kids s2 (.slice A8 (j + 1) c8) (.int .i64 ((j + 1 + 1 : Nat) : Int)) w8 := ⟨j + 1, by omega, rfl, hO9, hC9⟩
      have Hrel := Lib.hid hrel
      clear hrel hO9 hC9 hO8 hc8 hb8 hB7 hC7 kk0 kk3 kk4
      go_wp2_with fail
      go_roundw
      case rel => exact Hrel.out
      case measure => simp [intOf]; omega
    · obtain rfl : j = kids := by omega
      have b1 : ¬ (j : Int) + 1 ≤ j := by omega
      have HO := Lib.hid hO
      have HC := Lib.hid hC
      have h3 : wr.cell? ⟨g, 3, none⟩ = some (.int .i64 0) := (HE.out.non hC).cellN (K := rkE) entC_len (k := 0) (x := headE A ac j j) rfl (j := 3) rfl
      have h4 : wr.cell? ⟨g, 4, none⟩ = some (.int .i64 100) := (HE.out.non hC).cellN (K := rkE) entC_len (k := 0) (x := headE A ac j j) rfl (j := 4) rfl
      clear hO hC
      go_wp2_with (at_builtin; refine appR1s (K := rkC) rfl (.tmp 57) (.tmp 63) rfl HO.out rfl (cs := #[.string ⟨#[]⟩, .int .i64 0, .int .i64 100]) rfl rfl (cellC_one headC) ?_ ?_ ?_; (next => omega); (next => omega); intro A5 c5 w5 hO5 hc5 hb5; obtain ⟨gl, cl, e5, hcl5, hcm5, hgs5, hgl5⟩ := hO5.form (by omega); injection e5 with e51 e52 e53; subst e51 e53; have hB5 : OwnR rkC w5 s2 (.slice (some ⟨gl, 0, none⟩) (j + 1) c5) (j + 1) (cv (base j)) := (by unfold base; rw [cv_snoc2]; exact hO5); have hs5 := hc5.size; have HB := Lib.hid hB5; clear hB5 hO5)
      have hC5 : Chg Non w2 w5 := HC.out.trans2 hc5 (fun b e => .inr (by have := (HO.out.lt e).1; omega))
      have hxm := base_kid hm
      have hxh := base_head j
      have kh0 : ∀ wx, CK (fun b => b = gl) (nearC gl j) w5 wx → wx.cell? ⟨gl, j * 3, none⟩ = some (.string ⟨#[]⟩) := fun wx h => h.2 _ _ ⟨0, by omega, rfl⟩ (HB.out.cellN (K := rkC) cellC_len hxh (j := 0) rfl)
      have kh1 : ∀ wx, CK (fun b => b = gl) (nearC gl j) w5 wx → wx.cell? ⟨gl, j * 3 + 1, none⟩ = some (.int .i64 0) := fun wx h => h.2 _ _ ⟨1, by omega, rfl⟩ (HB.out.cellN (K := rkC) cellC_len hxh (j := 1) rfl)
      have kh2 : ∀ wx, CK (fun b => b = gl) (nearC gl j) w5 wx → wx.cell? ⟨gl, j * 3 + 2, none⟩ = some (.int .i64 100) := fun wx h => h.2 _ _ ⟨2, by omega, rfl⟩ (HB.out.cellN (K := rkC) cellC_len hxh (j := 2) rfl)
      have b2 : (m : Int) < (j : Int) + 1 := by omega
      have b3 : (j : Int) < (j : Int) + 1 := by omega
      have Hxm := Lib.hid hxm
      clear hxm hxh
      refine st_region_tailK 12 14 (fun b => b = gl) (nearC gl j) [11, 13] [] (fun i _ _ wx => OwnR rkC wx s2 (.slice (some ⟨gl, 0, none⟩) (j + 1) c5) (j + 1) (cv (if i = 13 then (base j).set m headC else base j))) (fun _ _ _ _ => True) (fun i _ v => v = if i = 13 then undef else .agg #[.string (one m), .int .i64 0, .int .i64 m]) (fun wx => OwnR rkC wx s2 (.slice (some ⟨gl, 0, none⟩) (j + 1) c5) (j + 1) (cv (base j))) (by kernel_rfl) (by kernel_rfl) (by kernel_rfl) (fun b e => by rw [show b = gl from e]; omega) HB.out (fun _ _ h => h.alloc _) ?_
      repeat (first | (refine st_passK (by rfl) ?_; simp only [Act.put, List.setIfInBounds_toArray, List.set_cons_succ, List.set_cons_zero]) | (refine st_plainK (fun b => b = gl) (nearC gl j) (w5) rfl rfl rfl (f := ?_) (by rfl) rfl rfl (fun w hC hG => ?_) ?_; rotate_left; (clear hG; first | (go_simp; done) | (go_simp; with_reducible rfl) | (simp [*, go_sem, ↓IntWalk.iteOmega]; done) | (simp [*, go_sem, ↓IntWalk.iteOmega]; with_reducible rfl)); simp only [Act.put, List.setIfInBounds_toArray, List.set_cons_succ, List.set_cons_zero]))
      refine st_majorK (fun b => b = gl) (nearC gl j) (w5) rfl rfl rfl (by rfl) rfl (⟨_, rfl⟩) (fun _ _ _ _ _ _ => trivial) (fun v w ob h => h.alloc ob) (fun w hC hG hS => ?_) ?_
      · have p0 : w.cell? ⟨gl, m * 3, none⟩ = some (.string (one m)) := OwnR.cellN (K := rkC) cellC_len hS Hxm.out (j := 0) rfl
        have p1 : w.cell? ⟨gl, m * 3 + 1, none⟩ = some (.int .i64 0) := OwnR.cellN (K := rkC) cellC_len hS Hxm.out (j := 1) rfl
        have p2 : w.cell? ⟨gl, m * 3 + 2, none⟩ = some (.int .i64 m) := OwnR.cellN (K := rkC) cellC_len hS Hxm.out (j := 2) rfl
        clear hG
        refine settle_of (r2 := .ok (.value (.agg #[.string (one m), .int .i64 0, .int .i64 m])) w) ?_ (settle_value ⟨rfl, CK.refl _ _ _, hS, trivial⟩)
        first | (go_simp; done) | (go_simp; rfl)
      rintro v hv
      obtain rfl : v = .agg #[.string (one m), .int .i64 0, .int .i64 m] := hv
      simp only [Act.put, List.setIfInBounds_toArray, List.set_cons_succ, List.set_cons_zero]
      repeat (first | (refine st_passK (by rfl) ?_; simp only [Act.put, List.setIfInBounds_toArray, List.set_cons_succ, List.set_cons_zero]) | (refine st_plainK (fun b => b = gl) (nearC gl j) (w5) rfl rfl rfl (f := ?_) (by rfl) rfl rfl (fun w hC hG => ?_) ?_; rotate_left; (clear hG; first | (go_simp; done) | (go_simp; with_reducible rfl) | (simp [*, go_sem, ↓IntWalk.iteOmega]; done) | (simp [*, go_sem, ↓IntWalk.iteOmega]; with_reducible rfl)); simp only [Act.put, List.setIfInBounds_toArray, List.set_cons_succ, List.set_cons_zero]))
      refine st_majorK (fun b => b = gl) (nearC gl j) (w5) rfl rfl rfl (by rfl) rfl (⟨_, rfl⟩) (fun _ _ _ _ _ _ => trivial) (fun v w ob h => h.alloc ob) (fun w hC hG hS => ?_) ?_
      · have hS : OwnR rkC w s2 (.slice (some ⟨gl, 0, none⟩) (j + 1) c5) (j + 1) (cv (base j)) := hS
        clear hG
        refine settle_of (exec_store_mid (P := Try.prog) (.tmp 108) (.tmp 103) rfl (g := gl) (k := m * 3) (cs := #[.string ⟨#[]⟩, .int .i64 0, .int .i64 100]) rfl rfl (hS.there (k := m) (by omega)) (by kernel_rfl) (all_oneCell_toArray (cellC_one headC))) (settle_skip ⟨rfl, ⟨Chg.sets (S := fun b => b = gl) (.inl rfl) _ _ _ (Chg.refl _ _), fun a v hn hc => ?_⟩, put3 (y := headC) hS Hxm.out, trivial⟩)
        exact keepC hm hS hn hc
      rintro v hv
      obtain rfl : v = undef := hv
      simp only [Act.put, List.setIfInBounds_toArray, List.set_cons_succ, List.set_cons_zero]
      repeat (first | (refine st_passK (by rfl) ?_; simp only [Act.put, List.setIfInBounds_toArray, List.set_cons_succ, List.set_cons_zero]) | (refine st_plainK (fun b => b = gl) (nearC gl j) (w5) rfl rfl rfl (f := ?_) (by rfl) rfl rfl (fun w hC hG => ?_) ?_; rotate_left; (clear hG; first | (go_simp; done) | (go_simp; with_reducible rfl) | (simp [*, go_sem, ↓IntWalk.iteOmega]; done) | (simp [*, go_sem, ↓IntWalk.iteOmega]; with_reducible rfl)); simp only [Act.put, List.setIfInBounds_toArray, List.set_cons_succ, List.set_cons_zero]))
      refine st_tailK (fun b => b = gl) (nearC gl j) w5 rfl rfl rfl rfl (fun w8 hC8 hS8 hG8 => ?_)
      have hO8 : OwnR rkC w8 s2 (.slice (some ⟨gl, 0, none⟩) (j + 1) c5) (j + 1) (cv ((base j).set m headC)) := hS8
      clear hS8 hG8
      simp only [List.drop_succ_cons, List.drop_zero]
      have hth2 := hO8.there (k := j) (by omega)
      have hL6 := put3 (k := j) (y := kidC m) hO8 (x := headC) (by rw [List.getElem?_set_ne (by omega)]; exact base_head j)
      have hC6 : Chg Non w2 (w8.setCells gl (j * 3) (cellC (kidC m))) := Chg.sets (.inr (by omega)) _ _ _ (hC5.trans2 hC8.1 (fun b e => .inr (by have e : b = gl := e; omega)))
      have Hth2 := Lib.hid hth2
      have HL6 := Lib.hid hL6
      have HC6 := Lib.hid hC6
      clear hth2 hO8 hL6 hC6 hC8 kh0 kh1 kh2
      go_wp2_with (refine wpList_store_mid (op := ⟨none, .store 34 (.tmp 109) (.tmp 107), _, _, _, _⟩) rfl _ _ _ rfl gl (j * 3) #[.string (one m), .int .i64 0, .int .i64 m] rfl rfl Hth2.out (by kernel_rfl) (all_oneCell_toArray (cellC_one (kidC m))) ?_)
      have hL6 := HL6.out
      have hC6 := HC6.out
      obtain ⟨w6, hw6⟩ : ∃ w6, w8.setCells gl (j * 3) (cellC (kidC m)) = w6 := ⟨_, rfl⟩
      rw [hw6] at hL6 hC6
      have e6 : w8.setCells gl (j * 3) (#[.string (one m), .int .i64 0, .int .i64 m] : Array Value).toList = w6 := hw6
      first | rw [e6] | (simp only [] at e6; rw [e6])
      clear hw6 e6 Hth2 HL6 HC6
      have hrow := (tree_row hk HE.out HN.out).non hC6
      have hsml : ∀ c ∈ ((base j).set m headC).set j (kidC m), c.1.size ≤ maxLen := set_small (set_small (base_small j) (by decide)) (one_small m)
      have hr6 := Rds.of_own hL6
      have hcw := hC2.non hC6
      have hn6 : (j + 1) ≤ 1000000 := by omega
      have hchk := check_any w6 (some ⟨g, 0, none⟩) (j + 1) c (tree A ac j j) (some ⟨gl, 0, none⟩) (j + 1) c5 (((base j).set m headC).set j (kidC m)) hrow hr6 (by omega) hn6 hsml
      have hwh := fun (w7 : World) (h7 : Chg Non w6 w7) => whole_any w7 (some ⟨g, 0, none⟩) (j + 1) c (tree A ac j j) (some ⟨gl, 0, none⟩) (j + 1) c5 (((base j).set m headC).set j (kidC m)) (hrow.non h7) (hr6.non h7) (by omega) hn6 hsml
      have hl : chkP (tree A ac j j) (((base j).set m headC).set j (kidC m)) = ((m : Int), false) := wrong4 hk hm
      have hwb : wholeB (tree A ac j j) (((base j).set m headC).set j (kidC m)) = false := by
        unfold wholeB
        rw [hl]
        rfl
      rw [hwb] at hwh
      have Hl := Lib.hid hl
      have Hwh := Lib.hid hwh
      clear hl hwb hwh hr6 hrow hsml hL6 hC6
      refine hchk.mono ?_
      rintro e w7 ⟨rfl, hc7⟩
      rw [Hl.out]
      have hw7 := Hwh.out w7 hc7
      have hC7 := hcw.non hc7
      clear hchk hc7 hcw
      go_wp2_with fail
      refine hw7.mono ?_
      rintro e w8 ⟨rfl, hc8⟩
      have hC8 := hC7.non hc8
      clear hw7 hc8 hC7
      go_wp2_with fail
      go_ret
      exact ⟨rfl, hC8⟩

set_option maxRecDepth 100000 in
set_option maxHeartbeats 4000000 in
theorem traceWrong_c5 (w : World) (kids m : Nat) (hk2 : 2 ≤ kids) (hk : kids ≤ 16) (hm : m < kids) :
    Calls Try.prog 3 #[.int .i64 (kids : Int), .int .i64 5, .int .i64 (m : Int)] w fun e w2 => e = .returned (.bool true) ∧ Chg Non w w2 := by
  have d1 : ¬ (kids : Int) < 2 := by omega
  have d2 : ¬ (16 : Int) < kids := by omega
  have d3 : ¬ (kids : Int) ≤ m := by omega
  go_enter Try.func3, Try.ntmps3
  go_wp2_with fail
  refine (trace_alive _).mono ?_
  rintro e w1 ⟨rfl, hc1⟩
  go_wp2_with fail
  refine (entries_any w1 kids hk).mono ?_
  rintro e w2 ⟨g, c, A, ac, rfl, hE, hN, hc2⟩
  have hC2 := hc1.non hc2
  have hgl := (hE.lt (g := g) rfl).2
  have HE := Lib.hid hE
  have HN := Lib.hid hN
  clear hE hN hc1 hc2
  go_wp2_with fail
  obtain ⟨s2, hs2⟩ : ∃ s2, w2.heap.size = s2 := ⟨_, rfl⟩
  have hs2' : s2 ≤ w2.heap.size := by omega
  have hs2l : w2.heap.size ≤ s2 := by omega
  have hgl2 : g < s2 := by omega
  clear hs2
  go_loopw [9, 10] (RelW1 w2 kids s2) (fun _ i _ => kids + 1 - (intOf i).toNat)
  case atStart => exact ⟨0, Nat.zero_le _, rfl, OwnR.nil _ _ _, Chg.refl _ _⟩
  case round =>
    obtain ⟨j, hj, rfl, hO, hC⟩ := hrel
    have hsz := hC.size
    by_cases hlt : j < kids
    · obtain ⟨k0, k3, k4⟩ := (HE.out.non hC).kid (i := j) hlt
      have kk0 : ∀ wx, Chg Non wr wx → wx.cell? ⟨g, (j + 1) * 8, none⟩ = some (.string (one j)) := fun wx h => h.cell k0 id
      have kk3 : ∀ wx, Chg Non wr wx → wx.cell? ⟨g, (j + 1) * 8 + 3, none⟩ = some (.int .i64 0) := fun wx h => h.cell k3 id
      have kk4 : ∀ wx, Chg Non wr wx → wx.cell? ⟨g, (j + 1) * 8 + 3 + 1, none⟩ = some (.int .i64 j) := fun wx h => h.cell k4 id
      have hst : (List.range (j + 1)).map kidC = (List.range j).map kidC ++ [kidC j] := by rw [List.range_succ, List.map_append]; rfl
      have b1 : (j : Int) + 1 ≤ kids := by omega
      have Hst := Lib.hid hst
      have HO := Lib.hid hO
      clear hst hO k0 k3 k4
      go_wp2_with fail
      refine st_region_tail 12 13 Non [] [12] (fun _ _ _ _ => True) (fun _ _ _ _ => True) (fun _ _ _ => True) (fun _ => True) (by kernel_rfl) (by kernel_rfl) (by kernel_rfl) (fun _ h => h.elim) trivial (fun _ _ _ => trivial) ?_
      repeat (first | (refine st_pass (by rfl) ?_; simp only [Act.put, List.setIfInBounds_toArray, List.set_cons_succ, List.set_cons_zero]) | (refine st_plain (Non) (wr) rfl rfl (f := ?_) (by rfl) rfl rfl (fun w hC hG => ?_) ?_; rotate_left; (clear hG; first | (go_simp; done) | (go_simp; with_reducible rfl) | (simp [*, go_sem, ↓IntWalk.iteOmega]; done) | (simp [*, go_sem, ↓IntWalk.iteOmega]; with_reducible rfl)); simp only [Act.put, List.setIfInBounds_toArray, List.set_cons_succ, List.set_cons_zero]))
      refine st_minor Non wr rfl rfl (ob := .cells #[.string (one j), .int .i64 0, .int .i64 j] 34) (kd := some (1, 1)) (by rfl) rfl rfl (fun w hC hG => by clear hG; go_simp; rfl) (fun g2 => ?_)
      simp only [Act.put, List.setIfInBounds_toArray, List.set_cons_succ, List.set_cons_zero]
      refine st_tail Non wr rfl rfl rfl (fun w7 hC7 hS7 hG7 => ?_)
      have hB7 : Blk w7 g2 34 #[.string (one j), .int .i64 0, .int .i64 j] := (hG7 12).2
      clear hG7 hS7
      simp only [List.drop_succ_cons, List.drop_zero, mkv]
      refine appRs (K := rkC) rfl (.tmp 43) (.tmp 55) rfl (HO.out.non hC7) rfl (Rds.blockN (m := 1) (size := 3) hB7 rfl) rfl (cellC_one (kidC j)) (by omega) (by have := hC7.size; omega) (fun A8 c8 w8 hO8 hc8 hb8 => ?_)
      simp only [Act.put, List.setIfInBounds_toArray, List.set_cons_succ, List.set_cons_zero]
      have hO9 : OwnR rkC w8 s2 (.slice A8 (j + 1) c8) (j + 1) (cv ((List.range (j + 1)).map kidC)) := by rw [Hst.out, cv_snoc2]; exact hO8
      have hC9 : Chg Non w2 w8 := (hC.non hC7).trans2 hc8 (fun b e => .inr (by have := (HO.out.lt e).1; omega))
      have hrel : RelW1 w2 kids s2 (.slice A8 (j + 1) c8) (.int .i64 ((j + 1 + 1 : Nat) : Int)) w8 := ⟨j + 1, by omega, rfl, hO9, hC9⟩
      have Hrel := Lib.hid hrel
      clear hrel hO9 hC9 hO8 hc8 hb8 hB7 hC7 kk0 kk3 kk4
      go_wp2_with fail
      go_roundw
      case rel => exact Hrel.out
      case measure => simp [intOf]; omega
    · obtain rfl : j = kids := by omega
      have b1 : ¬ (j : Int) + 1 ≤ j := by omega
      have HO := Lib.hid hO
      have HC := Lib.hid hC
      have h3 : wr.cell? ⟨g, 3, none⟩ = some (.int .i64 0) := (HE.out.non hC).cellN (K := rkE) entC_len (k := 0) (x := headE A ac j j) rfl (j := 3) rfl
      have h4 : wr.cell? ⟨g, 4, none⟩ = some (.int .i64 100) := (HE.out.non hC).cellN (K := rkE) entC_len (k := 0) (x := headE A ac j j) rfl (j := 4) rfl
      clear hO hC
      go_wp2_with (at_builtin; refine appR1s (K := rkC) rfl (.tmp 57) (.tmp 63) rfl HO.out rfl (cs := #[.string ⟨#[]⟩, .int .i64 0, .int .i64 100]) rfl rfl (cellC_one headC) ?_ ?_ ?_; (next => omega); (next => omega); intro A5 c5 w5 hO5 hc5 hb5; obtain ⟨gl, cl, e5, hcl5, hcm5, hgs5, hgl5⟩ := hO5.form (by omega); injection e5 with e51 e52 e53; subst e51 e53; have hB5 : OwnR rkC w5 s2 (.slice (some ⟨gl, 0, none⟩) (j + 1) c5) (j + 1) (cv (base j)) := (by unfold base; rw [cv_snoc2]; exact hO5); have hs5 := hc5.size; have HB := Lib.hid hB5; clear hB5 hO5)
      have hC5 : Chg Non w2 w5 := HC.out.trans2 hc5 (fun b e => .inr (by have := (HO.out.lt e).1; omega))
      have hrd := Rds.of_own HB.out
      have hup := hrd.upto (k := m) (by omega)
      have hcu := hrd.cutA (k := m + 1) (c := c5) (by omega) (by omega)
      simp only [show (rkC).size = 3 from rfl] at hup hcu
      rw [show (cv (base j)).take (m * 3) = cv ((base j).take m) from flat_take cellC_len _ _] at hup
      rw [show (cv (base j)).drop ((m + 1) * 3) = cv ((base j).drop (m + 1)) from flat_drop cellC_len _ _] at hcu
      have hjm : j + 1 - (m + 1) = j - m := by omega
      rw [hjm] at hcu
      have q1 : ∀ w : World, (Instr.slice 25 (.slice (some ⟨gl, 0, none⟩) (j + 1) c5) none (some (.int .i64 (m : Int))) none).run Try.prog w = .ok (.slice (some ⟨gl, 0, none⟩) m c5) w :=
        fun w => run_slice_hi Try.underlying25 (by kernel_rfl) (i := (m : Int)) (k := m) rfl (by omega) _ _ w
      have q2 : ∀ w : World, (Instr.slice 25 (.slice (some ⟨gl, 0, none⟩) (j + 1) c5) (some (.int .i64 ((m : Int) + 1))) none none).run Try.prog w = .ok (.slice (cutA (some ⟨gl, 0, none⟩) c5 (m + 1) 3) (j - m) (c5 - (m + 1))) w := by
        intro w
        rw [← hjm]
        exact run_slice_lo Try.underlying25 3 (by kernel_rfl) (by kernel_rfl) (i := (m : Int) + 1) (k := m + 1) (by omega) (by omega) _ _ w
      have q3 : ∀ w : World, (Instr.slice 25 (.slice (some ⟨gl, 0, none⟩) (j + 1) c5) (some (.int .i64 (IntKind.i64.wrap ((m : Int) + 1)))) none none).run Try.prog w = .ok (.slice (cutA (some ⟨gl, 0, none⟩) c5 (m + 1) 3) (j - m) (c5 - (m + 1))) w := by
        rw [IntWalk.i64_in ((m : Int) + 1) (by omega)]
        exact q2
      generalize cutA (some ⟨gl, 0, none⟩) c5 (m + 1) 3 = BB at hcu q2 q3
      have b2 : (m : Int) + 1 ≤ 1000 := by omega
      have hupl : ((base j).take m).length = m := by rw [List.length_take, base_len]; omega
      have Hup := Lib.hid hup
      clear hjm
      have Hcu := Lib.hid hcu
      clear hrd hup hcu
      refine st_region_tail 12 8 Non [3] [] (fun _ _ v wx => OwnR rkC wx w5.heap.size v m (cv ((base j).take m))) (fun _ _ _ _ => True) (fun _ _ v => ∃ A n c, v = .slice A n c) (fun _ => True) (by kernel_rfl) (by kernel_rfl) (by kernel_rfl) (fun _ h => h.elim) trivial (fun _ _ _ => trivial) ?_
      repeat (first | (refine st_pass (by rfl) ?_; simp only [Act.put, List.setIfInBounds_toArray, List.set_cons_succ, List.set_cons_zero]) | (refine st_plain (Non) (w5) rfl rfl (f := ?_) (by rfl) rfl rfl (fun w hC hG => ?_) ?_; rotate_left; (clear hG; first | (go_simp; done) | (go_simp; with_reducible rfl) | (simp [*, go_sem, ↓IntWalk.iteOmega]; done) | (simp [*, go_sem, ↓IntWalk.iteOmega]; with_reducible rfl)); simp only [Act.put, List.setIfInBounds_toArray, List.set_cons_succ, List.set_cons_zero]))
      refine st_major (Non) (w5) rfl rfl (by rfl) rfl (⟨.slice none 0 0, none, 0, 0, rfl⟩) (fun _ _ _ _ _ _ => trivial) (fun v w ob h => h.alloc ob) (fun w hC hG hS => ?_) ?_
      · refine settle_appR (K := rkC) (.const (.slice none 0 0)) (.tmp 115) rfl (OwnR.nil rkC w w5.heap.size) rfl (Hup.out.non hC) rfl (cv_one _) (by omega) hC.size ?_
        intro v2 w9 h2 h3 h4
        obtain ⟨A2, c2, rfl, _⟩ := h2.open_
        refine ⟨⟨_, _, _, rfl⟩, h3.mono (fun b e => by cases e), ?_, trivial⟩
        simpa using h2
      · rintro v4 ⟨A4, n4, c4, rfl⟩
        simp only [Act.put, List.setIfInBounds_toArray, List.set_cons_succ, List.set_cons_zero]
        repeat (first | (refine st_pass (by rfl) ?_; simp only [Act.put, List.setIfInBounds_toArray, List.set_cons_succ, List.set_cons_zero]) | (refine st_plain (Non) (w5) rfl rfl (f := ?_) (by rfl) rfl rfl (fun w hC hG => ?_) ?_; rotate_left; (clear hG; first | (go_simp; done) | (go_simp; with_reducible rfl) | (simp [*, go_sem, ↓IntWalk.iteOmega]; done) | (simp [*, go_sem, ↓IntWalk.iteOmega]; with_reducible rfl)); simp only [Act.put, List.setIfInBounds_toArray, List.set_cons_succ, List.set_cons_zero]))
        refine st_tail Non w5 rfl rfl rfl (fun w7 hC7 hS7 hG7 => ?_)
        have hS7 : OwnR rkC w7 w5.heap.size (.slice A4 n4 c4) m (cv ((base j).take m)) := hS7
        obtain rfl : n4 = m := by
          obtain ⟨A5, c9, e, _⟩ := hS7.open_
          injection e
        clear hG7
        simp only [List.drop_succ_cons, List.drop_zero]
        refine appRs (K := rkC) rfl (.tmp 116) (.tmp 120) rfl hS7 rfl (Hcu.out.non hC7) rfl (cv_one _) (by omega) hC7.size (fun A8 c8 w6 hO8 hc8 hb8 => ?_)
        simp only [Act.put, List.setIfInBounds_toArray, List.set_cons_succ, List.set_cons_zero]
        have hL6 : OwnR rkC w6 w5.heap.size (.slice A8 (n4 + (j - n4)) c8) (n4 + (j - n4)) (cv ((base j).take n4 ++ (base j).drop (n4 + 1))) := by
          rw [show cv ((base j).take n4 ++ (base j).drop (n4 + 1)) = cv ((base j).take n4) ++ cv ((base j).drop (n4 + 1)) from List.flatMap_append]
          exact hO8
        have hC6 : Chg Non w2 w6 := (hC5.non hC7).trans2 hc8 (fun b e => .inr (by have := (hS7.lt e).1; have := hC5.size; omega))
        clear hO8 hc8 hb8 hS7 hC7 q1 q2 q3
        go_wp2_with fail
        have hrow := (tree_row hk HE.out HN.out).non hC6
        have hsml : ∀ c ∈ (base j).take n4 ++ (base j).drop (n4 + 1), c.1.size ≤ maxLen := fun c hc => (List.mem_append.1 hc).elim (fun h => base_small j c (List.mem_of_mem_take h)) (fun h => base_small j c (List.mem_of_mem_drop h))
        have hr6 := Rds.of_own hL6
        have hcw := hC2.non hC6
        have hn6 : (n4 + (j - n4)) ≤ 1000000 := by omega
        have hchk := check_any w6 (some ⟨g, 0, none⟩) (j + 1) c (tree A ac j j) A8 (n4 + (j - n4)) c8 ((base j).take n4 ++ (base j).drop (n4 + 1)) hrow hr6 (by omega) hn6 hsml
        have hwh := fun (w7 : World) (h7 : Chg Non w6 w7) => whole_any w7 (some ⟨g, 0, none⟩) (j + 1) c (tree A ac j j) A8 (n4 + (j - n4)) c8 ((base j).take n4 ++ (base j).drop (n4 + 1)) (hrow.non h7) (hr6.non h7) (by omega) hn6 hsml
        have hl : chkP (tree A ac j j) ((base j).take n4 ++ (base j).drop (n4 + 1)) = ((j : Int) - 1, false) := by rw [wrong5 hk hm]; congr 1; omega
        have hwb : wholeB (tree A ac j j) ((base j).take n4 ++ (base j).drop (n4 + 1)) = false := by
          unfold wholeB
          rw [hl]
          rfl
        rw [hwb] at hwh
        have Hl := Lib.hid hl
        have Hwh := Lib.hid hwh
        clear hl hwb hwh hr6 hrow hsml hL6 hC6
        refine hchk.mono ?_
        rintro e w7 ⟨rfl, hc7⟩
        rw [Hl.out]
        have hw7 := Hwh.out w7 hc7
        have hC7 := hcw.non hc7
        clear hchk hc7 hcw
        go_wp2_with fail
        refine hw7.mono ?_
        rintro e w8 ⟨rfl, hc8⟩
        have hC8 := hC7.non hc8
        clear hw7 hc8 hC7
        go_wp2_with fail
        go_ret
        exact ⟨rfl, hC8⟩

end Go.Proofs.Yteinbdifncdaiaa
