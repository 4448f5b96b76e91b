/-
  gleanerlaw29.TraceWrong: the ways to go wrong by one field.
-/
import Derived.Test.YteinbdifncdaiaaTraceLeftWalk
namespace Go.Proofs.Yteinbdifncdaiaa
open Go.RowKit
set_option linter.unusedVariables false
set_option linter.unusedSimpArgs false

theorem flat_take {α : Type} {f : α → List Value} {m : Nat} (hf : ∀ x, (f x).length = m) : ∀ (L : List α) (k : Nat), (L.flatMap f).take (k * m) = (L.take k).flatMap f
  | [], k => by simp
  | x :: L, 0 => by simp
  | x :: L, k + 1 => by
    rw [List.flatMap_cons, List.take_succ_cons, List.flatMap_cons, Nat.succ_mul, Nat.add_comm, ← hf x, List.take_length_add_append, hf x, flat_take hf L k]
theorem flat_drop {α : Type} {f : α → List Value} {m : Nat} (hf : ∀ x, (f x).length = m) : ∀ (L : List α) (k : Nat), (L.flatMap f).drop (k * m) = (L.drop k).flatMap f
  | [], k => by simp
  | x :: L, 0 => by simp
  | x :: L, k + 1 => by
    rw [List.flatMap_cons, List.drop_succ_cons, Nat.succ_mul, Nat.add_comm, ← hf x, List.drop_length_add_append, hf x, flat_drop hf L k]
/-- Three cells are written: one commit is laid anew. -/
theorem put3 {w : World} {base gb n c : Nat} {L : List Cm} {k : Nat} {x y : Cm} (ho : OwnR rkC w base (.slice (some ⟨gb, 0, none⟩) n c) n (cv L)) (hx : L[k]? = some x) :
    OwnR rkC (w.setCells gb (k * 3) (cellC y)) base (.slice (some ⟨gb, 0, none⟩) n c) n (cv (L.set k y)) := by
  have hkl := (List.getElem?_eq_some_iff.1 hx).1
  have s : ∀ (L : List Cm) (z : Cm), k < L.length → (L.set k z)[k]? = some z := fun L z h => by rw [List.getElem?_set_self h]
  have l : ∀ (L : List Cm) (z : Cm), (L.set k z).length = L.length := fun L z => List.length_set
  have h0 := ho.putN (f := cellC) cellC_len (y.1, x.2) hx (j := 0) (u := .string y.1) (by decide) rfl
  have h1 := h0.putN (f := cellC) cellC_len (y.1, y.2.1, x.2.2) (s _ _ hkl) (j := 1) (u := .int .i64 y.2.1) (by decide) rfl
  have h2 := h1.putN (f := cellC) cellC_len y (s _ _ (by rw [l]; exact hkl)) (j := 2) (u := .int .i64 y.2.2) (by decide) rfl
  simp only [List.set_set] at h2
  exact h2
theorem base_small (kids : Nat) : ∀ c ∈ base kids, c.1.size ≤ maxLen := by
  intro c hc
  unfold base at hc
  rcases List.mem_append.1 hc with h | h
  · obtain ⟨i, _, rfl⟩ := List.mem_map.1 h
    show (one i).size ≤ maxLen
    have : (one i).size = 1 := rfl
    rw [this]; decide
  · simp only [List.mem_singleton] at h
    subst h
    decide
theorem set_small {l : List Cm} {k : Nat} {y : Cm} (h : ∀ c ∈ l, c.1.size ≤ maxLen) (hy : y.1.size ≤ maxLen) : ∀ c ∈ l.set k y, c.1.size ≤ maxLen := by
  intro c hc
  rcases List.mem_or_eq_of_mem_set hc with h2 | h2
  · exact h c h2
  · rw [h2]; exact hy
theorem one_small (i : Nat) : (one i).size ≤ maxLen := by
  have : (one i).size = 1 := rfl
  rw [this]; decide
/-- The rounds over the kids. -/
def RelW1 (w : World) (kids base : Nat) (v i : Value) (wr : World) : Prop :=
  ∃ j : Nat, j ≤ kids ∧ i = .int .i64 ((j + 1 : Nat) : Int) ∧ OwnR rkC wr base v j (cv ((List.range j).map kidC)) ∧ Chg Non w wr

set_option maxRecDepth 100000 in
set_option maxHeartbeats 4000000 in
theorem traceWrong_no (w : World) (kids m : Nat) (x : Int) (hk2 : 2 ≤ kids) (hk : kids ≤ 16) (hm : m < kids) (hx : x < 0 ∨ 6 < x) :
    Calls Try.prog 3 #[.int .i64 (kids : Int), .int .i64 x, .int .i64 (m : Int)] w fun e w2 => e = .returned (.bool true) ∧ Chg Non w w2 := by
  have n0 : (x == 0) = false := beq_eq_false_iff_ne.2 (by omega)
  have n1 : (x == 1) = false := beq_eq_false_iff_ne.2 (by omega)
  have n2 : (x == 2) = false := beq_eq_false_iff_ne.2 (by omega)
  have n3 : (x == 3) = false := beq_eq_false_iff_ne.2 (by omega)
  have n4 : (x == 4) = false := beq_eq_false_iff_ne.2 (by omega)
  have n5 : (x == 5) = false := beq_eq_false_iff_ne.2 (by omega)
  have n6 : (x == 6) = false := beq_eq_false_iff_ne.2 (by omega)
  clear hx
  have d1 : ¬ (kids : Int) < 2 := by omega
  have d2 : ¬ (16 : Int) < kids := by omega
  have d3 : ¬ (kids : Int) ≤ m := by omega
  go_enter Try.func3, Try.ntmps3
  go_wp2_with fail
  refine (trace_alive _).mono ?_
  rintro e w1 ⟨rfl, hc1⟩
  go_wp2_with fail
  refine (entries_any w1 kids hk).mono ?_
  rintro e w2 ⟨g, c, A, ac, rfl, hE, hN, hc2⟩
  have hC2 := hc1.non hc2
  have hgl := (hE.lt (g := g) rfl).2
  have HE := Lib.hid hE
  have HN := Lib.hid hN
  clear hE hN hc1 hc2
  go_wp2_with fail
  obtain ⟨s2, hs2⟩ : ∃ s2, w2.heap.size = s2 := ⟨_, rfl⟩
  have hs2' : s2 ≤ w2.heap.size := by omega
  have hs2l : w2.heap.size ≤ s2 := by omega
  have hgl2 : g < s2 := by omega
  clear hs2
  go_loopw [9, 10] (RelW1 w2 kids s2) (fun _ i _ => kids + 1 - (intOf i).toNat)
  case atStart => exact ⟨0, Nat.zero_le _, rfl, OwnR.nil _ _ _, Chg.refl _ _⟩
  case round =>
    obtain ⟨j, hj, rfl, hO, hC⟩ := hrel
    have hsz := hC.size
    by_cases hlt : j < kids
    · obtain ⟨k0, k3, k4⟩ := (HE.out.non hC).kid (i := j) hlt
      have kk0 : ∀ wx, Chg Non wr wx → wx.cell? ⟨g, (j + 1) * 8, none⟩ = some (.string (one j)) := fun wx h => h.cell k0 id
      have kk3 : ∀ wx, Chg Non wr wx → wx.cell? ⟨g, (j + 1) * 8 + 3, none⟩ = some (.int .i64 0) := fun wx h => h.cell k3 id
      have kk4 : ∀ wx, Chg Non wr wx → wx.cell? ⟨g, (j + 1) * 8 + 3 + 1, none⟩ = some (.int .i64 j) := fun wx h => h.cell k4 id
      have hst : (List.range (j + 1)).map kidC = (List.range j).map kidC ++ [kidC j] := by rw [List.range_succ, List.map_append]; rfl
      have b1 : (j : Int) + 1 ≤ kids := by omega
      have Hst := Lib.hid hst
      have HO := Lib.hid hO
      clear hst hO k0 k3 k4
      go_wp2_with fail
      refine st_region_tail 12 13 Non [] [12] (fun _ _ _ _ => True) (fun _ _ _ _ => True) (fun _ _ _ => True) (fun _ => True) (by kernel_rfl) (by kernel_rfl) (by kernel_rfl) (fun _ h => h.elim) trivial (fun _ _ _ => trivial) ?_
      repeat (first | (refine st_pass (by rfl) ?_; simp only [Act.put, List.setIfInBounds_toArray, List.set_cons_succ, List.set_cons_zero]) | (refine st_plain (Non) (wr) rfl rfl (f := ?_) (by rfl) rfl rfl (fun w hC hG => ?_) ?_; rotate_left; (clear hG; first | (go_simp; done) | (go_simp; with_reducible rfl) | (simp [*, go_sem, ↓IntWalk.iteOmega]; done) | (simp [*, go_sem, ↓IntWalk.iteOmega]; with_reducible rfl)); simp only [Act.put, List.setIfInBounds_toArray, List.set_cons_succ, List.set_cons_zero]))
      refine st_minor Non wr rfl rfl (ob := .cells #[.string (one j), .int .i64 0, .int .i64 j] 34) (kd := some (1, 1)) (by rfl) rfl rfl (fun w hC hG => by clear hG; go_simp; rfl) (fun g2 => ?_)
      simp only [Act.put, List.setIfInBounds_toArray, List.set_cons_succ, List.set_cons_zero]
      refine st_tail Non wr rfl rfl rfl (fun w7 hC7 hS7 hG7 => ?_)
      have hB7 : Blk w7 g2 34 #[.string (one j), .int .i64 0, .int .i64 j] := (hG7 12).2
      clear hG7 hS7
      simp only [List.drop_succ_cons, List.drop_zero, mkv]
      refine appRs (K := rkC) rfl (.tmp 43) (.tmp 55) rfl (HO.out.non hC7) rfl (Rds.blockN (m := 1) (size := 3) hB7 rfl) rfl (cellC_one (kidC j)) (by omega) (by have := hC7.size; omega) (fun A8 c8 w8 hO8 hc8 hb8 => ?_)
      simp only [Act.put, List.setIfInBounds_toArray, List.set_cons_succ, List.set_cons_zero]
      have hO9 : OwnR rkC w8 s2 (.slice A8 (j + 1) c8) (j + 1) (cv ((List.range (j + 1)).map kidC)) := by rw [Hst.out, cv_snoc2]; exact hO8
      have hC9 : Chg Non w2 w8 := (hC.non hC7).trans2 hc8 (fun b e => .inr (by have := (HO.out.lt e).1; omega))
      have hrel : RelW1 w2 kids s2 (.slice A8 (j + 1) c8) (.int .i64 ((j + 1 + 1 : Nat) : Int)) w8 := ⟨j + 1, by omega, rfl, hO9, hC9⟩
      have Hrel := Lib.hid hrel
      clear hrel hO9 hC9 hO8 hc8 hb8 hB7 hC7 kk0 kk3 kk4
      go_wp2_with fail
      go_roundw
      case rel => exact Hrel.out
      case measure => simp [intOf]; omega
    · obtain rfl : j = kids := by omega
      have b1 : ¬ (j : Int) + 1 ≤ j := by omega
      have HO := Lib.hid hO
      have HC := Lib.hid hC
      have h3 : wr.cell? ⟨g, 3, none⟩ = some (.int .i64 0) := (HE.out.non hC).cellN (K := rkE) entC_len (k := 0) (x := headE A ac j j) rfl (j := 3) rfl
      have h4 : wr.cell? ⟨g, 4, none⟩ = some (.int .i64 100) := (HE.out.non hC).cellN (K := rkE) entC_len (k := 0) (x := headE A ac j j) rfl (j := 4) rfl
      clear hO hC
      go_wp2_with (at_builtin; refine appR1s (K := rkC) rfl (.tmp 57) (.tmp 63) rfl HO.out rfl (cs := #[.string ⟨#[]⟩, .int .i64 0, .int .i64 100]) rfl rfl (cellC_one headC) ?_ ?_ ?_; (next => omega); (next => omega); intro A5 c5 w5 hO5 hc5 hb5; obtain ⟨gl, cl, e5, hcl5, hcm5, hgs5, hgl5⟩ := hO5.form (by omega); injection e5 with e51 e52 e53; subst e51 e53; have hB5 : OwnR rkC w5 s2 (.slice (some ⟨gl, 0, none⟩) (j + 1) c5) (j + 1) (cv (base j)) := (by unfold base; rw [cv_snoc2]; exact hO5); have HB := Lib.hid hB5; clear hB5 hO5)
      have hC5 : Chg Non w2 w5 := HC.out.trans2 hc5 (fun b e => .inr (by have := (HO.out.lt e).1; omega))
      go_ret
      exact ⟨rfl, hC2.non hC5⟩

set_option maxRecDepth 100000 in
set_option maxHeartbeats 4000000 in
theorem traceWrong_c0 (w : World) (kids m : Nat) (hk2 : 2 ≤ kids) (hk : kids ≤ 16) (hm : m < kids) :
    Calls Try.prog 3 #[.int .i64 (kids : Int), .int .i64 0, .int .i64 (m : Int)] w fun e w2 => e = .returned (.bool true) ∧ Chg Non w w2 := by
  have d1 : ¬ (kids : Int) < 2 := by omega
  have d2 : ¬ (16 : Int) < kids := by omega
  have d3 : ¬ (kids : Int) ≤ m := by omega
  go_enter Try.func3, Try.ntmps3
  go_wp2_with fail
  refine (trace_alive _).mono ?_
  rintro e w1 ⟨rfl, hc1⟩
  go_wp2_with fail
  refine (entries_any w1 kids hk).mono ?_
  rintro e w2 ⟨g, c, A, ac, rfl, hE, hN, hc2⟩
  have hC2 := hc1.non hc2
  have hgl := (hE.lt (g := g) rfl).2
  have HE := Lib.hid hE
  have HN := Lib.hid hN
  clear hE hN hc1 hc2
  go_wp2_with fail
  obtain ⟨s2, hs2⟩ : ∃ s2, w2.heap.size = s2 := ⟨_, rfl⟩
  have hs2' : s2 ≤ w2.heap.size := by omega
  have hs2l : w2.heap.size ≤ s2 := by omega
  have hgl2 : g < s2 := by omega
  clear hs2
  go_loopw [9, 10] (RelW1 w2 kids s2) (fun _ i _ => kids + 1 - (intOf i).toNat)
  case atStart => exact ⟨0, Nat.zero_le _, rfl, OwnR.nil _ _ _, Chg.refl _ _⟩
  case round =>
    obtain ⟨j, hj, rfl, hO, hC⟩ := hrel
    have hsz := hC.size
    by_cases hlt : j < kids
    · obtain ⟨k0, k3, k4⟩ := (HE.out.non hC).kid (i := j) hlt
      have kk0 : ∀ wx, Chg Non wr wx → wx.cell? ⟨g, (j + 1) * 8, none⟩ = some (.string (one j)) := fun wx h => h.cell k0 id
      have kk3 : ∀ wx, Chg Non wr wx → wx.cell? ⟨g, (j + 1) * 8 + 3, none⟩ = some (.int .i64 0) := fun wx h => h.cell k3 id
      have kk4 : ∀ wx, Chg Non wr wx → wx.cell? ⟨g, (j + 1) * 8 + 3 + 1, none⟩ = some (.int .i64 j) := fun wx h => h.cell k4 id
      have hst : (List.range (j + 1)).map kidC = (List.range j).map kidC ++ [kidC j] := by rw [List.range_succ, List.map_append]; rfl
      have b1 : (j : Int) + 1 ≤ kids := by omega
      have Hst := Lib.hid hst
      have HO := Lib.hid hO
      clear hst hO k0 k3 k4
      go_wp2_with fail
      refine st_region_tail 12 13 Non [] [12] (fun _ _ _ _ => True) (fun _ _ _ _ => True) (fun _ _ _ => True) (fun _ => True) (by kernel_rfl) (by kernel_rfl) (by kernel_rfl) (fun _ h => h.elim) trivial (fun _ _ _ => trivial) ?_
      repeat (first | (refine st_pass (by rfl) ?_; simp only [Act.put, List.setIfInBounds_toArray, List.set_cons_succ, List.set_cons_zero]) | (refine st_plain (Non) (wr) rfl rfl (f := ?_) (by rfl) rfl rfl (fun w hC hG => ?_) ?_; rotate_left; (clear hG; first | (go_simp; done) | (go_simp; with_reducible rfl) | (simp [*, go_sem, ↓IntWalk.iteOmega]; done) | (simp [*, go_sem, ↓IntWalk.iteOmega]; with_reducible rfl)); simp only [Act.put, List.setIfInBounds_toArray, List.set_cons_succ, List.set_cons_zero]))
      refine st_minor Non wr rfl rfl (ob := .cells #[.string (one j), .int .i64 0, .int .i64 j] 34) (kd := some (1, 1)) (by rfl) rfl rfl (fun w hC hG => by clear hG; go_simp; rfl) (fun g2 => ?_)
      simp only [Act.put, List.setIfInBounds_toArray, List.set_cons_succ, List.set_cons_zero]
      refine st_tail Non wr rfl rfl rfl (fun w7 hC7 hS7 hG7 => ?_)
      have hB7 : Blk w7 g2 34 #[.string (one j), .int .i64 0, .int .i64 j] := (hG7 12).2
      clear hG7 hS7
      simp only [List.drop_succ_cons, List.drop_zero, mkv]
      refine appRs (K := rkC) rfl (.tmp 43) (.tmp 55) rfl (HO.out.non hC7) rfl (Rds.blockN (m := 1) (size := 3) hB7 rfl) rfl (cellC_one (kidC j)) (by omega) (by have := hC7.size; omega) (fun A8 c8 w8 hO8 hc8 hb8 => ?_)
      simp only [Act.put, List.setIfInBounds_toArray, List.set_cons_succ, List.set_cons_zero]
      have hO9 : OwnR rkC w8 s2 (.slice A8 (j + 1) c8) (j + 1) (cv ((List.range (j + 1)).map kidC)) := by rw [Hst.out, cv_snoc2]; exact hO8
      have hC9 : Chg Non w2 w8 := (hC.non hC7).trans2 hc8 (fun b e => .inr (by have := (HO.out.lt e).1; omega))
      have hrel : RelW1 w2 kids s2 (.slice A8 (j + 1) c8) (.int .i64 ((j + 1 + 1 : Nat) : Int)) w8 := ⟨j + 1, by omega, rfl, hO9, hC9⟩
      have Hrel := Lib.hid hrel
      clear hrel hO9 hC9 hO8 hc8 hb8 hB7 hC7 kk0 kk3 kk4
      go_wp2_with fail
      go_roundw
      case rel => exact Hrel.out
      case measure => simp [intOf]; omega
    · obtain rfl : j = kids := by omega
      have b1 : ¬ (j : Int) + 1 ≤ j := by omega
      have HO := Lib.hid hO
      have HC := Lib.hid hC
      have h3 : wr.cell? ⟨g, 3, none⟩ = some (.int .i64 0) := (HE.out.non hC).cellN (K := rkE) entC_len (k := 0) (x := headE A ac j j) rfl (j := 3) rfl
      have h4 : wr.cell? ⟨g, 4, none⟩ = some (.int .i64 100) := (HE.out.non hC).cellN (K := rkE) entC_len (k := 0) (x := headE A ac j j) rfl (j := 4) rfl
      clear hO hC
      go_wp2_with (at_builtin; refine appR1s (K := rkC) rfl (.tmp 57) (.tmp 63) rfl HO.out rfl (cs := #[.string ⟨#[]⟩, .int .i64 0, .int .i64 100]) rfl rfl (cellC_one headC) ?_ ?_ ?_; (next => omega); (next => omega); intro A5 c5 w5 hO5 hc5 hb5; obtain ⟨gl, cl, e5, hcl5, hcm5, hgs5, hgl5⟩ := hO5.form (by omega); injection e5 with e51 e52 e53; subst e51 e53; have hB5 : OwnR rkC w5 s2 (.slice (some ⟨gl, 0, none⟩) (j + 1) c5) (j + 1) (cv (base j)) := (by unfold base; rw [cv_snoc2]; exact hO5); have HB := Lib.hid hB5; clear hB5 hO5)
      have hC5 : Chg Non w2 w5 := HC.out.trans2 hc5 (fun b e => .inr (by have := (HO.out.lt e).1; omega))
      have hL6 := HB.out
      have hC6 := hC5
      have hrow := (tree_row hk HE.out HN.out).non hC6
      have hsml : ∀ c ∈ base j, c.1.size ≤ maxLen := base_small j
      have hr6 := Rds.of_own hL6
      have hcw := hC2.non hC6
      have hn6 : (j + 1) ≤ 1000000 := by omega
      have hchk := check_any w5 (some ⟨g, 0, none⟩) (j + 1) c (tree A ac j j) (some ⟨gl, 0, none⟩) (j + 1) c5 (base j) hrow hr6 (by omega) hn6 hsml
      have hwh := fun (w7 : World) (h7 : Chg Non w5 w7) => whole_any w7 (some ⟨g, 0, none⟩) (j + 1) c (tree A ac j j) (some ⟨gl, 0, none⟩) (j + 1) c5 (base j) (hrow.non h7) (hr6.non h7) (by omega) hn6 hsml
      have hl : chkP (tree A ac j j) (base j) = (0, true) := base_good hk
      have hwb : wholeB (tree A ac j j) (base j) = true := by
        unfold wholeB
        rw [hl]
        simp [base_left]
      rw [hwb] at hwh
      have Hl := Lib.hid hl
      have Hwh := Lib.hid hwh
      clear hl hwb hwh hr6 hrow hsml hL6 hC6
      refine hchk.mono ?_
      rintro e w7 ⟨rfl, hc7⟩
      rw [Hl.out]
      have hw7 := Hwh.out w7 hc7
      have hC7 := hcw.non hc7
      clear hchk hc7 hcw
      go_wp2_with fail
      refine hw7.mono ?_
      rintro e w8 ⟨rfl, hc8⟩
      have hC8 := hC7.non hc8
      clear hw7 hc8 hC7
      go_wp2_with fail
      go_ret
      exact ⟨rfl, hC8⟩

set_option maxRecDepth 100000 in
set_option maxHeartbeats 4000000 in
theorem traceWrong_c1 (w : World) (kids m : Nat) (hk2 : 2 ≤ kids) (hk : kids ≤ 16) (hm : m < kids) :
    Calls Try.prog 3 #[.int .i64 (kids : Int), .int .i64 1, .int .i64 (m : Int)] w fun e w2 => e = .returned (.bool true) ∧ Chg Non w w2 := by
  have d1 : ¬ (kids : Int) < 2 := by omega
  have d2 : ¬ (16 : Int) < kids := by omega
  have d3 : ¬ (kids : Int) ≤ m := by omega
  go_enter Try.func3, Try.ntmps3
  go_wp2_with fail
  refine (trace_alive _).mono ?_
  rintro e w1 ⟨rfl, hc1⟩
  go_wp2_with fail
  refine (entries_any w1 kids hk).mono ?_
  rintro e w2 ⟨g, c, A, ac, rfl, hE, hN, hc2⟩
  have hC2 := hc1.non hc2
  have hgl := (hE.lt (g := g) rfl).2
  have HE := Lib.hid hE
  have HN := Lib.hid hN
  clear hE hN hc1 hc2
  go_wp2_with fail
  obtain ⟨s2, hs2⟩ : ∃ s2, w2.heap.size = s2 := ⟨_, rfl⟩
  have hs2' : s2 ≤ w2.heap.size := by omega
  have hs2l : w2.heap.size ≤ s2 := by omega
  have hgl2 : g < s2 := by omega
  clear hs2
  go_loopw [9, 10] (RelW1 w2 kids s2) (fun _ i _ => kids + 1 - (intOf i).toNat)
  case atStart => exact ⟨0, Nat.zero_le _, rfl, OwnR.nil _ _ _, Chg.refl _ _⟩
  case round =>
    obtain ⟨j, hj, rfl, hO, hC⟩ := hrel
    have hsz := hC.size
    by_cases hlt : j < kids
    · obtain ⟨k0, k3, k4⟩ := (HE.out.non hC).kid (i := j) hlt
      have kk0 : ∀ wx, Chg Non wr wx → wx.cell? ⟨g, (j + 1) * 8, none⟩ = some (.string (one j)) := fun wx h => h.cell k0 id
      have kk3 : ∀ wx, Chg Non wr wx → wx.cell? ⟨g, (j + 1) * 8 + 3, none⟩ = some (.int .i64 0) := fun wx h => h.cell k3 id
      have kk4 : ∀ wx, Chg Non wr wx → wx.cell? ⟨g, (j + 1) * 8 + 3 + 1, none⟩ = some (.int .i64 j) := fun wx h => h.cell k4 id
      have hst : (List.range (j + 1)).map kidC = (List.range j).map kidC ++ [kidC j] := by rw [List.range_succ, List.map_append]; rfl
      have b1 : (j : Int) + 1 ≤ kids := by omega
      have Hst := Lib.hid hst
      have HO := Lib.hid hO
      clear hst hO k0 k3 k4
      go_wp2_with fail
      refine st_region_tail 12 13 Non [] [12] (fun _ _ _ _ => True) (fun _ _ _ _ => True) (fun _ _ _ => True) (fun _ => True) (by kernel_rfl) (by kernel_rfl) (by kernel_rfl) (fun _ h => h.elim) trivial (fun _ _ _ => trivial) ?_
      repeat (first | (refine st_pass (by rfl) ?_; simp only [Act.put, List.setIfInBounds_toArray, List.set_cons_succ, List.set_cons_zero]) | (refine st_plain (Non) (wr) rfl rfl (f := ?_) (by rfl) rfl rfl (fun w hC hG => ?_) ?_; rotate_left; (clear hG; first | (go_simp; done) | (go_simp; with_reducible rfl) | (simp [*, go_sem, ↓IntWalk.iteOmega]; done) | (simp [*, go_sem, ↓IntWalk.iteOmega]; with_reducible rfl)); simp only [Act.put, List.setIfInBounds_toArray, List.set_cons_succ, List.set_cons_zero]))
      refine st_minor Non wr rfl rfl (ob := .cells #[.string (one j), .int .i64 0, .int .i64 j] 34) (kd := some (1, 1)) (by rfl) rfl rfl (fun w hC hG => by clear hG; go_simp; rfl) (fun g2 => ?_)
      simp only [Act.put, List.setIfInBounds_toArray, List.set_cons_succ, List.set_cons_zero]
      refine st_tail Non wr rfl rfl rfl (fun w7 hC7 hS7 hG7 => ?_)
      have hB7 : Blk w7 g2 34 #[.string (one j), .int .i64 0, .int .i64 j] := (hG7 12).2
      clear hG7 hS7
      simp only [List.drop_succ_cons, List.drop_zero, mkv]
      refine appRs (K := rkC) rfl (.tmp 43) (.tmp 55) rfl (HO.out.non hC7) rfl (Rds.blockN (m := 1) (size := 3) hB7 rfl) rfl (cellC_one (kidC j)) (by omega) (by have := hC7.size; omega) (fun A8 c8 w8 hO8 hc8 hb8 => ?_)
      simp only [Act.put, List.setIfInBounds_toArray, List.set_cons_succ, List.set_cons_zero]
      have hO9 : OwnR rkC w8 s2 (.slice A8 (j + 1) c8) (j + 1) (cv ((List.range (j + 1)).map kidC)) := by rw [Hst.out, cv_snoc2]; exact hO8
      have hC9 : Chg Non w2 w8 := (hC.non hC7).trans2 hc8 (fun b e => .inr (by have := (HO.out.lt e).1; omega))
      have hrel : RelW1 w2 kids s2 (.slice A8 (j + 1) c8) (.int .i64 ((j + 1 + 1 : Nat) : Int)) w8 := ⟨j + 1, by omega, rfl, hO9, hC9⟩
      have Hrel := Lib.hid hrel
      clear hrel hO9 hC9 hO8 hc8 hb8 hB7 hC7 kk0 kk3 kk4
      go_wp2_with fail
      go_roundw
      case rel => exact Hrel.out
      case measure => simp [intOf]; omega
    · obtain rfl : j = kids := by omega
      have b1 : ¬ (j : Int) + 1 ≤ j := by omega
      have HO := Lib.hid hO
      have HC := Lib.hid hC
      have h3 : wr.cell? ⟨g, 3, none⟩ = some (.int .i64 0) := (HE.out.non hC).cellN (K := rkE) entC_len (k := 0) (x := headE A ac j j) rfl (j := 3) rfl
      have h4 : wr.cell? ⟨g, 4, none⟩ = some (.int .i64 100) := (HE.out.non hC).cellN (K := rkE) entC_len (k := 0) (x := headE A ac j j) rfl (j := 4) rfl
      clear hO hC
      go_wp2_with (at_builtin; refine appR1s (K := rkC) rfl (.tmp 57) (.tmp 63) rfl HO.out rfl (cs := #[.string ⟨#[]⟩, .int .i64 0, .int .i64 100]) rfl rfl (cellC_one headC) ?_ ?_ ?_; (next => omega); (next => omega); intro A5 c5 w5 hO5 hc5 hb5; obtain ⟨gl, cl, e5, hcl5, hcm5, hgs5, hgl5⟩ := hO5.form (by omega); injection e5 with e51 e52 e53; subst e51 e53; have hB5 : OwnR rkC w5 s2 (.slice (some ⟨gl, 0, none⟩) (j + 1) c5) (j + 1) (cv (base j)) := (by unfold base; rw [cv_snoc2]; exact hO5); have p1 : w5.cell? ⟨gl, m * 3 + 1 + 1, none⟩ = some (.int .i64 m) := hB5.cellN (K := rkC) cellC_len (base_kid hm) (j := 2) rfl; have f1 : w5.frozen? ⟨gl, m * 3 + 1 + 1, none⟩ = false := hB5.frozen _; have HB := Lib.hid hB5; clear hB5 hO5)
      have hC5 : Chg Non w2 w5 := HC.out.trans2 hc5 (fun b e => .inr (by have := (HO.out.lt e).1; omega))
      obtain ⟨w6, hw6⟩ : ∃ w6, w5.setCell ⟨gl, m * 3 + 1 + 1, none⟩ (.int .i64 99) = w6 := ⟨_, rfl⟩
      have hL6 : OwnR rkC w6 s2 (.slice (some ⟨gl, 0, none⟩) (j + 1) c5) (j + 1) (cv ((base j).set m (one m, 0, 99))) := hw6 ▸ OwnR.putN (K := rkC) cellC_len HB.out (k := m) (x := kidC m) (one m, 0, 99) (base_kid hm) (j := 2) (u := .int .i64 99) (by decide) rfl
      have hC6 : Chg Non w2 w6 := hw6 ▸ hC5.setCell (p := ⟨gl, m * 3 + 1 + 1, none⟩) (.inr (by show _ ≤ gl; omega)) _
      rw [hw6]
      clear hw6 p1 f1
      have hrow := (tree_row hk HE.out HN.out).non hC6
      have hsml : ∀ c ∈ (base j).set m (one m, 0, 99), c.1.size ≤ maxLen := set_small (base_small j) (one_small m)
      have hr6 := Rds.of_own hL6
      have hcw := hC2.non hC6
      have hn6 : (j + 1) ≤ 1000000 := by omega
      have hchk := check_any w6 (some ⟨g, 0, none⟩) (j + 1) c (tree A ac j j) (some ⟨gl, 0, none⟩) (j + 1) c5 ((base j).set m (one m, 0, 99)) hrow hr6 (by omega) hn6 hsml
      have hwh := fun (w7 : World) (h7 : Chg Non w6 w7) => whole_any w7 (some ⟨g, 0, none⟩) (j + 1) c (tree A ac j j) (some ⟨gl, 0, none⟩) (j + 1) c5 ((base j).set m (one m, 0, 99)) (hrow.non h7) (hr6.non h7) (by omega) hn6 hsml
      have hl : chkP (tree A ac j j) ((base j).set m (one m, 0, 99)) = ((m : Int), false) := wrong1 hk hm
      have hwb : wholeB (tree A ac j j) ((base j).set m (one m, 0, 99)) = false := by
        unfold wholeB
        rw [hl]
        rfl
      rw [hwb] at hwh
      have Hl := Lib.hid hl
      have Hwh := Lib.hid hwh
      clear hl hwb hwh hr6 hrow hsml hL6 hC6
      refine hchk.mono ?_
      rintro e w7 ⟨rfl, hc7⟩
      rw [Hl.out]
      have hw7 := Hwh.out w7 hc7
      have hC7 := hcw.non hc7
      clear hchk hc7 hcw
      go_wp2_with fail
      refine hw7.mono ?_
      rintro e w8 ⟨rfl, hc8⟩
      have hC8 := hC7.non hc8
      clear hw7 hc8 hC7
      go_wp2_with fail
      go_ret
      exact ⟨rfl, hC8⟩

set_option maxRecDepth 100000 in
set_option maxHeartbeats 4000000 in
theorem traceWrong_c2 (w : World) (kids m : Nat) (hk2 : 2 ≤ kids) (hk : kids ≤ 16) (hm : m < kids) :
    Calls Try.prog 3 #[.int .i64 (kids : Int), .int .i64 2, .int .i64 (m : Int)] w fun e w2 => e = .returned (.bool true) ∧ Chg Non w w2 := by
  have d1 : ¬ (kids : Int) < 2 := by omega
  have d2 : ¬ (16 : Int) < kids := by omega
  have d3 : ¬ (kids : Int) ≤ m := by omega
  go_enter Try.func3, Try.ntmps3
  go_wp2_with fail
  refine (trace_alive _).mono ?_
  rintro e w1 ⟨rfl, hc1⟩
  go_wp2_with fail
  refine (entries_any w1 kids hk).mono ?_
  rintro e w2 ⟨g, c, A, ac, rfl, hE, hN, hc2⟩
  have hC2 := hc1.non hc2
  have hgl := (hE.lt (g := g) rfl).2
  have HE := Lib.hid hE
  have HN := Lib.hid hN
  clear hE hN hc1 hc2
  go_wp2_with fail
  obtain ⟨s2, hs2⟩ : ∃ s2, w2.heap.size = s2 := ⟨_, rfl⟩
  have hs2' : s2 ≤ w2.heap.size := by omega
  have hs2l : w2.heap.size ≤ s2 := by omega
  have hgl2 : g < s2 := by omega
  clear hs2
  go_loopw [9, 10] (RelW1 w2 kids s2) (fun _ i _ => kids + 1 - (intOf i).toNat)
  case atStart => exact ⟨0, Nat.zero_le _, rfl, OwnR.nil _ _ _, Chg.refl _ _⟩
  case round =>
    obtain ⟨j, hj, rfl, hO, hC⟩ := hrel
    have hsz := hC.size
    by_cases hlt : j < kids
    · obtain ⟨k0, k3, k4⟩ := (HE.out.non hC).kid (i := j) hlt
      have kk0 : ∀ wx, Chg Non wr wx → wx.cell? ⟨g, (j + 1) * 8, none⟩ = some (.string (one j)) := fun wx h => h.cell k0 id
      have kk3 : ∀ wx, Chg Non wr wx → wx.cell? ⟨g, (j + 1) * 8 + 3, none⟩ = some (.int .i64 0) := fun wx h => h.cell k3 id
      have kk4 : ∀ wx, Chg Non wr wx → wx.cell? ⟨g, (j + 1) * 8 + 3 + 1, none⟩ = some (.int .i64 j) := fun wx h => h.cell k4 id
      have hst : (List.range (j + 1)).map kidC = (List.range j).map kidC ++ [kidC j] := by rw [List.range_succ, List.map_append]; rfl
      have b1 : (j : Int) + 1 ≤ kids := by omega
      have Hst := Lib.hid hst
      have HO := Lib.hid hO
      clear hst hO k0 k3 k4
      go_wp2_with fail
      refine st_region_tail 12 13 Non [] [12] (fun _ _ _ _ => True) (fun _ _ _ _ => True) (fun _ _ _ => True) (fun _ => True) (by kernel_rfl) (by kernel_rfl) (by kernel_rfl) (fun _ h => h.elim) trivial (fun _ _ _ => trivial) ?_
      repeat (first | (refine st_pass (by rfl) ?_; simp only [Act.put, List.setIfInBounds_toArray, List.set_cons_succ, List.set_cons_zero]) | (refine st_plain (Non) (wr) rfl rfl (f := ?_) (by rfl) rfl rfl (fun w hC hG => ?_) ?_; rotate_left; (clear hG; first | (go_simp; done) | (go_simp; with_reducible rfl) | (simp [*, go_sem, ↓IntWalk.iteOmega]; done) | (simp [*, go_sem, ↓IntWalk.iteOmega]; with_reducible rfl)); simp only [Act.put, List.setIfInBounds_toArray, List.set_cons_succ, List.set_cons_zero]))
      refine st_minor Non wr rfl rfl (ob := .cells #[.string (one j), .int .i64 0, .int .i64 j] 34) (kd := some (1, 1)) (by rfl) rfl rfl (fun w hC hG => by clear hG; go_simp; rfl) (fun g2 => ?_)
      simp only [Act.put, List.setIfInBounds_toArray, List.set_cons_succ, List.set_cons_zero]
      refine st_tail Non wr rfl rfl rfl (fun w7 hC7 hS7 hG7 => ?_)
      have hB7 : Blk w7 g2 34 #[.string (one j), .int .i64 0, .int .i64 j] := (hG7 12).2
      clear hG7 hS7
      simp only [List.drop_succ_cons, List.drop_zero, mkv]
      refine appRs (K := rkC) rfl (.tmp 43) (.tmp 55) rfl (HO.out.non hC7) rfl (Rds.blockN (m := 1) (size := 3) hB7 rfl) rfl (cellC_one (kidC j)) (by omega) (by have := hC7.size; omega) (fun A8 c8 w8 hO8 hc8 hb8 => ?_)
      simp only [Act.put, List.setIfInBounds_toArray, List.set_cons_succ, List.set_cons_zero]
      have hO9 : OwnR rkC w8 s2 (.slice A8 (j + 1) c8) (j + 1) (cv ((List.range (j + 1)).map kidC)) := by rw [Hst.out, cv_snoc2]; exact hO8
      have hC9 : Chg Non w2 w8 := (hC.non hC7).trans2 hc8 (fun b e => .inr (by have := (HO.out.lt e).1; omega))
      have hrel : RelW1 w2 kids s2 (.slice A8 (j + 1) c8) (.int .i64 ((j + 1 + 1 : Nat) : Int)) w8 := ⟨j + 1, by omega, rfl, hO9, hC9⟩
      have Hrel := Lib.hid hrel
      clear hrel hO9 hC9 hO8 hc8 hb8 hB7 hC7 kk0 kk3 kk4
      go_wp2_with fail
      go_roundw
      case rel => exact Hrel.out
      case measure => simp [intOf]; omega
    · obtain rfl : j = kids := by omega
      have b1 : ¬ (j : Int) + 1 ≤ j := by omega
      have HO := Lib.hid hO
      have HC := Lib.hid hC
      have h3 : wr.cell? ⟨g, 3, none⟩ = some (.int .i64 0) := (HE.out.non hC).cellN (K := rkE) entC_len (k := 0) (x := headE A ac j j) rfl (j := 3) rfl
      have h4 : wr.cell? ⟨g, 4, none⟩ = some (.int .i64 100) := (HE.out.non hC).cellN (K := rkE) entC_len (k := 0) (x := headE A ac j j) rfl (j := 4) rfl
      clear hO hC
      go_wp2_with (at_builtin; refine appR1s (K := rkC) rfl (.tmp 57) (.tmp 63) rfl HO.out rfl (cs := #[.string ⟨#[]⟩, .int .i64 0, .int .i64 100]) rfl rfl (cellC_one headC) ?_ ?_ ?_; (next => omega); (next => omega); intro A5 c5 w5 hO5 hc5 hb5; obtain ⟨gl, cl, e5, hcl5, hcm5, hgs5, hgl5⟩ := hO5.form (by omega); injection e5 with e51 e52 e53; subst e51 e53; have hB5 : OwnR rkC w5 s2 (.slice (some ⟨gl, 0, none⟩) (j + 1) c5) (j + 1) (cv (base j)) := (by unfold base; rw [cv_snoc2]; exact hO5); have p1 : w5.cell? ⟨gl, m * 3, none⟩ = some (.string (one m)) := hB5.cellN (K := rkC) cellC_len (base_kid hm) (j := 0) rfl; have f1 : w5.frozen? ⟨gl, m * 3, none⟩ = false := hB5.frozen _; have HB := Lib.hid hB5; clear hB5 hO5)
      have hC5 : Chg Non w2 w5 := HC.out.trans2 hc5 (fun b e => .inr (by have := (HO.out.lt e).1; omega))
      obtain ⟨w6, hw6⟩ : ∃ w6, w5.setCell ⟨gl, m * 3, none⟩ (.string ⟨#[15, 15]⟩) = w6 := ⟨_, rfl⟩
      have hL6 : OwnR rkC w6 s2 (.slice (some ⟨gl, 0, none⟩) (j + 1) c5) (j + 1) (cv ((base j).set m (⟨#[15, 15]⟩, 0, (m : Int)))) := hw6 ▸ OwnR.putN (K := rkC) cellC_len HB.out (k := m) (x := kidC m) (⟨#[15, 15]⟩, 0, (m : Int)) (base_kid hm) (j := 0) (u := .string ⟨#[15, 15]⟩) (by decide) rfl
      have hC6 : Chg Non w2 w6 := hw6 ▸ hC5.setCell (p := ⟨gl, m * 3, none⟩) (.inr (by show _ ≤ gl; omega)) _
      rw [hw6]
      clear hw6 p1 f1
      have hrow := (tree_row hk HE.out HN.out).non hC6
      have hsml : ∀ c ∈ (base j).set m (⟨#[15, 15]⟩, 0, (m : Int)), c.1.size ≤ maxLen := set_small (base_small j) (show (⟨#[15, 15]⟩ : ByteArray).size ≤ maxLen by decide)
      have hr6 := Rds.of_own hL6
      have hcw := hC2.non hC6
      have hn6 : (j + 1) ≤ 1000000 := by omega
      have hchk := check_any w6 (some ⟨g, 0, none⟩) (j + 1) c (tree A ac j j) (some ⟨gl, 0, none⟩) (j + 1) c5 ((base j).set m (⟨#[15, 15]⟩, 0, (m : Int))) hrow hr6 (by omega) hn6 hsml
      have hwh := fun (w7 : World) (h7 : Chg Non w6 w7) => whole_any w7 (some ⟨g, 0, none⟩) (j + 1) c (tree A ac j j) (some ⟨gl, 0, none⟩) (j + 1) c5 ((base j).set m (⟨#[15, 15]⟩, 0, (m : Int))) (hrow.non h7) (hr6.non h7) (by omega) hn6 hsml
      have hl : chkP (tree A ac j j) ((base j).set m (⟨#[15, 15]⟩, 0, (m : Int))) = ((m : Int), false) := wrong2 hk hm
      have hwb : wholeB (tree A ac j j) ((base j).set m (⟨#[15, 15]⟩, 0, (m : Int))) = false := by
        unfold wholeB
        rw [hl]
        rfl
      rw [hwb] at hwh
      have Hl := Lib.hid hl
      have Hwh := Lib.hid hwh
      clear hl hwb hwh hr6 hrow hsml hL6 hC6
      refine hchk.mono ?_
      rintro e w7 ⟨rfl, hc7⟩
      rw [Hl.out]
      have hw7 := Hwh.out w7 hc7
      have hC7 := hcw.non hc7
      clear hchk hc7 hcw
      go_wp2_with fail
      refine hw7.mono ?_
      rintro e w8 ⟨rfl, hc8⟩
      have hC8 := hC7.non hc8
      clear hw7 hc8 hC7
      go_wp2_with fail
      go_ret
      exact ⟨rfl, hC8⟩

set_option maxRecDepth 100000 in
set_option maxHeartbeats 4000000 in
theorem traceWrong_c6 (w : World) (kids m : Nat) (hk2 : 2 ≤ kids) (hk : kids ≤ 16) (hm : m < kids) :
    Calls Try.prog 3 #[.int .i64 (kids : Int), .int .i64 6, .int .i64 (m : Int)] w fun e w2 => e = .returned (.bool true) ∧ Chg Non w w2 := by
  have d1 : ¬ (kids : Int) < 2 := by omega
  have d2 : ¬ (16 : Int) < kids := by omega
  have d3 : ¬ (kids : Int) ≤ m := by omega
  go_enter Try.func3, Try.ntmps3
  go_wp2_with fail
  refine (trace_alive _).mono ?_
  rintro e w1 ⟨rfl, hc1⟩
  go_wp2_with fail
  refine (entries_any w1 kids hk).mono ?_
  rintro e w2 ⟨g, c, A, ac, rfl, hE, hN, hc2⟩
  have hC2 := hc1.non hc2
  have hgl := (hE.lt (g := g) rfl).2
  have HE := Lib.hid hE
  have HN := Lib.hid hN
  clear hE hN hc1 hc2
  go_wp2_with fail
  obtain ⟨s2, hs2⟩ : ∃ s2, w2.heap.size = s2 := ⟨_, rfl⟩
  have hs2' : s2 ≤ w2.heap.size := by omega
  have hs2l : w2.heap.size ≤ s2 := by omega
  have hgl2 : g < s2 := by omega
  clear hs2
  go_loopw [9, 10] (RelW1 w2 kids s2) (fun _ i _ => kids + 1 - (intOf i).toNat)
  case atStart => exact ⟨0, Nat.zero_le _, rfl, OwnR.nil _ _ _, Chg.refl _ _⟩
  case round =>
    obtain ⟨j, hj, rfl, hO, hC⟩ := hrel
    have hsz := hC.size
    by_cases hlt : j < kids
    · obtain ⟨k0, k3, k4⟩ := (HE.out.non hC).kid (i := j) hlt
      have kk0 : ∀ wx, Chg Non wr wx → wx.cell? ⟨g, (j + 1) * 8, none⟩ = some (.string (one j)) := fun wx h => h.cell k0 id
      have kk3 : ∀ wx, Chg Non wr wx → wx.cell? ⟨g, (j + 1) * 8 + 3, none⟩ = some (.int .i64 0) := fun wx h => h.cell k3 id
      have kk4 : ∀ wx, Chg Non wr wx → wx.cell? ⟨g, (j + 1) * 8 + 3 + 1, none⟩ = some (.int .i64 j) := fun wx h => h.cell k4 id
      have hst : (List.range (j + 1)).map kidC = (List.range j).map kidC ++ [kidC j] := by rw [List.range_succ, List.map_append]; rfl
      have b1 : (j : Int) + 1 ≤ kids := by omega
      have Hst := Lib.hid hst
      have HO := Lib.hid hO
      clear hst hO k0 k3 k4
      go_wp2_with fail
      refine st_region_tail 12 13 Non [] [12] (fun _ _ _ _ => True) (fun _ _ _ _ => True) (fun _ _ _ => True) (fun _ => True) (by kernel_rfl) (by kernel_rfl) (by kernel_rfl) (fun _ h => h.elim) trivial (fun _ _ _ => trivial) ?_
      repeat (first | (refine st_pass (by rfl) ?_; simp only [Act.put, List.setIfInBounds_toArray, List.set_cons_succ, List.set_cons_zero]) | (refine st_plain (Non) (wr) rfl rfl (f := ?_) (by rfl) rfl rfl (fun w hC hG => ?_) ?_; rotate_left; (clear hG; first | (go_simp; done) | (go_simp; with_reducible rfl) | (simp [*, go_sem, ↓IntWalk.iteOmega]; done) | (simp [*, go_sem, ↓IntWalk.iteOmega]; with_reducible rfl)); simp only [Act.put, List.setIfInBounds_toArray, List.set_cons_succ, List.set_cons_zero]))
      refine st_minor Non wr rfl rfl (ob := .cells #[.string (one j), .int .i64 0, .int .i64 j] 34) (kd := some (1, 1)) (by rfl) rfl rfl (fun w hC hG => by clear hG; go_simp; rfl) (fun g2 => ?_)
      simp only [Act.put, List.setIfInBounds_toArray, List.set_cons_succ, List.set_cons_zero]
      refine st_tail Non wr rfl rfl rfl (fun w7 hC7 hS7 hG7 => ?_)
      have hB7 : Blk w7 g2 34 #[.string (one j), .int .i64 0, .int .i64 j] := (hG7 12).2
      clear hG7 hS7
      simp only [List.drop_succ_cons, List.drop_zero, mkv]
      refine appRs (K := rkC) rfl (.tmp 43) (.tmp 55) rfl (HO.out.non hC7) rfl (Rds.blockN (m := 1) (size := 3) hB7 rfl) rfl (cellC_one (kidC j)) (by omega) (by have := hC7.size; omega) (fun A8 c8 w8 hO8 hc8 hb8 => ?_)
      simp only [Act.put, List.setIfInBounds_toArray, List.set_cons_succ, List.set_cons_zero]
      have hO9 : OwnR rkC w8 s2 (.slice A8 (j + 1) c8) (j + 1) (cv ((List.range (j + 1)).map kidC)) := by rw [Hst.out, cv_snoc2]; exact hO8
      have hC9 : Chg Non w2 w8 := (hC.non hC7).trans2 hc8 (fun b e => .inr (by have := (HO.out.lt e).1; omega))
      have hrel : RelW1 w2 kids s2 (.slice A8 (j + 1) c8) (.int .i64 ((j + 1 + 1 : Nat) : Int)) w8 := ⟨j + 1, by omega, rfl, hO9, hC9⟩
      have Hrel := Lib.hid hrel
      clear hrel hO9 hC9 hO8 hc8 hb8 hB7 hC7 kk0 kk3 kk4
      go_wp2_with fail
      go_roundw
      case rel => exact Hrel.out
      case measure => simp [intOf]; omega
    · obtain rfl : j = kids := by omega
      have b1 : ¬ (j : Int) + 1 ≤ j := by omega
      have HO := Lib.hid hO
      have HC := Lib.hid hC
      have h3 : wr.cell? ⟨g, 3, none⟩ = some (.int .i64 0) := (HE.out.non hC).cellN (K := rkE) entC_len (k := 0) (x := headE A ac j j) rfl (j := 3) rfl
      have h4 : wr.cell? ⟨g, 4, none⟩ = some (.int .i64 100) := (HE.out.non hC).cellN (K := rkE) entC_len (k := 0) (x := headE A ac j j) rfl (j := 4) rfl
      clear hO hC
      go_wp2_with (at_builtin; refine appR1s (K := rkC) rfl (.tmp 57) (.tmp 63) rfl HO.out rfl (cs := #[.string ⟨#[]⟩, .int .i64 0, .int .i64 100]) rfl rfl (cellC_one headC) ?_ ?_ ?_; (next => omega); (next => omega); intro A5 c5 w5 hO5 hc5 hb5; obtain ⟨gl, cl, e5, hcl5, hcm5, hgs5, hgl5⟩ := hO5.form (by omega); injection e5 with e51 e52 e53; subst e51 e53; have hB5 : OwnR rkC w5 s2 (.slice (some ⟨gl, 0, none⟩) (j + 1) c5) (j + 1) (cv (base j)) := (by unfold base; rw [cv_snoc2]; exact hO5); have p1 : w5.cell? ⟨gl, m * 3 + 1, none⟩ = some (.int .i64 0) := hB5.cellN (K := rkC) cellC_len (base_kid hm) (j := 1) rfl; have f1 : w5.frozen? ⟨gl, m * 3 + 1, none⟩ = false := hB5.frozen _; have HB := Lib.hid hB5; clear hB5 hO5)
      have hC5 : Chg Non w2 w5 := HC.out.trans2 hc5 (fun b e => .inr (by have := (HO.out.lt e).1; omega))
      obtain ⟨w6, hw6⟩ : ∃ w6, w5.setCell ⟨gl, m * 3 + 1, none⟩ (.int .i64 20) = w6 := ⟨_, rfl⟩
      have hL6 : OwnR rkC w6 s2 (.slice (some ⟨gl, 0, none⟩) (j + 1) c5) (j + 1) (cv ((base j).set m (one m, 20, (m : Int)))) := hw6 ▸ OwnR.putN (K := rkC) cellC_len HB.out (k := m) (x := kidC m) (one m, 20, (m : Int)) (base_kid hm) (j := 1) (u := .int .i64 20) (by decide) rfl
      have hC6 : Chg Non w2 w6 := hw6 ▸ hC5.setCell (p := ⟨gl, m * 3 + 1, none⟩) (.inr (by show _ ≤ gl; omega)) _
      rw [hw6]
      clear hw6 p1 f1
      have hrow := (tree_row hk HE.out HN.out).non hC6
      have hsml : ∀ c ∈ (base j).set m (one m, 20, (m : Int)), c.1.size ≤ maxLen := set_small (base_small j) (one_small m)
      have hr6 := Rds.of_own hL6
      have hcw := hC2.non hC6
      have hn6 : (j + 1) ≤ 1000000 := by omega
      have hchk := check_any w6 (some ⟨g, 0, none⟩) (j + 1) c (tree A ac j j) (some ⟨gl, 0, none⟩) (j + 1) c5 ((base j).set m (one m, 20, (m : Int))) hrow hr6 (by omega) hn6 hsml
      have hwh := fun (w7 : World) (h7 : Chg Non w6 w7) => whole_any w7 (some ⟨g, 0, none⟩) (j + 1) c (tree A ac j j) (some ⟨gl, 0, none⟩) (j + 1) c5 ((base j).set m (one m, 20, (m : Int))) (hrow.non h7) (hr6.non h7) (by omega) hn6 hsml
      have hl : chkP (tree A ac j j) ((base j).set m (one m, 20, (m : Int))) = ((m : Int), false) := wrong6 hk hm
      have hwb : wholeB (tree A ac j j) ((base j).set m (one m, 20, (m : Int))) = false := by
        unfold wholeB
        rw [hl]
        rfl
      rw [hwb] at hwh
      have Hl := Lib.hid hl
      have Hwh := Lib.hid hwh
      clear hl hwb hwh hr6 hrow hsml hL6 hC6
      refine hchk.mono ?_
      rintro e w7 ⟨rfl, hc7⟩
      rw [Hl.out]
      have hw7 := Hwh.out w7 hc7
      have hC7 := hcw.non hc7
      clear hchk hc7 hcw
      go_wp2_with fail
      refine hw7.mono ?_
      rintro e w8 ⟨rfl, hc8⟩
      have hC8 := hC7.non hc8
      clear hw7 hc8 hC7
      go_wp2_with fail
      go_ret
      exact ⟨rfl, hC8⟩

end Go.Proofs.Yteinbdifncdaiaa
