/-
  gleanerlaw29.TraceLeft: the walk.
-/
import Derived.Test.YteinbdifncdaiaaTraceLaws
import Derived.Test.YteinbdifncdaiaaTraceLeft0
import Derived.Test.YteinbdifncdaiaaTraceSameE
namespace Go.Proofs.Yteinbdifncdaiaa
open Go.RowKit
set_option linter.unusedVariables false
set_option linter.unusedSimpArgs false

theorem cv_snoc2 (T : List Cm) (c : Cm) : cv (T ++ [c]) = cv T ++ cellC c := flat_snoc _ _ _
theorem small_ids {A : Option Addr} {c n kids : Nat} : ∀ x ∈ tree A c n kids, x.id.size ≤ maxLen := by
  intro x hx
  simp only [tree, List.mem_cons, List.mem_map, List.mem_range] at hx
  rcases hx with rfl | ⟨i, _, rfl⟩
  · show e0.size ≤ maxLen
    decide
  · show (one i).size ≤ maxLen
    have : (one i).size = 1 := rfl
    rw [this]; decide
theorem tree_row {w : World} {base g c n : Nat} {A : Option Addr} {ac : Nat} (hn : n ≤ 16) (hE : OwnR rkE w base (.slice (some ⟨g, 0, none⟩) (n + 1) c) (n + 1) (evs (tree A ac n n))) (hN : OwnR rkN w base (.slice A n ac) n (iv (rng n))) : EntRow w (some ⟨g, 0, none⟩) (n + 1) (tree A ac n n) := by
  refine ⟨Rds.of_own hE, fun x hx => ⟨?_, ?_, small_ids x hx, ?_⟩⟩
  · simp only [tree, List.mem_cons, List.mem_map, List.mem_range] at hx
    rcases hx with rfl | ⟨i, _, rfl⟩
    · exact Rds.of_own hN
    · exact ⟨rfl, fun h => absurd h (by show ¬ 0 < 0; omega)⟩
  · simp only [tree, List.mem_cons, List.mem_map, List.mem_range] at hx
    rcases hx with rfl | ⟨i, _, rfl⟩
    · show n ≤ 1000000; omega
    · show 0 ≤ 1000000; omega
  · intro k hk
    simp only [tree, List.mem_cons, List.mem_map, List.mem_range] at hx
    rcases hx with rfl | ⟨i, _, rfl⟩
    · obtain ⟨j, hj, rfl⟩ := List.mem_map.1 (show k ∈ (List.range n).map fun i : Nat => (i : Int) from hk)
      have := List.mem_range.1 hj
      unfold i64
      omega
    · cases hk
theorem tree_same {A A2 : Option Addr} {ac ac2 n : Nat} (k : Nat) (x y : Ent) (hx : (tree A ac n n)[k]? = some x) (hy : (tree A2 ac2 n n)[k]? = some y) : EntSame x y := by
  cases k with
  | zero =>
    simp only [tree, List.getElem?_cons_zero, Option.some.injEq] at hx hy
    subst hx hy
    exact ⟨rfl, rfl, rfl, rfl, rfl, rfl, rfl, rfl, rfl, rfl⟩
  | succ k =>
    simp only [tree, List.getElem?_cons_succ] at hx hy
    rw [hx] at hy
    obtain rfl := Option.some.inj hy
    obtain ⟨i, _, rfl⟩ := List.mem_map.1 (List.mem_of_getElem? hx)
    exact ⟨rfl, rfl, rfl, rfl, rfl, rfl, rfl, rfl, rfl, rfl⟩
theorem coms_small {kids m : Nat} : ∀ c ∈ coms kids m, c.1.size ≤ maxLen := by
  intro c hc
  obtain ⟨i, _, rfl⟩ := List.mem_map.1 (show c ∈ (List.range m).map fun j => kidC (kids - 1 - j) from hc)
  show (one _).size ≤ maxLen
  have : (one (kids - 1 - i)).size = 1 := rfl
  rw [this]; decide
/-- An entry's cells in a row of the call's own. -/
theorem OwnR.kid {w : World} {base g c n : Nat} {A : Option Addr} {ac i : Nat} (hE : OwnR rkE w base (.slice (some ⟨g, 0, none⟩) (n + 1) c) (n + 1) (evs (tree A ac n n))) (hi : i < n) :
    w.cell? ⟨g, (i + 1) * 8, none⟩ = some (.string (one i)) ∧ w.cell? ⟨g, (i + 1) * 8 + 3, none⟩ = some (.int .i64 0) ∧ w.cell? ⟨g, (i + 1) * 8 + 3 + 1, none⟩ = some (.int .i64 i) := by
  have h := tree_kid (A := A) (c := ac) (n := n) hi
  exact ⟨hE.cellN (K := rkE) entC_len h (j := 0) rfl, hE.cellN (K := rkE) entC_len h (j := 3) rfl, hE.cellN (K := rkE) entC_len h (j := 4) rfl⟩

/-- The rounds over the kids, from the last on. -/
def RelT1 (w : World) (kids n base : Nat) (v i : Value) (wr : World) : Prop :=
  ∃ j m : Nat, j ≤ n ∧ m + j = kids ∧ i = .int .i64 m ∧ OwnR rkC wr base v j (cv (coms kids j)) ∧ Chg Non w wr
/-- The rounds over those that are left. -/
def RelT2 (w : World) (q base : Nat) (v i : Value) (wr : World) : Prop :=
  ∃ j : Nat, j ≤ q ∧ i = .int .i64 ((j + 1 : Nat) : Int) ∧ OwnR rkI wr base v (j + 1) (sv (wantL j)) ∧ Chg Non w wr

set_option maxRecDepth 100000 in
set_option maxHeartbeats 4000000 in
theorem traceLeft_core (w : World) (kids n : Nat) (hk : kids ≤ 16) (hn : n ≤ kids) :
    Calls Try.prog 4 #[.int .i64 (kids : Int), .int .i64 (n : Int)] w fun e w2 => e = .returned (.bool true) ∧ Chg Non w w2 := by
  go_enter Try.func4, Try.ntmps4
  go_wp2_with fail
  refine (trace_alive _).mono ?_
  rintro e w1 ⟨rfl, hc1⟩
  go_wp2_with fail
  refine (entries_any w1 kids hk).mono ?_
  rintro e w2 ⟨g, c, A, ac, rfl, hE, hN, hc2⟩
  have hC2 := hc1.non hc2
  have hgl := (hE.lt (g := g) rfl).2
  have HE := Lib.hid hE
  have HN := Lib.hid hN
  clear hE hN hc1 hc2
  go_wp2_with fail
  obtain ⟨s2, hs2⟩ : ∃ s2, w2.heap.size = s2 := ⟨_, rfl⟩
  have hs2' : s2 ≤ w2.heap.size := by omega
  have hs2l : w2.heap.size ≤ s2 := by omega
  have hgl2 : g < s2 := by omega
  clear hs2
  go_loopw [7, 8] (RelT1 w2 kids n s2) (fun _ i _ => (intOf i).toNat)
  case atStart => exact ⟨0, kids, Nat.zero_le _, rfl, rfl, OwnR.nil _ _ _, Chg.refl _ _⟩
  case round =>
    obtain ⟨j, m, hj, hmj, rfl, hO, hC⟩ := hrel
    have hsz := hC.size
    by_cases hlt : j < n
    · obtain ⟨i, rfl⟩ : ∃ i, m = i + 1 := ⟨m - 1, by omega⟩
      have hik : i < kids := by omega
      obtain ⟨k0, k3, k4⟩ := (HE.out.non hC).kid (i := i) hik
      have kk0 : ∀ wx, Chg Non wr wx → wx.cell? ⟨g, (i + 1) * 8, none⟩ = some (.string (one i)) := fun wx h => h.cell k0 id
      have kk3 : ∀ wx, Chg Non wr wx → wx.cell? ⟨g, (i + 1) * 8 + 3, none⟩ = some (.int .i64 0) := fun wx h => h.cell k3 id
      have kk4 : ∀ wx, Chg Non wr wx → wx.cell? ⟨g, (i + 1) * 8 + 3 + 1, none⟩ = some (.int .i64 i) := fun wx h => h.cell k4 id
      have hst : coms kids (j + 1) = coms kids j ++ [kidC i] := by rw [coms_succ, show kids - 1 - j = i by omega]
      have Hst := Lib.hid hst
      have HO := Lib.hid hO
      clear hst hO k0 k3 k4
      go_wp2_with fail
      refine st_region_tail 12 13 Non [] [12] (fun _ _ _ _ => True) (fun _ _ _ _ => True) (fun _ _ _ => True) (fun _ => True) (by kernel_rfl) (by kernel_rfl) (by kernel_rfl) (fun _ h => h.elim) trivial (fun _ _ _ => trivial) ?_
      repeat (first | (refine st_pass (by rfl) ?_; simp only [Act.put, List.setIfInBounds_toArray, List.set_cons_succ, List.set_cons_zero]) | (refine st_plain (Non) (wr) rfl rfl (f := ?_) (by rfl) rfl rfl (fun w hC hG => ?_) ?_; rotate_left; (clear hG; first | (go_simp; done) | (go_simp; with_reducible rfl) | (simp [*, go_sem, ↓IntWalk.iteOmega]; done) | (simp [*, go_sem, ↓IntWalk.iteOmega]; with_reducible rfl)); simp only [Act.put, List.setIfInBounds_toArray, List.set_cons_succ, List.set_cons_zero]))
      refine st_minor Non wr rfl rfl (ob := .cells #[.string (one i), .int .i64 0, .int .i64 i] 34) (kd := some (1, 1)) (by rfl) rfl rfl (fun w hC hG => by clear hG; go_simp; rfl) (fun g2 => ?_)
      simp only [Act.put, List.setIfInBounds_toArray, List.set_cons_succ, List.set_cons_zero]
      refine st_tail Non wr rfl rfl rfl (fun w7 hC7 hS7 hG7 => ?_)
      have hB7 : Blk w7 g2 34 #[.string (one i), .int .i64 0, .int .i64 i] := (hG7 12).2
      clear hG7 hS7
      simp only [List.drop_succ_cons, List.drop_zero, mkv]
      refine appRs (K := rkC) rfl (.tmp 44) (.tmp 56) rfl (HO.out.non hC7) rfl (Rds.blockN (m := 1) (size := 3) hB7 rfl) rfl (cellC_one (kidC i)) (by omega) (by have := hC7.size; omega) (fun A8 c8 w8 hO8 hc8 hb8 => ?_)
      simp only [Act.put, List.setIfInBounds_toArray, List.set_cons_succ, List.set_cons_zero]
      have hO9 : OwnR rkC w8 s2 (.slice A8 (j + 1) c8) (j + 1) (cv (coms kids (j + 1))) := by rw [Hst.out, cv_snoc2]; exact hO8
      have hC9 : Chg Non w2 w8 := (hC.non hC7).trans2 hc8 (fun b e => .inr (by have := (HO.out.lt e).1; omega))
      have hrel : RelT1 w2 kids n s2 (.slice A8 (j + 1) c8) (.int .i64 (i : Int)) w8 := ⟨j + 1, i, by omega, by omega, rfl, hO9, hC9⟩
      have Hrel := Lib.hid hrel
      clear hrel hO9 hC9 hO8 hc8 hb8 hB7 hC7 kk0 kk3 kk4
      go_wp2_with fail
      go_roundw
      case rel => exact Hrel.out
      case measure => simp [intOf]
    · obtain rfl : j = n := by omega
      obtain rfl : m = kids - j := by omega
      have HO := Lib.hid hO
      have HC := Lib.hid hC
      have hW0 : OwnR rkI (wr.alloc (.cells #[.string ⟨#[]⟩] 26)) wr.heap.size (.slice (some ⟨wr.heap.size, 0, none⟩) 1 1) 1 (sv (wantL 0)) := ⟨rfl, .inr ⟨_, 1, _, rfl, Nat.le_refl _, heap_alloc_new wr _, Nat.le_refl _, by unfold maxLen; omega, rfl, rfl⟩⟩
      have hCw : Chg Non wr (wr.alloc (.cells #[.string ⟨#[]⟩] 26)) := (Chg.refl _ _).alloc _
      clear hO hC
      go_wp2_with fail
      obtain ⟨wo, rfl⟩ : ∃ wo : World, wo = wr := ⟨_, rfl⟩
      obtain ⟨s3, hs3⟩ : ∃ s3, wo.heap.size = s3 := ⟨_, rfl⟩
      rw [hs3] at hW0
      have hs3' : s3 ≤ wo.heap.size := by omega
      have hs3l : wo.heap.size ≤ s3 := by omega
      have Hs3 := Lib.hid hs3
      clear hs3
      go_loopw [9, 10] (RelT2 wo (kids - j) s3) (fun _ i _ => kids + 1 - (intOf i).toNat)
      case atStart => exact ⟨0, Nat.zero_le _, rfl, by have := Hs3.out; first | exact hW0 | (rw [this]; exact hW0), hCw⟩
      case round =>
        clear hW0 hCw
        obtain ⟨q, hq, rfl, hW, hC⟩ := hrel
        by_cases hlt : q < kids - j
        · have hqk : q < kids := by omega
          obtain ⟨k0, _, _⟩ := ((HE.out.non HC.out).non hC).kid (i := q) hqk
          have hst : wantL (q + 1) = wantL q ++ [one q] := wantL_succ q
          have hsz2 := hC.size
          have Hst := Lib.hid hst
          have HW := Lib.hid hW
          have b1 : (q : Int) + 1 ≤ (kids : Int) - j := by omega
          clear hst hW
          go_wp2_with (at_builtin; refine appR1s (K := rkI) rfl (.tmp 66) (.tmp 72) rfl HW.out rfl (cs := #[.string (one q)]) rfl rfl (svI_one [one q]) ?_ ?_ ?_; (next => omega); (next => omega); intro A6 c6 w6 hO6 hc6 hb6)
          have hO7 : OwnR rkI w6 s3 (.slice A6 (q + 1 + 1) c6) (q + 1 + 1) (sv (wantL (q + 1))) := by rw [Hst.out, sv_snoc]; exact hO6
          have hC7 : Chg Non wo w6 := hC.trans2 hc6 (fun b e => .inr (by have := (HW.out.lt e).1; omega))
          have hrel : RelT2 wo (kids - j) s3 (.slice A6 (q + 1 + 1) c6) (.int .i64 ((q + 1 + 1 : Nat) : Int)) w6 := ⟨q + 1, by omega, rfl, hO7, hC7⟩
          have Hrel := Lib.hid hrel
          clear hrel hO6 hc6 hb6 hO7 hC7 k0
          go_wp2_with fail
          go_roundw
          case rel => exact Hrel.out
          case measure => simp [intOf]; omega
        · obtain rfl : q = kids - j := by omega
          have b1 : ¬ ((kids - j : Nat) : Int) + 1 ≤ (kids : Int) - j := by omega
          have hC3 := HC.out.non hC
          have hE3 := HE.out.non hC3
          have hN3 := HN.out.non hC3
          have hO3 := HO.out.non hC
          have hrow := tree_row hk hE3 hN3
          have hCw2 := hC2.non hC3
          obtain ⟨A7, c7, rfl, _, _, hr7, _⟩ := hO3.open_
          obtain ⟨A9, c9, rfl, _, _, hr9, _⟩ := hW.open_
          have hchk := check_any wr (some ⟨g, 0, none⟩) (kids + 1) c (tree A ac kids kids) A7 j c7 (coms kids j) hrow hr7 (by omega) (by omega) coms_small
          have hl : chkP (tree A ac kids kids) (coms kids j) = (0, true) := left_good hk hn
          have Hl := Lib.hid hl
          have hr7l := Lib.hid hr7
          have hr9l := Lib.hid hr9
          have Hrow := Lib.hid hrow
          have HEN := Lib.hid (And.intro hE3 hN3)
          clear hl hr7 hr9 hrow hE3 hN3 hO3 hW hC hC3 hC2
          go_wp2_with fail
          refine hchk.mono ?_
          rintro e w4 ⟨rfl, hc4⟩
          rw [Hl.out]
          have hC4 := hCw2.non hc4
          have hlf := left_any w4 (some ⟨g, 0, none⟩) (kids + 1) c (tree A ac kids kids) A7 j c7 (coms kids j) (Hrow.out.non hc4) (hr7l.out.non hc4) (by omega) (by omega) coms_small
          clear hchk hCw2
          go_wp2_with fail
          refine hlf.mono ?_
          rintro e w5 ⟨A5, m5, c5, rfl, hm5, hO5, hc5⟩
          rw [left_left hk hn] at hm5 hO5
          rw [wantL_len] at hm5
          subst hm5
          have hc45 := hc4.non hc5
          have hC5 := hC4.non hc5
          have hsm := sameIDs_same w5 A5 (kids - j + 1) c5 A9 c9 (wantL (kids - j)) (Rds.of_own hO5) (hr9l.out.non hc45) (by omega)
          clear hlf hc4 hc5 hO5 hC4
          go_wp2_with fail
          refine hsm.mono ?_
          rintro e w6 ⟨rfl, hc6⟩
          have hc46 := hc45.non hc6
          have hC6 := hC5.non hc6
          have hwh := whole_any w6 (some ⟨g, 0, none⟩) (kids + 1) c (tree A ac kids kids) A7 j c7 (coms kids j) (Hrow.out.non hc46) (hr7l.out.non hc46) (by omega) (by omega) coms_small
          have hwb : wholeB (tree A ac kids kids) (coms kids j) = false := by
            unfold wholeB
            cases h : leftOf (tree A ac kids kids) (coms kids j) with
            | nil =>
              have := left_left (A := A) (c := ac) (n := kids) hk hn
              rw [h] at this
              cases this
            | cons x L => simp
          rw [hwb] at hwh
          clear hsm hc6 hc45 hC5 hwb
          go_wp2_with fail
          refine hwh.mono ?_
          rintro e w7 ⟨rfl, hc7⟩
          have hc47 := hc46.non hc7
          have hC7 := hC6.non hc7
          clear hwh hc7 hc46 hC6
          go_wp2_with fail
          refine (entries_any w7 kids hk).mono ?_
          rintro e w8 ⟨g8, c8, A8, ac8, rfl, hE8, hN8, hc8⟩
          have hc48 := hc47.non hc8
          have hC8 := hC7.non hc8
          have hse := sameEntries_same w8 (some ⟨g, 0, none⟩) (kids + 1) c (tree A ac kids kids) (some ⟨g8, 0, none⟩) c8 (tree A8 ac8 kids kids) (Hrow.out.non hc48) (tree_row hk hE8 hN8) (by omega) tree_same
          clear hc47 hC7 hc8 hE8 hN8
          go_wp2_with fail
          refine hse.mono ?_
          rintro e w9 ⟨rfl, hc9⟩
          have hC9 := hC8.non hc9
          clear hse hc9 hC8
          go_wp2_with fail
          go_ret
          exact ⟨rfl, hC9⟩

theorem traceLeft_walk (w : World) (kids : Int) (hk : i64 kids) (n : Int) (hn : i64 n) :
    Calls Try.prog 4 #[.int .i64 kids, .int .i64 n] w fun e w2 => e = .returned (.bool true) ∧ Chg Non w w2 := by
  by_cases h : 0 ≤ kids ∧ kids ≤ 16 ∧ 0 ≤ n ∧ n ≤ kids
  · obtain ⟨h1, h2, h3, h4⟩ := h
    obtain ⟨K, rfl⟩ : ∃ K : Nat, kids = K := ⟨kids.toNat, by omega⟩
    obtain ⟨N, rfl⟩ : ∃ N : Nat, n = N := ⟨n.toNat, by omega⟩
    exact traceLeft_core w K N (by omega) (by omega)
  · have hp : kids < 0 ∨ (0 ≤ kids ∧ 16 < kids) ∨ (0 ≤ kids ∧ kids ≤ 16 ∧ n < 0) ∨ (0 ≤ kids ∧ kids ≤ 16 ∧ 0 ≤ n ∧ kids < n) := by omega
    clear h hk hn
    rcases hp with h1 | ⟨h1, h2⟩ | ⟨h1, h2, h3⟩ | ⟨h1, h2, h3, h4⟩
    all_goals
      go_enter Try.func4, Try.ntmps4
      go_wp2_with fail
      refine (trace_alive _).mono ?_
      rintro e w1 ⟨rfl, hc1⟩
      go_wp2_with fail
      go_ret
      exact ⟨rfl, hc1⟩
end Go.Proofs.Yteinbdifncdaiaa
