/-
  trace.sorted, trace.Same.
-/
import Derived.Test.YteinbdifncdaiaaTdTraceSort
import Derived.Shelf.SlSortCmp.NoneTotal
namespace Go.Proofs.Yteinbdifncdaiaa
open Go.RowKit Go.Sort Go.Shelf
set_option linter.unusedVariables false
set_option linter.unusedSimpArgs false

set_option maxRecDepth 100000 in
theorem cloneC_any (A : Option Addr) (n c : Nat) (xs : List Value) (w : World) (hr : Rds w (rkC).size A n xs) (h1 : ∀ u ∈ xs, u.oneCell' = true) (hn : n ≤ 1099511627776) :
    Calls Try.prog 38 #[.slice A n c] w fun e w2 => ∃ v, e = .returned v ∧ OwnR rkC w2 w.heap.size v n xs ∧ Chg Non w w2 := by
  have q : ∀ (w : World) (a : Option Addr) (n c : Nat), (binOp .eql 25 (.slice a n c) (.slice none 0 0)).run Try.prog w = .ok (.bool a.isNone) w := fun w a n c => Lib.run_eql_slice_nil w _ _ a n c 0 0 Try.underlying25
  cases A with
  | none =>
    have h0 : n = 0 := by
      rcases Nat.eq_zero_or_pos n with h0 | h0
      · exact h0
      · obtain ⟨_, h, _⟩ := hr.2 h0; cases h
    subst h0
    have hx : xs = [] := List.eq_nil_of_length_eq_zero (by have := hr.1; omega)
    subst hx
    go_enter Try.func38, Try.ntmps38
    go_wp2_with fail
    go_ret
    exact ⟨_, rfl, OwnR.nil _ _ _, Chg.refl _ _⟩
  | some ad =>
    have hown : OwnR rkC (w.alloc (.cells #[] (rkC).e)) w.heap.size (.slice (some ⟨w.heap.size, 0, none⟩) 0 0) 0 [] := World.ownsRow_made w #[] 0 (Nat.le_refl _) (by unfold maxLen; omega) rfl
    have hr2 := hr.non ((Chg.refl _ w).alloc (.cells #[] (rkC).e))
    go_enter Try.func38, Try.ntmps38
    go_wp2_with (at_builtin; refine appR (K := rkC) rfl (.tmp 5) (.tmp 6) rfl hown rfl hr2 rfl h1 ?_ ?_ ?_; rotate_right; intro v2 w2 h2 h3 h4)
    · go_ret
      exact ⟨_, rfl, by simpa using h2, OwnR.chgApp hown ((Chg.refl _ w).alloc _) (Nat.le_refl _) h3⟩
    all_goals (first | omega | (simp; done))


theorem sortC_none (w : World) (p : Option Addr) (cap : Nat) (fv : Value) : Calls Try.prog 39 #[.slice p 0 cap, fv] w fun e w' => e = .returned (.tuple #[]) ∧ w' = w :=
  AnyF.slices_SortFunc_none Try.sortf39 p cap fv w
set_option maxRecDepth 100000 in
theorem sorted_any (w : World) (A : Option Addr) (n c : Nat) (L : List Cm) (hr : Rds w 3 A n (cv L)) (hn : n ≤ 1000000) :
    Calls Try.prog 26 #[.slice A n c] w fun e w2 => ∃ v M, e = .returned v ∧ M.Perm L ∧ M.Pairwise leC ∧ OwnR rkC w2 w.heap.size v n (cv M) ∧ Chg Non w w2 := by
  have hc := cloneC_any A n c (cv L) w hr (cv_one L) (by omega)
  have hl := Lib.hid (flat_eq cellC_len (by decide) hr)
  clear hr
  go_enter Try.func26, Try.ntmps26
  go_wp2_with fail
  refine hc.mono ?_
  rintro e w2 ⟨v, rfl, ho, hc2⟩
  by_cases h0 : n = 0
  · subst h0
    have hL : L = [] := List.eq_nil_of_length_eq_zero hl.out.symm
    subst hL
    have Ho := Lib.hid ho
    obtain ⟨A2, c2, rfl, _⟩ := ho.open_
    have hs := sortC_none w2 A2 c2 (.func (.func 40) #[] #[])
    clear hc ho
    go_wp2_with fail
    refine hs.mono ?_
    rintro e w3 ⟨rfl, rfl⟩
    go_wp2_with fail
    go_ret
    exact ⟨_, [], rfl, List.Perm.refl _, List.Pairwise.nil, Ho.out, hc2⟩
  · have hs := sortC_own w2 w.heap.size v n L ho (by omega) (by omega)
    have Ho := Lib.hid ho
    clear hc ho
    go_wp2_with fail
    refine hs.mono ?_
    rintro e w3 ⟨rfl, M, hp, hsd, ho3, hc3⟩
    have hC3 : Chg Non w w3 := hc2.trans2 hc3 (fun b e => .inr (Ho.out.lt e).1)
    clear hs
    go_wp2_with fail
    go_ret
    exact ⟨_, M, rfl, hp, hsd, ho3, hC3⟩
open Classical in
set_option maxRecDepth 100000 in
theorem sameC_any (w : World) (A : Option Addr) (n c : Nat) (B : Option Addr) (m d : Nat) (L1 L2 : List Cm) (h1 : Rds w 3 A n (cv L1)) (h2 : Rds w 3 B m (cv L2)) (hn : n ≤ 1000000) (hm : m ≤ 1000000) :
    Calls Try.prog 15 #[.slice A n c, .slice B m d] w fun e w2 => e = .returned (.bool (decide (L1.Perm L2))) ∧ Chg Non w w2 := by
  have q1 := sorted_any w A n c L1 h1 hn
  have H2 := Lib.hid h2
  clear h1 h2
  go_enter Try.func15, Try.ntmps15
  go_wp2_with fail
  refine q1.mono ?_
  rintro e w2 ⟨v1, M1, rfl, p1, s1, o1, c1⟩
  have q2 := sorted_any w2 B m d L2 (H2.out.non c1) hm
  clear q1
  go_wp2_with fail
  refine q2.mono ?_
  rintro e w3 ⟨v2, M2, rfl, p2, s2, o2, c2⟩
  have o1 := o1.non c2
  obtain ⟨A1, k1, rfl, _, _, r1, _⟩ := o1.open_
  obtain ⟨A2, k2, rfl, _, _, r2, _⟩ := o2.open_
  have q3 := equalC_any w3 A1 n k1 A2 m k2 M1 M2 r1 r2 hn
  have he : decide (M1 = M2) = decide (L1.Perm L2) := by
    rw [Bool.eq_iff_iff, decide_eq_true_iff, decide_eq_true_iff]
    exact sorted_perm p1 s1 p2 s2
  have hC := c1.non c2
  have e9 : (decide (M1 = M2) : Bool) = (@decide (M1 = M2) (instDecidableEqList M1 M2)) := by congr
  clear q2 o1 o2 r1 r2
  go_wp2_with fail
  refine q3.mono ?_
  rintro e w4 ⟨rfl, c4⟩
  go_wp2_with fail
  go_ret
  exact ⟨by rw [← he]; congr, hC.non c4⟩
end Go.Proofs.Yteinbdifncdaiaa
