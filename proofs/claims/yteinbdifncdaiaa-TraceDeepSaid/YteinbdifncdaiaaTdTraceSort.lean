/-
  trace.sorted: how commits are told apart in order.
  trace.sorted$1: how two commits stand to each other.
  slices.SortFunc of a row of commits of the call's own: the rising order of its commits.
  slices.Equal of rows of commits; rows that are one but for their order, plain.
-/
import Derived.Test.YteinbdifncdaiaaKeys
import Derived.Test.YteinbdifncdaiaaTdCms
import Derived.Test.YteinbdifncdaiaaTdDeepCode
import Derived.Test.YteinbdifncdaiaaTdOwn
import Derived.Test.YteinbdifncdaiaaTdRegion
import Derived.Sort.Walk0
namespace Go.Proofs.Yteinbdifncdaiaa
open Go.RowKit
set_option linter.unusedVariables false
set_option linter.unusedSimpArgs false

open Go.RowKit Go.Sort Go.Shelf

theorem lessS (a b : ByteArray) : Op.bytesLess a.toList b.toList = decide (ltS a b) := by
  rw [Go.Proofs.bytesLess_eq, ByteArray.toList_eq, ByteArray.toList_eq]
  rfl
def cmpS (x y : ByteArray) : Int := if ltS x y then -1 else if ltS y x then 1 else 0
def cmp3 (x y : Cm) : Int := if cmpS x.1 y.1 ≠ 0 then cmpS x.1 y.1 else if Lib.compareInt x.2.1 y.2.1 ≠ 0 then Lib.compareInt x.2.1 y.2.1 else Lib.compareInt x.2.2 y.2.2
def ltC (x y : Cm) : Prop := ltS x.1 y.1 ∨ (x.1 = y.1 ∧ (x.2.1 < y.2.1 ∨ (x.2.1 = y.2.1 ∧ x.2.2 < y.2.2)))
theorem ltC_irrefl (x : Cm) : ¬ ltC x x := by
  rintro (h | ⟨_, h | ⟨_, h⟩⟩)
  · exact ltS_irrefl _ h
  · omega
  · omega
theorem ltC_trans {x y z : Cm} (h : ltC x y) (g : ltC y z) : ltC x z := by
  rcases h with h | ⟨e, h⟩
  · rcases g with g | ⟨e2, g⟩
    · exact .inl (ltS_trans h g)
    · exact .inl (e2 ▸ h)
  · rcases g with g | ⟨e2, g⟩
    · exact .inl (e ▸ g)
    · exact .inr ⟨e.trans e2, by omega⟩
theorem ltC_tri (x y : Cm) : ltC x y ∨ x = y ∨ ltC y x := by
  obtain ⟨a, b, c⟩ := x
  obtain ⟨a2, b2, c2⟩ := y
  rcases ltS_tri a a2 with h | h | h
  · exact .inl (.inl h)
  · subst h
    have h3 : b < b2 ∨ (b = b2 ∧ c < c2) ∨ (b = b2 ∧ c = c2) ∨ (b2 < b ∨ (b2 = b ∧ c2 < c)) := by omega
    rcases h3 with h3 | h3 | ⟨h3, h4⟩ | h3
    · exact .inl (.inr ⟨rfl, .inl h3⟩)
    · exact .inl (.inr ⟨rfl, .inr h3⟩)
    · subst h3 h4; exact .inr (.inl rfl)
    · exact .inr (.inr (.inr ⟨rfl, h3⟩))
  · exact .inr (.inr (.inl h))
theorem lt3 (x y : Cm) : ltOf cmp3 x y = true ↔ ltC x y := by
  obtain ⟨a, b, c⟩ := x
  obtain ⟨a2, b2, c2⟩ := y
  unfold ltOf cmp3 cmpS ltC Lib.compareInt
  rcases ltS_tri a a2 with h | h | h
  · simp [h]
  · subst h
    simp only [ltS_irrefl, if_false, ne_eq, not_true_eq_false, decide_eq_true_eq, true_and, false_or]
    by_cases h1 : b < b2
    · simp [h1]
    · by_cases h2 : b2 < b
      · simp [h1, h2]; omega
      · have e : b = b2 := by omega
        subst e
        by_cases h3 : c < c2
        · simp [h3]
        · by_cases h4 : c2 < c <;> simp [h3, h4]
  · have h1 := ltS_asym h
    have h2 : ¬ a = a2 := fun e => ltS_ne h e.symm
    simp [h, h1, h2]
theorem lt3_no (x y : Cm) : ltOf cmp3 x y = false ↔ ¬ ltC x y := by
  rw [← lt3]
  simp
theorem swo3 : SWO (ltOf cmp3) where
  irrefl x := (lt3_no _ _).2 (ltC_irrefl x)
  trans x y z h1 h2 := (lt3 _ _).2 (ltC_trans ((lt3 _ _).1 h1) ((lt3 _ _).1 h2))
  ntrans x y z h1 h2 := by
    rw [lt3_no] at *
    intro h
    rcases ltC_tri x y with h3 | h3 | h3
    · exact h1 h3
    · subst h3; exact h2 h
    · exact h2 (ltC_trans h3 h)

theorem isNaN_int (x : Int) (w : World) : Calls Try.prog 57 #[.int .i64 x] w fun e w2 => e = .returned (.bool false) ∧ w = w2 := by
  have h : (x != x) = false := bne_self_eq_false _
  go_enter Try.func57, Try.ntmps57
  go_wp2_with fail
  go_ret
  exact ⟨rfl, rfl⟩
theorem isNaN_err (x : Int) (w : World) : Calls Try.prog 56 #[.int .i64 x] w fun e w2 => e = .returned (.bool false) ∧ w = w2 := by
  have h : (x != x) = false := bne_self_eq_false _
  go_enter Try.func56, Try.ntmps56
  go_wp2_with fail
  go_ret
  exact ⟨rfl, rfl⟩
theorem isNaN_id (x : ByteArray) (w : World) : Calls Try.prog 55 #[.string x] w fun e w2 => e = .returned (.bool false) ∧ w = w2 := by
  have h : (x.toList != x.toList) = false := bne_self_eq_false _
  go_enter Try.func55, Try.ntmps55
  go_wp2_with fail
  go_ret
  exact ⟨rfl, rfl⟩
theorem cmpInt_cases (x y : Int) : (x < y ∧ Lib.compareInt x y = -1) ∨ (¬ x < y ∧ y < x ∧ Lib.compareInt x y = 1) ∨ (¬ x < y ∧ ¬ y < x ∧ Lib.compareInt x y = 0) := by
  unfold Lib.compareInt
  by_cases h1 : x < y
  · exact .inl ⟨h1, by simp [h1]⟩
  · by_cases h2 : y < x
    · exact .inr (.inl ⟨h1, h2, by simp [h1, h2]⟩)
    · exact .inr (.inr ⟨h1, h2, by simp [h1, h2]⟩)
theorem compare_int (x y : Int) (w : World) : Calls Try.prog 44 #[.int .i64 x, .int .i64 y] w fun e w2 => e = .returned (.int .i64 (Lib.compareInt x y)) ∧ w = w2 := by
  rcases cmpInt_cases x y with ⟨h1, h2⟩ | ⟨h1, h3, h2⟩ | ⟨h1, h3, h2⟩
  all_goals
    rw [h2]
    clear h2
    go_enter Try.func44, Try.ntmps44
    go_wp2_with fail
    refine (isNaN_int _ _).mono ?_
    rintro e w2 ⟨rfl, rfl⟩
    go_wp2_with fail
    refine (isNaN_int _ _).mono ?_
    rintro e w2 ⟨rfl, rfl⟩
    go_wp2_with fail
    go_ret
    exact ⟨rfl, rfl⟩
theorem compare_err (x y : Int) (w : World) : Calls Try.prog 43 #[.int .i64 x, .int .i64 y] w fun e w2 => e = .returned (.int .i64 (Lib.compareInt x y)) ∧ w = w2 := by
  rcases cmpInt_cases x y with ⟨h1, h2⟩ | ⟨h1, h3, h2⟩ | ⟨h1, h3, h2⟩
  all_goals
    rw [h2]
    clear h2
    go_enter Try.func43, Try.ntmps43
    go_wp2_with fail
    refine (isNaN_err _ _).mono ?_
    rintro e w2 ⟨rfl, rfl⟩
    go_wp2_with fail
    refine (isNaN_err _ _).mono ?_
    rintro e w2 ⟨rfl, rfl⟩
    go_wp2_with fail
    go_ret
    exact ⟨rfl, rfl⟩
theorem compare_id (x y : ByteArray) (w : World) : Calls Try.prog 42 #[.string x, .string y] w fun e w2 => e = .returned (.int .i64 (cmpS x y)) ∧ w = w2 := by
  have hcase : (Op.bytesLess x.toList y.toList = true ∧ cmpS x y = -1) ∨ (Op.bytesLess x.toList y.toList = false ∧ (Op.bytesLess y.toList x.toList = true ∧ (x.toList == y.toList) = false) ∧ cmpS x y = 1) ∨ (Op.bytesLess x.toList y.toList = false ∧ (Op.bytesLess y.toList x.toList = false ∧ (x.toList == y.toList) = true) ∧ cmpS x y = 0) := by
    unfold cmpS
    rw [lessS, lessS]
    by_cases h1 : ltS x y
    · exact .inl ⟨decide_eq_true h1, by simp [h1]⟩
    · by_cases h2 : ltS y x
      · exact .inr (.inl ⟨decide_eq_false h1, ⟨decide_eq_true h2, str_ne (fun e => ltS_ne h2 e.symm)⟩, by simp [h1, h2]⟩)
      · have e : x = y := (ltS_tri x y).elim (fun h => absurd h h1) (fun h => h.elim id (fun h => absurd h h2))
        exact .inr (.inr ⟨decide_eq_false h1, ⟨decide_eq_false h2, by rw [e]; exact beq_self_eq_true _⟩, by simp [h1, h2]⟩)
  rcases hcase with ⟨h1, h2⟩ | ⟨h1, ⟨h3, h4⟩, h2⟩ | ⟨h1, ⟨h3, h4⟩, h2⟩
  all_goals
    rw [h2]
    clear h2
    go_enter Try.func42, Try.ntmps42
    go_wp2_with fail
    refine (isNaN_id _ _).mono ?_
    rintro e w2 ⟨rfl, rfl⟩
    go_wp2_with fail
    refine (isNaN_id _ _).mono ?_
    rintro e w2 ⟨rfl, rfl⟩
    go_wp2_with fail
    go_ret
    exact ⟨rfl, rfl⟩
def orI : List Int → Int
  | [] => 0
  | x :: l => if x ≠ 0 then x else orI l
set_option maxRecDepth 100000 in
theorem or_any (w : World) (A : Option Addr) (n c : Nat) (l : List Int) (hr : Rds w 1 A n (iv l)) (hn : n ≤ 1000000) :
    Calls Try.prog 41 #[.slice A n c] w fun e w2 => e = .returned (.int .i64 (orI l)) ∧ w = w2 := by
  have Hl := Lib.hid hr.lenMap
  go_enter Try.func41, Try.ntmps41
  go_wp2_with fail
  go_loop [8] (fun i => ∃ k : Nat, k ≤ n ∧ i = .int .i64 k ∧ Hid (orI l = orI (l.drop k))) (fun i => n - (intOf i).toNat)
  case atStart => exact ⟨0, Nat.zero_le _, rfl, rfl⟩
  case round =>
    obtain ⟨k, hk, rfl, ho⟩ := hrel
    by_cases hlt : k < n
    · obtain ⟨ad, x, rfl, hx, hc⟩ := hr.getI hlt
      have hd : l.drop k = x :: l.drop (k + 1) := by
        have h9 := List.getElem?_eq_some_iff.1 hx
        rw [List.drop_eq_getElem_cons h9.1, h9.2]
      by_cases h0 : x = 0
      · subst h0
        have ho2 : Hid (orI l = orI (l.drop (k + 1))) := by show _ = _; rw [ho.out, hd]; simp [orI]
        clear hd hx ho
        go_wp2_with fail
        go_round
        case rel => exact ⟨k + 1, by omega, by go_num, ho2⟩
        case measure => simp [intOf]; omega
      · have ho2 : Hid (orI l = x) := by show _ = _; rw [ho.out, hd]; simp [orI, h0]
        have hb : (x != 0) = true := by rw [bne_iff_ne]; exact h0
        clear hd hx ho h0
        go_wp2_with fail
        go_ret
        exact ⟨by rw [ho2.out]; rfl, rfl⟩
    · have ho2 : Hid (orI l = 0) := by show _ = _; rw [ho.out, List.drop_of_length_le (by have := Hl.out; omega)]; rfl
      clear ho
      go_wp2_with fail
      go_ret
      exact ⟨by rw [ho2.out]; rfl, rfl⟩
theorem grow_of {w w2 : World} (h : Chg Non w w2) (hd : w.drawn ≤ w2.drawn) : ∃ q os, w2 = grow (w.drewN q) os := by
  refine ⟨w2.drawn - w.drawn, w2.heap.extract w.heap.size w2.heap.size, ?_⟩
  have e1 : w2.heap = w.heap ++ w2.heap.extract w.heap.size w2.heap.size := by
    refine Array.ext_getElem? fun i => ?_
    rw [Array.getElem?_append]
    by_cases hi : i < w.heap.size
    · rw [if_pos hi]; exact h.block i hi id
    · rw [if_neg hi, Array.getElem?_extract]
      by_cases h2 : i < w2.heap.size
      · rw [if_pos (by omega)]; congr 1; omega
      · rw [if_neg (by omega), Array.getElem?_eq_none (by omega)]
  have h1 := h.os
  have h2 := h.tape
  have h3 := h.output
  obtain ⟨hp, tp, dr, os, out⟩ := w2
  obtain ⟨hp', tp', dr', os', out'⟩ := w
  simp only at h1 h2 h3 hd e1
  subst h1 h2 h3
  simp only [grow, World.drewN]
  congr 1
  omega

open Go.RowKit Go.Sort Go.Shelf

theorem or3 (x y z : Int) : orI [x, y, z] = if x ≠ 0 then x else if y ≠ 0 then y else z := by
  unfold orI orI orI orI
  by_cases h1 : x = 0 <;> by_cases h2 : y = 0 <;> by_cases h3 : z = 0 <;> simp [h1, h2, h3]
set_option maxRecDepth 100000 in
set_option maxHeartbeats 4000000 in
theorem cmpC_any (x y : Cm) (W : World) : Calls Try.prog 40 #[.agg #[.string x.1, .int .i64 x.2.1, .int .i64 x.2.2], .agg #[.string y.1, .int .i64 y.2.1, .int .i64 y.2.2]] W fun e w' => e = .returned (.int .i64 (cmp3 x y)) ∧ ∃ q os', w' = grow (W.drewN q) os' := by
  obtain ⟨a, b, c⟩ := x
  obtain ⟨a2, b2, c2⟩ := y
  obtain ⟨W1, hW1⟩ : ∃ W1, W.alloc (.cells #[.string a, .int .i64 b, .int .i64 c] 34) = W1 := ⟨_, rfl⟩
  obtain ⟨W2, hW2⟩ : ∃ W2, W1.alloc (.cells #[.string a2, .int .i64 b2, .int .i64 c2] 34) = W2 := ⟨_, rfl⟩
  have k1 : Chg Non W W1 := hW1 ▸ (Chg.refl _ _).alloc _
  have k2 : Chg Non W1 W2 := hW2 ▸ (Chg.refl _ _).alloc _
  have d1 : Blk W2 W.heap.size 34 #[.string a, .int .i64 b, .int .i64 c] := Blk.non (hW1 ▸ Blk.new _ _ _) k2
  have d2 : Blk W2 W1.heap.size 34 #[.string a2, .int .i64 b2, .int .i64 c2] := hW2 ▸ Blk.new _ _ _
  have hg1 : W1.heap.size = W.heap.size + 1 := by rw [← hW1]; simp
  rw [hg1] at d2
  have hdr : W.drawn ≤ W2.drawn := by rw [← hW2, ← hW1]; exact Nat.le_refl _
  have hC2 := k1.non k2
  have x0 : ∀ w2, Chg Non W2 w2 → w2.cell? ⟨W.heap.size, 0, none⟩ = some (.string a) := fun w2 h => h.cell (d1.cell 0) _root_.id
  have x1 : ∀ w2, Chg Non W2 w2 → w2.cell? ⟨W.heap.size, 1, none⟩ = some (.int .i64 b) := fun w2 h => h.cell (d1.cell 1) _root_.id
  have x2 : ∀ w2, Chg Non W2 w2 → w2.cell? ⟨W.heap.size, 2, none⟩ = some (.int .i64 c) := fun w2 h => h.cell (d1.cell 2) _root_.id
  have y0 : ∀ w2, Chg Non W2 w2 → w2.cell? ⟨W.heap.size + 1, 0, none⟩ = some (.string a2) := fun w2 h => h.cell (d2.cell 0) _root_.id
  have y1 : ∀ w2, Chg Non W2 w2 → w2.cell? ⟨W.heap.size + 1, 1, none⟩ = some (.int .i64 b2) := fun w2 h => h.cell (d2.cell 1) _root_.id
  have y2 : ∀ w2, Chg Non W2 w2 → w2.cell? ⟨W.heap.size + 1, 2, none⟩ = some (.int .i64 c2) := fun w2 h => h.cell (d2.cell 2) _root_.id
  have q1 := fun w => compare_id a a2 w
  have q2 := fun w => compare_err b b2 w
  have q3 := fun w => compare_int c c2 w
  have hor : cmp3 (a, b, c) (a2, b2, c2) = orI [cmpS a a2, Lib.compareInt b b2, Lib.compareInt c c2] := by rw [or3]; rfl
  rw [hor]
  generalize cmpS a a2 = r1 at q1 ⊢
  generalize Lib.compareInt b b2 = r2 at q2 ⊢
  generalize Lib.compareInt c c2 = r3 at q3 ⊢
  have Q1 := Lib.hid q1
  have Q2 := Lib.hid q2
  have Q3 := Lib.hid q3
  have HC2 := Lib.hid hC2
  have Hdr := Lib.hid hdr
  clear k1 k2 d1 d2 q1 q2 q3 hor hC2 hdr
  go_enter Try.func40, Try.ntmps40
  go_wp2_with fail
  try rw [hW1]
  try rw [hW2]
  clear hW1 hW2 hg1
  refine st_region 12 Non [4, 11, 18, 20] [19] (fun _ _ _ w2 => W2.drawn ≤ w2.drawn) (fun _ _ _ _ => True) (fun i _ v => v = .int .i64 (if i = 4 then r1 else if i = 11 then r2 else if i = 18 then r3 else orI [r1, r2, r3])) (fun w2 => W2.drawn ≤ w2.drawn) (by kernel_rfl) (by kernel_rfl) (fun _ h => h.elim) (Nat.le_succ _) (fun _ _ h => h) ?_
  repeat (first | (refine st_pass (by rfl) ?_; simp only [Act.put, List.setIfInBounds_toArray, List.set_cons_succ, List.set_cons_zero]) | (refine st_plain (Non) (W2) rfl rfl (f := ?_) (by rfl) rfl rfl (fun w hC hG => ?_) ?_; rotate_left; (clear hG; first | (go_simp; done) | (go_simp; with_reducible rfl) | (simp [*, go_sem, ↓IntWalk.iteOmega]; done) | (simp [*, go_sem, ↓IntWalk.iteOmega]; with_reducible rfl)); simp only [Act.put, List.setIfInBounds_toArray, List.set_cons_succ, List.set_cons_zero]))
  refine st_major (Non) (W2) rfl rfl (by rfl) rfl (⟨.int .i64 r1, rfl⟩) (fun _ _ _ _ _ _ => trivial) (fun v w ob h => h) (fun w hC hG hS => settle_of (r2 := ?_) ?_ ?_) ?_
  rotate_left
  (first | (go_simp; done) | (go_simp; rfl))
  · refine settle_enter ((Q1.out _).mono ?_)
    rintro e w6 ⟨rfl, rfl⟩
    exact ⟨_, rfl, rfl, Chg.refl _ _, hS, trivial⟩
  rintro v4 hv4
  obtain rfl : v4 = .int .i64 r1 := hv4
  simp only [Act.put, List.setIfInBounds_toArray, List.set_cons_succ, List.set_cons_zero]
  repeat (first | (refine st_pass (by rfl) ?_; simp only [Act.put, List.setIfInBounds_toArray, List.set_cons_succ, List.set_cons_zero]) | (refine st_plain (Non) (W2) rfl rfl (f := ?_) (by rfl) rfl rfl (fun w hC hG => ?_) ?_; rotate_left; (clear hG; first | (go_simp; done) | (go_simp; with_reducible rfl) | (simp [*, go_sem, ↓IntWalk.iteOmega]; done) | (simp [*, go_sem, ↓IntWalk.iteOmega]; with_reducible rfl)); simp only [Act.put, List.setIfInBounds_toArray, List.set_cons_succ, List.set_cons_zero]))
  refine st_major (Non) (W2) rfl rfl (by rfl) rfl (⟨.int .i64 r2, rfl⟩) (fun _ _ _ _ _ _ => trivial) (fun v w ob h => h) (fun w hC hG hS => settle_of (r2 := ?_) ?_ ?_) ?_
  rotate_left
  (first | (go_simp; done) | (go_simp; rfl))
  · refine settle_enter ((Q2.out _).mono ?_)
    rintro e w6 ⟨rfl, rfl⟩
    exact ⟨_, rfl, rfl, Chg.refl _ _, hS, trivial⟩
  rintro v4 hv4
  obtain rfl : v4 = .int .i64 r2 := hv4
  simp only [Act.put, List.setIfInBounds_toArray, List.set_cons_succ, List.set_cons_zero]
  repeat (first | (refine st_pass (by rfl) ?_; simp only [Act.put, List.setIfInBounds_toArray, List.set_cons_succ, List.set_cons_zero]) | (refine st_plain (Non) (W2) rfl rfl (f := ?_) (by rfl) rfl rfl (fun w hC hG => ?_) ?_; rotate_left; (clear hG; first | (go_simp; done) | (go_simp; with_reducible rfl) | (simp [*, go_sem, ↓IntWalk.iteOmega]; done) | (simp [*, go_sem, ↓IntWalk.iteOmega]; with_reducible rfl)); simp only [Act.put, List.setIfInBounds_toArray, List.set_cons_succ, List.set_cons_zero]))
  refine st_major (Non) (W2) rfl rfl (by rfl) rfl (⟨.int .i64 r3, rfl⟩) (fun _ _ _ _ _ _ => trivial) (fun v w ob h => h) (fun w hC hG hS => settle_of (r2 := ?_) ?_ ?_) ?_
  rotate_left
  (first | (go_simp; done) | (go_simp; rfl))
  · refine settle_enter ((Q3.out _).mono ?_)
    rintro e w6 ⟨rfl, rfl⟩
    exact ⟨_, rfl, rfl, Chg.refl _ _, hS, trivial⟩
  rintro v4 hv4
  obtain rfl : v4 = .int .i64 r3 := hv4
  simp only [Act.put, List.setIfInBounds_toArray, List.set_cons_succ, List.set_cons_zero]
  refine st_minor Non W2 rfl rfl (ob := .cells #[.int .i64 r1, .int .i64 r2, .int .i64 r3] 3) (kd := some (3, 3)) (by rfl) rfl rfl (fun w hC hG => by clear hG; go_simp; rfl) (fun g2 => ?_)
  simp only [Act.put, List.setIfInBounds_toArray, List.set_cons_succ, List.set_cons_zero]
  refine st_major (Non) (W2) rfl rfl (by rfl) rfl (⟨.int .i64 (orI [r1, r2, r3]), rfl⟩) (fun _ _ _ _ _ _ => trivial) (fun v w ob h => h) (fun w hC hG hS => settle_of (r2 := ?_) ?_ ?_) ?_
  rotate_left
  (first | (go_simp; done) | (go_simp; rfl))
  · have hB : Rds w 1 (some ⟨g2, 0, none⟩) 3 (iv [r1, r2, r3]) := Rds.block (cs := #[.int .i64 r1, .int .i64 r2, .int .i64 r3]) (show w.heap[g2]? = _ from (hG 19 rfl).2) rfl
    refine settle_enter ((or_any _ (some ⟨g2, 0, none⟩) 3 3 [r1, r2, r3] hB (by omega)).mono ?_)
    rintro e w6 ⟨rfl, rfl⟩
    exact ⟨_, rfl, rfl, Chg.refl _ _, hS, trivial⟩
  rintro v4 hv4
  obtain rfl : v4 = .int .i64 (orI [r1, r2, r3]) := hv4
  simp only [Act.put, List.setIfInBounds_toArray, List.set_cons_succ, List.set_cons_zero]
  repeat (first | (refine st_pass (by rfl) ?_; simp only [Act.put, List.setIfInBounds_toArray, List.set_cons_succ, List.set_cons_zero]) | (refine st_plain (Non) (W2) rfl rfl (f := ?_) (by rfl) rfl rfl (fun w hC hG => ?_) ?_; rotate_left; (clear hG; first | (go_simp; done) | (go_simp; with_reducible rfl) | (simp [*, go_sem, ↓IntWalk.iteOmega]; done) | (simp [*, go_sem, ↓IntWalk.iteOmega]; with_reducible rfl)); simp only [Act.put, List.setIfInBounds_toArray, List.set_cons_succ, List.set_cons_zero]))
  refine st_end Non W2 rfl rfl (fun w6 hC6 hS6 hG => ?_)
  have hS6 : W2.drawn ≤ w6.drawn := hS6
  have hw6 := grow_of (HC2.out.non hC6) (Nat.le_trans Hdr.out hS6)
  clear hG hS6 hC6 x0 x1 x2 y0 y1 y2
  go_wp2_with fail
  go_ret
  exact ⟨rfl, hw6⟩

open Go.RowKit Go.Sort Go.Shelf

section
variable {w : World} {g n : Nat} {e : TypeId} {os : Array Obj} {cur : Array Value}
theorem holds_of_blockV {vs : List Value} (hb : w.heap[g]? = some (.cells cur e (0, 0))) (ht : cur.toList.take vs.length = vs) : Holds (id : Value → Value) w g 0 vs.toArray := by
  intro j hj
  have hj' : j < vs.length := by simpa using hj
  refine ⟨?_, by simp [World.frozen?, hb]⟩
  have h1 : (cur.toList.take vs.length)[j]? = vs[j]? := by rw [ht]
  rw [List.getElem?_take_of_lt hj'] at h1
  simp only [World.cell?, hb, Nat.zero_add]
  simp only [Option.isSome_none, Bool.false_eq_true, if_false]
  rw [← Array.getElem?_toList, h1]
  simp [hj']
theorem heap_sortedV {fr : Nat × Nat} (d : Array Value) (hb : w.heap[g]? = some (.cells cur e fr)) :
    (grow (putRow (id : Value → Value) (Sort.ahead w n) g 0 d) os).heap[g]? = some (.cells (putCells id 0 d cur) e fr) := by
  have hg : g < w.heap.size := (Array.getElem?_eq_some_iff.1 hb).1
  rw [heap_grow_old _ _ (by simpa using hg)]
  simp [putRow, mapBlock, Sort.ahead, Array.getElem?_modify, hb, onCells]
theorem grownBy_sortedV (d : Array Value) : w.grownBy (grow (putRow (id : Value → Value) (Sort.ahead w n) g 0 d) os) (some g) := by
  refine ⟨rfl, rfl, rfl, by simp, fun k hk hne => ?_⟩
  rw [heap_grow_old _ _ (by simpa using hk)]
  have : g ≠ k := fun e => hne (by rw [e])
  simp [putRow, mapBlock, Sort.ahead, Array.getElem?_modify, this]
theorem take_putCellsV (ts : List Value) (h : ts.length ≤ cur.size) : (putCells (id : Value → Value) 0 ts.toArray cur).toList.take ts.length = ts := by
  apply List.ext_getElem?
  intro j
  by_cases hj : j < ts.length
  · rw [List.getElem?_take_of_lt hj, Array.getElem?_toList]
    simp [putCells, hj, show j < cur.size by omega]
  · rw [List.getElem?_take_eq_none (by omega), List.getElem?_eq_none (by omega)]
end

theorem cv_length (L : List Cm) : (cv L).length = L.length * 3 := flat_len cellC_len L
theorem flatK_cv (L : List Cm) : flatK cellC 3 L.toArray = (cv L).toArray := by
  refine ext_get! (by simp [cv_length]) fun t ht => ?_
  have ht' : t < L.length * 3 := by simpa using ht
  rw [get_flatK _ _ _ t (by simpa using ht')]
  have hd : t / 3 < L.length := by omega
  have hx := List.getElem?_eq_getElem hd
  have hg := flat_get cellC_len L (t / 3) _ hx (t % 3) (Nat.mod_lt _ (by decide))
  rw [show t / 3 * 3 + t % 3 = t by omega] at hg
  have h1 : (L.toArray)[t / 3]! = L[t / 3] := by simp [hd]
  rw [h1]
  have h2 : ((cv L).toArray)[t]! = ((cv L)[t]?).getD default := by simp [Array.getElem!_eq_getD, Array.getD_eq_getD_getElem?]
  rw [h2, show cv L = L.flatMap cellC from rfl, hg]
  have h3 : t % 3 = 0 ∨ t % 3 = 1 ∨ t % 3 = 2 := by omega
  rcases h3 with h | h | h <;> rw [h] <;> rfl
def leC (x y : Cm) : Prop := ¬ ltC y x
/-- What the sort leaves: a rising order of the same commits. -/
def SortPost (w : World) (base : Nat) (v : Value) (n : Nat) (L : List Cm) (e : Ending) (w2 : World) : Prop :=
  e = .returned (.tuple #[]) ∧ ∃ M, M.Perm L ∧ M.Pairwise leC ∧ OwnR rkC w2 base v n (cv M) ∧ Chg (fun g => v.ownBlock = some g) w w2
theorem sortC_own (w : World) (base : Nat) (v : Value) (n : Nat) (L : List Cm) (h : OwnR rkC w base v n (cv L)) (h0 : 0 < n) (hn : n ≤ 1099511627776) :
    Calls Try.prog 39 #[v, .func (.func 40) #[] #[]] w (SortPost w base v n L) := by
  have hl : L.length = n := by have := h.len; rw [cv_length] at this; have e : (rkC).size = 3 := rfl; rw [e] at this; omega
  rcases h.2 with ⟨_, rfl⟩ | ⟨g, cap, cur, rfl, hbase, hb, h1, h2, h3, h4⟩
  · omega
  · subst hl
    have h4 : cur.toList.take (cv L).length = cv L := by rw [cv_length]; exact h4
    have hH : HoldsK cellC 3 w g 0 L.toArray := by unfold HoldsK; rw [flatK_cv]; exact holds_of_blockV hb h4
    have eg : ∀ args w, (callFunc 40 args).run Try.prog w = .ok (.enter 40 args) w := enters_of Try.func40 (by kernel_rfl) rfl
    have hcon := AnyQ.slices_SortFunc Try.sortf39 3 Try.isAgg34 Try.sizeOf34 cellC cellC_len cellC_one cmp3 swo3 40 #[] g 0 cap L.toArray w eg (fun _ _ _ _ x y => cmpC_any x y _) hH (Array.getElem?_eq_some_iff.1 hb).1 (by simp; omega)
    refine Calls.mono hcon ?_
    rintro e w2 ⟨rfl, d', q, os, hperm, hsort, rfl⟩
    have hpl : d'.toList.Perm L := by
      have h9 := hperm.2.2
      have e1 : (d'.extract 0 L.toArray.size).toList = d'.toList := by rw [← hperm.1]; simp
      have e2 : (L.toArray.extract 0 L.toArray.size).toList = L := by simp
      rw [e1, e2] at h9
      exact h9
    have hsz : d'.size = L.length := by rw [hperm.1]; simp
    have hpw : d'.toList.Pairwise leC := by
      rw [List.pairwise_iff_getElem]
      intro i j hi hj hij
      have h9 := hsort i j (Nat.zero_le _) hij (by simp at hj; simp; omega)
      rw [lt3_no] at h9
      simp only [Array.length_toList] at hi hj
      rw [getElem!_pos d' i hi, getElem!_pos d' j hj] at h9
      simp only [Array.getElem_toList]
      exact h9
    obtain ⟨M, rfl⟩ : ∃ M : List Cm, d' = M.toArray := ⟨d'.toList, by simp⟩
    have hMl : M.length = L.length := by simpa using hsz
    have hw : sortWorldK cellC 3 w g 0 q M.toArray os = grow (putRow (id : Value → Value) (Sort.ahead w q) g 0 (cv M).toArray) os := by unfold sortWorldK putRowK; rw [flatK_cv]
    rw [hw]
    have hcs : (cv M).length ≤ cur.size := by rw [cv_length, h3, hMl]; exact Nat.mul_le_mul_right _ h1
    refine ⟨rfl, M, by simpa using hpl, by simpa using hpw, ⟨by rw [cv_length, hMl], .inr ⟨g, cap, _, rfl, hbase, heap_sortedV _ hb, h1, h2, by simpa [putCells] using h3, ?_⟩⟩, Chg.of_grown (grownBy_sortedV _) |>.mono (fun b e => e)⟩
    have h9 := take_putCellsV (cur := cur) (cv M) hcs
    rw [cv_length, hMl] at h9
    exact h9

open Go.RowKit Go.Sort Go.Shelf

theorem neq_cm (a : ByteArray) (b c : Int) (a2 : ByteArray) (b2 c2 : Int) (h : (a, b, c) ≠ (a2, b2, c2)) (w : World) : (binOp .neq 34 (.agg #[.string a, .int .i64 b, .int .i64 c]) (.agg #[.string a2, .int .i64 b2, .int .i64 c2])).run Try.prog w = .ok (.bool true) w := by
  go_simp
  intro e1 e2
  by_cases ha : a = a2
  · subst ha
    intro e3
    exact h (by simp_all)
  · have := str_ne ha
    simp_all
theorem neq_cmE (a : ByteArray) (b c : Int) (w : World) : (binOp .neq 34 (.agg #[.string a, .int .i64 b, .int .i64 c]) (.agg #[.string a, .int .i64 b, .int .i64 c])).run Try.prog w = .ok (.bool false) w := by
  go_simp
theorem takeC {l m : List Cm} {k : Nat} {x y : Cm} (hl : l[k]? = some x) (hm : m[k]? = some y) (h : l.take k = m.take k) : l.take (k + 1) = m.take (k + 1) ↔ x = y := by
  rw [List.take_add_one, List.take_add_one, h, hl, hm]
  simp
theorem differC {l m : List Cm} {k : Nat} {x y : Cm} (hl : l[k]? = some x) (hm : m[k]? = some y) (h : x ≠ y) : l ≠ m := by
  rintro rfl
  rw [hl] at hm
  exact h (Option.some.inj hm)
set_option maxRecDepth 100000 in
set_option maxHeartbeats 2000000 in
theorem equalC_any (w : World) (A : Option Addr) (n c : Nat) (B : Option Addr) (m d : Nat) (L1 L2 : List Cm) (h1 : Rds w 3 A n (cv L1)) (h2 : Rds w 3 B m (cv L2)) (hn : n ≤ 1000000) :
    Calls Try.prog 25 #[.slice A n c, .slice B m d] w fun e w2 => e = .returned (.bool (decide (L1 = L2))) ∧ Chg Non w w2 := by
  have hl1 := flat_eq cellC_len (by decide) h1
  have hl2 := flat_eq cellC_len (by decide) h2
  have Hl1 := Lib.hid hl1
  have Hl2 := Lib.hid hl2
  have H1 := Lib.hid h1
  have H2 := Lib.hid h2
  clear h1 h2 hl1 hl2
  by_cases hnm : n = m
  · subst hnm
    go_enter Try.func25, Try.ntmps25
    go_wp2_with fail
    go_loopw [13] (fun i wr => ∃ k : Nat, k ≤ n ∧ i = .int .i64 k ∧ Hid (L1.take k = L2.take k) ∧ Chg Non w wr) (fun i _ => n - (intOf i).toNat)
    case atStart => exact ⟨0, Nat.zero_le _, rfl, rfl, Chg.refl _ _⟩
    case round =>
      obtain ⟨k, hk, rfl, hs, hC⟩ := hrel
      by_cases hlt : k < n
      · obtain ⟨ad, ⟨a, b, e⟩, rfl, hx, hc0, hc⟩ := H1.out.getN cellC_len (by decide) hlt
        obtain ⟨ad2, ⟨a2, b2, e2⟩, rfl, hy, hd0, hd⟩ := H2.out.getN cellC_len (by decide) hlt
        have x0 : wr.cell? (ad.add (k * 3)) = some (.string a) := hC.cell (hc0 _ rfl) _root_.id
        have x1 : wr.cell? ⟨(ad.add (k * 3)).block, (ad.add (k * 3)).off + 1, none⟩ = some (.int .i64 b) := hC.cell (hc 0 _ rfl) _root_.id
        have x2 : wr.cell? ⟨(ad.add (k * 3)).block, (ad.add (k * 3)).off + 2, none⟩ = some (.int .i64 e) := hC.cell (hc 1 _ rfl) _root_.id
        have y0 : wr.cell? (ad2.add (k * 3)) = some (.string a2) := hC.cell (hd0 _ rfl) _root_.id
        have y1 : wr.cell? ⟨(ad2.add (k * 3)).block, (ad2.add (k * 3)).off + 1, none⟩ = some (.int .i64 b2) := hC.cell (hd 0 _ rfl) _root_.id
        have y2 : wr.cell? ⟨(ad2.add (k * 3)).block, (ad2.add (k * 3)).off + 2, none⟩ = some (.int .i64 e2) := hC.cell (hd 1 _ rfl) _root_.id
        have i1 : (0 : Int) ≤ (k : Int) := by omega
        have i2 : (k : Int) < n := by omega
        have hsame := takeC hx hy hs.out
        by_cases hxy : (a, b, e) = (a2, b2, e2)
        · have hs2 : Hid (L1.take (k + 1) = L2.take (k + 1)) := hsame.2 hxy
          injection hxy with j1 j2
          injection j2 with j2 j3
          subst j1 j2 j3
          have hne := neq_cmE a b e
          clear hx hy hsame hc0 hc hd0 hd
          go_wp2_with fail
          go_quiet (fail)
          go_wp2_with fail
          go_roundw
          case rel => exact ⟨k + 1, by omega, by go_num, hs2, hC.drewN _⟩
          case measure => simp [intOf]; omega
        · have hno : Hid (decide (L1 = L2) = false) := decide_eq_false (differC hx hy hxy)
          have hne := neq_cm a b e a2 b2 e2 hxy
          clear hx hy hsame hxy hc0 hc hd0 hd
          go_wp2_with fail
          go_quiet (fail)
          go_wp2_with fail
          go_ret
          exact ⟨by rw [hno.out]; rfl, hC.drewN _⟩
      · obtain rfl : k = n := by omega
        have hyes : Hid (decide (L1 = L2) = true) := decide_eq_true (by
          have h9 := hs.out
          rwa [List.take_of_length_le (by have := Hl1.out; omega), List.take_of_length_le (by have := Hl2.out; omega)] at h9)
        go_wp2_with fail
        go_ret
        exact ⟨by rw [hyes.out]; rfl, hC⟩
  · have hno : Hid (decide (L1 = L2) = false) := decide_eq_false (fun e => hnm (by rw [Hl1.out, Hl2.out, e]))
    have hne : ((n : Int) != (m : Int)) = true := by rw [bne_iff_ne]; omega
    clear hnm
    go_enter Try.func25, Try.ntmps25
    go_wp2_with fail
    go_ret
    exact ⟨by rw [hno.out]; rfl, Chg.refl _ _⟩

/-- Two rising orders are one just when the rows are one but for their order. -/
theorem sorted_perm {L1 L2 M1 M2 : List Cm} (h1 : M1.Perm L1) (s1 : M1.Pairwise leC) (h2 : M2.Perm L2) (s2 : M2.Pairwise leC) : M1 = M2 ↔ L1.Perm L2 := by
  constructor
  · rintro rfl
    exact h1.symm.trans h2
  · intro h
    refine List.Perm.eq_of_pairwise (le := leC) (fun a b _ _ k1 k2 => ?_) s1 s2 ((h1.trans h).trans h2.symm)
    rcases ltC_tri a b with k | k | k
    · exact absurd k k2
    · exact k
    · exact absurd k k1
local instance (priority := high) beqCm : BEq Cm := instBEqOfDecidableEq
/-- How often a commit stands in a row. -/
def cntC (L : List Cm) (x : Cm) : Nat := L.countP fun y => decide (y = x)
theorem cntC_is (L : List Cm) (x : Cm) : cntC L x = L.count x := rfl
/-- Counting alike. -/
theorem perm_of_counts : ∀ (L1 L2 : List Cm), L1.length = L2.length → (∀ x ∈ L1, cntC L1 x = cntC L2 x) → L1.Perm L2
  | [], L2, hl, _ => by
    have : L2 = [] := List.eq_nil_of_length_eq_zero hl.symm
    rw [this]
  | x :: L1, L2, hl, h => by
    have hx := h x (List.mem_cons_self ..)
    rw [cntC_is, cntC_is, List.count_cons_self] at hx
    have hm : x ∈ L2 := List.count_pos_iff.1 (by omega)
    have hp := List.perm_cons_erase hm
    have ih := perm_of_counts L1 (L2.erase x) (by have := List.length_erase_of_mem hm; simp at hl; omega) (fun y hy => by
      have h9 := h y (List.mem_cons_of_mem _ hy)
      rw [cntC_is, cntC_is, hp.count_eq, List.count_cons, List.count_cons] at h9
      rw [cntC_is, cntC_is]
      omega)
    exact (List.Perm.cons x ih).trans hp.symm
theorem cntC_perm {L1 L2 : List Cm} (h : L1.Perm L2) (x : Cm) : cntC L1 x = cntC L2 x := h.countP_eq _
theorem cntC_step {L : List Cm} {k : Nat} {x y : Cm} (h : L[k]? = some y) : cntC (L.take (k + 1)) x = cntC (L.take k) x + (if y = x then 1 else 0) := by
  unfold cntC
  rw [List.take_add_one, h, Option.toList_some, List.countP_append]
  by_cases e : y = x <;> simp [e]
theorem cntC_le (L : List Cm) (x : Cm) : cntC L x ≤ L.length := List.countP_le_length
end Go.Proofs.Yteinbdifncdaiaa
