/-
  trace.sorted: how commits are told apart in order.
-/
import Derived.Test.YteinbdifncdaiaaKeys
import Derived.Test.YteinbdifncdaiaaCms
import Derived.Test.YteinbdifncdaiaaRiseS
import Derived.Test.YteinbdifncdaiaaGet
import Derived.Test.YteinbdifncdaiaaSteps
import Derived.Test.YteinbdifncdaiaaIdsC
import Derived.Sort.Walk0
namespace Go.Proofs.Yteinbdifncdaiaa
open Go.RowKit Go.Sort Go.Shelf
set_option linter.unusedVariables false
set_option linter.unusedSimpArgs false

theorem lessS (a b : ByteArray) : Op.bytesLess a.toList b.toList = decide (ltS a b) := by
  rw [Go.Proofs.bytesLess_eq, ByteArray.toList_eq, ByteArray.toList_eq]
  rfl
def cmpS (x y : ByteArray) : Int := if ltS x y then -1 else if ltS y x then 1 else 0
def cmp3 (x y : Cm) : Int := if cmpS x.1 y.1 ≠ 0 then cmpS x.1 y.1 else if Lib.compareInt x.2.1 y.2.1 ≠ 0 then Lib.compareInt x.2.1 y.2.1 else Lib.compareInt x.2.2 y.2.2
def ltC (x y : Cm) : Prop := ltS x.1 y.1 ∨ (x.1 = y.1 ∧ (x.2.1 < y.2.1 ∨ (x.2.1 = y.2.1 ∧ x.2.2 < y.2.2)))
theorem ltC_irrefl (x : Cm) : ¬ ltC x x := by
  rintro (h | ⟨_, h | ⟨_, h⟩⟩)
  · exact ltS_irrefl _ h
  · omega
  · omega
theorem ltC_trans {x y z : Cm} (h : ltC x y) (g : ltC y z) : ltC x z := by
  rcases h with h | ⟨e, h⟩
  · rcases g with g | ⟨e2, g⟩
    · exact .inl (ltS_trans h g)
    · exact .inl (e2 ▸ h)
  · rcases g with g | ⟨e2, g⟩
    · exact .inl (e ▸ g)
    · exact .inr ⟨e.trans e2, by omega⟩
theorem ltC_tri (x y : Cm) : ltC x y ∨ x = y ∨ ltC y x := by
  obtain ⟨a, b, c⟩ := x
  obtain ⟨a2, b2, c2⟩ := y
  rcases ltS_tri a a2 with h | h | h
  · exact .inl (.inl h)
  · subst h
    have h3 : b < b2 ∨ (b = b2 ∧ c < c2) ∨ (b = b2 ∧ c = c2) ∨ (b2 < b ∨ (b2 = b ∧ c2 < c)) := by omega
    rcases h3 with h3 | h3 | ⟨h3, h4⟩ | h3
    · exact .inl (.inr ⟨rfl, .inl h3⟩)
    · exact .inl (.inr ⟨rfl, .inr h3⟩)
    · subst h3 h4; exact .inr (.inl rfl)
    · exact .inr (.inr (.inr ⟨rfl, h3⟩))
  · exact .inr (.inr (.inl h))
theorem lt3 (x y : Cm) : ltOf cmp3 x y = true ↔ ltC x y := by
  obtain ⟨a, b, c⟩ := x
  obtain ⟨a2, b2, c2⟩ := y
  unfold ltOf cmp3 cmpS ltC Lib.compareInt
  rcases ltS_tri a a2 with h | h | h
  · simp [h]
  · subst h
    simp only [ltS_irrefl, if_false, ne_eq, not_true_eq_false, decide_eq_true_eq, true_and, false_or]
    by_cases h1 : b < b2
    · simp [h1]
    · by_cases h2 : b2 < b
      · simp [h1, h2]; omega
      · have e : b = b2 := by omega
        subst e
        by_cases h3 : c < c2
        · simp [h3]
        · by_cases h4 : c2 < c <;> simp [h3, h4]
  · have h1 := ltS_asym h
    have h2 : ¬ a = a2 := fun e => ltS_ne h e.symm
    simp [h, h1, h2]
theorem lt3_no (x y : Cm) : ltOf cmp3 x y = false ↔ ¬ ltC x y := by
  rw [← lt3]
  simp
theorem swo3 : SWO (ltOf cmp3) where
  irrefl x := (lt3_no _ _).2 (ltC_irrefl x)
  trans x y z h1 h2 := (lt3 _ _).2 (ltC_trans ((lt3 _ _).1 h1) ((lt3 _ _).1 h2))
  ntrans x y z h1 h2 := by
    rw [lt3_no] at *
    intro h
    rcases ltC_tri x y with h3 | h3 | h3
    · exact h1 h3
    · subst h3; exact h2 h
    · exact h2 (ltC_trans h3 h)

theorem isNaN_int (x : Int) (w : World) : Calls Try.prog 57 #[.int .i64 x] w fun e w2 => e = .returned (.bool false) ∧ w = w2 := by
  have h : (x != x) = false := bne_self_eq_false _
  go_enter Try.func57, Try.ntmps57
  go_wp2_with fail
  go_ret
  exact ⟨rfl, rfl⟩
theorem isNaN_err (x : Int) (w : World) : Calls Try.prog 56 #[.int .i64 x] w fun e w2 => e = .returned (.bool false) ∧ w = w2 := by
  have h : (x != x) = false := bne_self_eq_false _
  go_enter Try.func56, Try.ntmps56
  go_wp2_with fail
  go_ret
  exact ⟨rfl, rfl⟩
theorem isNaN_id (x : ByteArray) (w : World) : Calls Try.prog 55 #[.string x] w fun e w2 => e = .returned (.bool false) ∧ w = w2 := by
  have h : (x.toList != x.toList) = false := bne_self_eq_false _
  go_enter Try.func55, Try.ntmps55
  go_wp2_with fail
  go_ret
  exact ⟨rfl, rfl⟩
theorem cmpInt_cases (x y : Int) : (x < y ∧ Lib.compareInt x y = -1) ∨ (¬ x < y ∧ y < x ∧ Lib.compareInt x y = 1) ∨ (¬ x < y ∧ ¬ y < x ∧ Lib.compareInt x y = 0) := by
  unfold Lib.compareInt
  by_cases h1 : x < y
  · exact .inl ⟨h1, by simp [h1]⟩
  · by_cases h2 : y < x
    · exact .inr (.inl ⟨h1, h2, by simp [h1, h2]⟩)
    · exact .inr (.inr ⟨h1, h2, by simp [h1, h2]⟩)
theorem compare_int (x y : Int) (w : World) : Calls Try.prog 44 #[.int .i64 x, .int .i64 y] w fun e w2 => e = .returned (.int .i64 (Lib.compareInt x y)) ∧ w = w2 := by
  rcases cmpInt_cases x y with ⟨h1, h2⟩ | ⟨h1, h3, h2⟩ | ⟨h1, h3, h2⟩
  all_goals
    rw [h2]
    clear h2
    go_enter Try.func44, Try.ntmps44
    go_wp2_with fail
    refine (isNaN_int _ _).mono ?_
    rintro e w2 ⟨rfl, rfl⟩
    go_wp2_with fail
    refine (isNaN_int _ _).mono ?_
    rintro e w2 ⟨rfl, rfl⟩
    go_wp2_with fail
    go_ret
    exact ⟨rfl, rfl⟩
theorem compare_err (x y : Int) (w : World) : Calls Try.prog 43 #[.int .i64 x, .int .i64 y] w fun e w2 => e = .returned (.int .i64 (Lib.compareInt x y)) ∧ w = w2 := by
  rcases cmpInt_cases x y with ⟨h1, h2⟩ | ⟨h1, h3, h2⟩ | ⟨h1, h3, h2⟩
  all_goals
    rw [h2]
    clear h2
    go_enter Try.func43, Try.ntmps43
    go_wp2_with fail
    refine (isNaN_err _ _).mono ?_
    rintro e w2 ⟨rfl, rfl⟩
    go_wp2_with fail
    refine (isNaN_err _ _).mono ?_
    rintro e w2 ⟨rfl, rfl⟩
    go_wp2_with fail
    go_ret
    exact ⟨rfl, rfl⟩
theorem compare_id (x y : ByteArray) (w : World) : Calls Try.prog 42 #[.string x, .string y] w fun e w2 => e = .returned (.int .i64 (cmpS x y)) ∧ w = w2 := by
  have hcase : (Op.bytesLess x.toList y.toList = true ∧ cmpS x y = -1) ∨ (Op.bytesLess x.toList y.toList = false ∧ (Op.bytesLess y.toList x.toList = true ∧ (x.toList == y.toList) = false) ∧ cmpS x y = 1) ∨ (Op.bytesLess x.toList y.toList = false ∧ (Op.bytesLess y.toList x.toList = false ∧ (x.toList == y.toList) = true) ∧ cmpS x y = 0) := by
    unfold cmpS
    rw [lessS, lessS]
    by_cases h1 : ltS x y
    · exact .inl ⟨decide_eq_true h1, by simp [h1]⟩
    · by_cases h2 : ltS y x
      · exact .inr (.inl ⟨decide_eq_false h1, ⟨decide_eq_true h2, str_ne (fun e => ltS_ne h2 e.symm)⟩, by simp [h1, h2]⟩)
      · have e : x = y := (ltS_tri x y).elim (fun h => absurd h h1) (fun h => h.elim id (fun h => absurd h h2))
        exact .inr (.inr ⟨decide_eq_false h1, ⟨decide_eq_false h2, by rw [e]; exact beq_self_eq_true _⟩, by simp [h1, h2]⟩)
  rcases hcase with ⟨h1, h2⟩ | ⟨h1, ⟨h3, h4⟩, h2⟩ | ⟨h1, ⟨h3, h4⟩, h2⟩
  all_goals
    rw [h2]
    clear h2
    go_enter Try.func42, Try.ntmps42
    go_wp2_with fail
    refine (isNaN_id _ _).mono ?_
    rintro e w2 ⟨rfl, rfl⟩
    go_wp2_with fail
    refine (isNaN_id _ _).mono ?_
    rintro e w2 ⟨rfl, rfl⟩
    go_wp2_with fail
    go_ret
    exact ⟨rfl, rfl⟩
def orI : List Int → Int
  | [] => 0
  | x :: l => if x ≠ 0 then x else orI l
set_option maxRecDepth 100000 in
theorem or_any (w : World) (A : Option Addr) (n c : Nat) (l : List Int) (hr : Rds w 1 A n (iv l)) (hn : n ≤ 1000000) :
    Calls Try.prog 41 #[.slice A n c] w fun e w2 => e = .returned (.int .i64 (orI l)) ∧ w = w2 := by
  have Hl := Lib.hid hr.lenMap
  go_enter Try.func41, Try.ntmps41
  go_wp2_with fail
  go_loop [8] (fun i => ∃ k : Nat, k ≤ n ∧ i = .int .i64 k ∧ Hid (orI l = orI (l.drop k))) (fun i => n - (intOf i).toNat)
  case atStart => exact ⟨0, Nat.zero_le _, rfl, rfl⟩
  case round =>
    obtain ⟨k, hk, rfl, ho⟩ := hrel
    by_cases hlt : k < n
    · obtain ⟨ad, x, rfl, hx, hc⟩ := hr.getI hlt
      have hd : l.drop k = x :: l.drop (k + 1) := by
        have h9 := List.getElem?_eq_some_iff.1 hx
        rw [List.drop_eq_getElem_cons h9.1, h9.2]
      by_cases h0 : x = 0
      · subst h0
        have ho2 : Hid (orI l = orI (l.drop (k + 1))) := by show _ = _; rw [ho.out, hd]; simp [orI]
        clear hd hx ho
        go_wp2_with fail
        go_round
        case rel => exact ⟨k + 1, by omega, by go_num, ho2⟩
        case measure => simp [intOf]; omega
      · have ho2 : Hid (orI l = x) := by show _ = _; rw [ho.out, hd]; simp [orI, h0]
        have hb : (x != 0) = true := by rw [bne_iff_ne]; exact h0
        clear hd hx ho h0
        go_wp2_with fail
        go_ret
        exact ⟨by rw [ho2.out]; rfl, rfl⟩
    · have ho2 : Hid (orI l = 0) := by show _ = _; rw [ho.out, List.drop_of_length_le (by have := Hl.out; omega)]; rfl
      clear ho
      go_wp2_with fail
      go_ret
      exact ⟨by rw [ho2.out]; rfl, rfl⟩
theorem grow_of {w w2 : World} (h : Chg Non w w2) (hd : w.drawn ≤ w2.drawn) : ∃ q os, w2 = grow (w.drewN q) os := by
  refine ⟨w2.drawn - w.drawn, w2.heap.extract w.heap.size w2.heap.size, ?_⟩
  have e1 : w2.heap = w.heap ++ w2.heap.extract w.heap.size w2.heap.size := by
    refine Array.ext_getElem? fun i => ?_
    rw [Array.getElem?_append]
    by_cases hi : i < w.heap.size
    · rw [if_pos hi]; exact h.block i hi id
    · rw [if_neg hi, Array.getElem?_extract]
      by_cases h2 : i < w2.heap.size
      · rw [if_pos (by omega)]; congr 1; omega
      · rw [if_neg (by omega), Array.getElem?_eq_none (by omega)]
  have h1 := h.os
  have h2 := h.tape
  have h3 := h.output
  obtain ⟨hp, tp, dr, os, out⟩ := w2
  obtain ⟨hp', tp', dr', os', out'⟩ := w
  simp only at h1 h2 h3 hd e1
  subst h1 h2 h3
  simp only [grow, World.drewN]
  congr 1
  omega
end Go.Proofs.Yteinbdifncdaiaa
