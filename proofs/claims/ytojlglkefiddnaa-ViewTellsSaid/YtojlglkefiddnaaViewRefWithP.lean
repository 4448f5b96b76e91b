/-
  gleanerref14.With.
-/
import Derived.Test.YtojlglkefiddnaaViewRefMay
import Derived.Test.YtojlglkefiddnaaViewRefFirst
import Derived.Test.YtojlglkefiddnaaViewIns
namespace Go.Proofs.Ytojlglkefiddnaa
open Go.RowKit
set_option linter.unusedVariables false
set_option linter.unusedSimpArgs false

def withV (ep : Int) (L : List Mb) (x life : Int) : Int × List Mb := if withE ep L x life = 0 then (ep + 1, insM (x, life) L) else (0, [])
theorem ins_out (x : Mb) : ∀ {L : List Mb}, (L.any fun m => decide (x.1 < m.1)) = false → (∀ m ∈ L, m.1 ≠ x.1) → insM x L = L ++ [x]
  | [], _, _ => rfl
  | m :: L, h, hx => by
    rw [List.any_cons, Bool.or_eq_false_iff] at h
    have h1 := of_decide_eq_false h.1
    have h2 := hx m (by simp)
    unfold insM
    rw [if_pos (by omega), ins_out x h.2 fun y hy => hx y (by simp [hy])]
    rfl
theorem ins_app (x : Mb) : ∀ {L : List Mb} (R : List Mb), (L.any fun m => decide (x.1 < m.1)) = true → insM x (L ++ R) = insM x L ++ R
  | [], _, h => by simp at h
  | m :: L, R, h => by
    rw [List.cons_append]
    unfold insM
    by_cases hm : m.1 < x.1
    · rw [if_pos hm, if_pos hm]
      rw [List.any_cons, decide_eq_false (by omega), Bool.false_or] at h
      rw [ins_app x R h]
      rfl
    · rw [if_neg hm, if_neg hm]
      rfl
/-- What With has laid behind k members. -/
def midM (x : Mb) (L : List Mb) : List Mb := if (L.any fun m => decide (x.1 < m.1)) = true then insM x L else L
theorem mid_any {x : Mb} {L : List Mb} (m : Mb) (h : (L.any fun m => decide (x.1 < m.1)) = true) : midM x (L ++ [m]) = midM x L ++ [m] := by
  unfold midM
  rw [if_pos h, if_pos (by rw [List.any_append, h]; rfl), ins_app x [m] h]
theorem mid_put {x : Mb} {L : List Mb} {m : Mb} (h : (L.any fun m => decide (x.1 < m.1)) = false) (hm : x.1 < m.1) (hx : ∀ m ∈ L, m.1 ≠ x.1) : midM x (L ++ [m]) = midM x L ++ [x] ++ [m] := by
  unfold midM
  rw [if_pos (by rw [List.any_append, h, List.any_cons, decide_eq_true hm]; rfl), if_neg (by rw [h]; exact Bool.false_ne_true)]
  have : ∀ (L : List Mb), (L.any fun m => decide (x.1 < m.1)) = false → (∀ m ∈ L, m.1 ≠ x.1) → insM x (L ++ [m]) = L ++ [x] ++ [m] := by
    intro L
    induction L with
    | nil => intro _ _; show insM x [m] = _; unfold insM; rw [if_neg (by omega)]; rfl
    | cons y L ih =>
      intro h hx
      rw [List.any_cons, Bool.or_eq_false_iff] at h
      have h1 := of_decide_eq_false h.1
      have h2 := hx y (by simp)
      rw [List.cons_append]
      unfold insM
      rw [if_pos (by omega), ih h.2 fun z hz => hx z (by simp [hz])]
      rfl
  exact this L h hx
theorem mid_out {x : Mb} {L : List Mb} {m : Mb} (h : (L.any fun m => decide (x.1 < m.1)) = false) (hm : ¬ x.1 < m.1) : midM x (L ++ [m]) = midM x L ++ [m] := by
  unfold midM
  rw [if_neg (by rw [List.any_append, h, List.any_cons, decide_eq_false hm]; simp), if_neg (by rw [h]; exact Bool.false_ne_true)]
theorem hasN_ne {L : List Mb} {x : Int} (h : hasN L x = false) : ∀ m ∈ L, m.1 ≠ x := by
  intro m hm e
  unfold hasN at h
  rw [List.any_eq_false] at h
  exact h m hm (by simpa using e)
/-- With's answers, told by its tests in their order. -/
theorem withE_ways (ep : Int) (L : List Mb) (x life : Int) : (withE ep L x life = 1 ∧ (mayB ep L = false ∨ (mayB ep L = true ∧ hasN L x = true) ∨ (mayB ep L = true ∧ hasN L x = false ∧ x < 0) ∨ (mayB ep L = true ∧ hasN L x = false ∧ 0 ≤ x ∧ 15 < x) ∨ (mayB ep L = true ∧ hasN L x = false ∧ 0 ≤ x ∧ x ≤ 15 ∧ life < 1) ∨ (mayB ep L = true ∧ hasN L x = false ∧ 0 ≤ x ∧ x ≤ 15 ∧ 1 ≤ life ∧ 2147483647 < life))) ∨
    (mayB ep L = true ∧ hasN L x = false ∧ 0 ≤ x ∧ x ≤ 15 ∧ 1 ≤ life ∧ life ≤ 2147483647 ∧ ((ep = 2147483647 ∧ withE ep L x life = 16) ∨ (ep ≠ 2147483647 ∧ withE ep L x life = 0))) := by
  unfold withE nodeB countB
  cases mayB ep L with
  | false => exact .inl ⟨by simp, .inl rfl⟩
  | true =>
    cases hasN L x with
    | true => exact .inl ⟨by simp, .inr (.inl ⟨rfl, rfl⟩)⟩
    | false =>
      by_cases h1 : 0 ≤ x
      · by_cases h2 : x ≤ 15
        · by_cases h3 : 1 ≤ life
          · by_cases h4 : life ≤ 2147483647
            · refine .inr ⟨rfl, rfl, h1, h2, h3, h4, ?_⟩
              by_cases h5 : ep = 2147483647
              · exact .inl ⟨h5, by rw [decide_eq_true h1, decide_eq_true h3, decide_eq_true h4, decide_eq_true (show x < 16 by omega)]; simp [h5]⟩
              · exact .inr ⟨h5, by rw [decide_eq_true h1, decide_eq_true h3, decide_eq_true h4, decide_eq_true (show x < 16 by omega)]; simp [h5]⟩
            · exact .inl ⟨by rw [decide_eq_false h4]; simp, .inr (.inr (.inr (.inr (.inr ⟨rfl, rfl, h1, h2, h3, by omega⟩))))⟩
          · exact .inl ⟨by rw [decide_eq_false h3]; simp, .inr (.inr (.inr (.inr (.inl ⟨rfl, rfl, h1, h2, by omega⟩))))⟩
        · exact .inl ⟨by rw [decide_eq_false (show ¬ x < 16 by omega)]; simp, .inr (.inr (.inr (.inl ⟨rfl, rfl, h1, by omega⟩)))⟩
      · exact .inl ⟨by rw [decide_eq_false h1]; simp, .inr (.inr (.inl ⟨rfl, rfl, by omega⟩))⟩

end Go.Proofs.Ytojlglkefiddnaa
