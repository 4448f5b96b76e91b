/-
  A member put where its node stands; what With answers: plain words.
-/
import Derived.Test.YtojlglkefiddnaaView
namespace Go.Proofs.Ytojlglkefiddnaa
open Go.RowKit
set_option linter.unusedVariables false

/-- A member put where its node stands. -/
def insM (x : Mb) : List Mb → List Mb
  | [] => [x]
  | m :: L => if m.1 < x.1 then m :: insM x L else x :: m :: L
theorem insM_perm (x : Mb) : ∀ L, (insM x L).Perm (L ++ [x])
  | [] => List.Perm.refl _
  | m :: L => by
    unfold insM
    split
    · exact (insM_perm x L).cons m
    · exact (List.perm_append_singleton x (m :: L)).symm
theorem insM_mem {x y : Mb} {L : List Mb} (h : y ∈ insM x L) : y = x ∨ y ∈ L := by
  have := (insM_perm x L).mem_iff.1 h
  simp at this
  exact this.symm
theorem insM_len (x : Mb) (L : List Mb) : (insM x L).length = L.length + 1 := by rw [(insM_perm x L).length_eq]; simp
theorem insM_pw {x : Mb} : ∀ {L : List Mb}, (L.Pairwise fun a b => a.1 < b.1) → (∀ m ∈ L, m.1 ≠ x.1) → (insM x L).Pairwise fun a b => a.1 < b.1
  | [], _, _ => by simp [insM]
  | m :: L, h, hx => by
    obtain ⟨h1, h2⟩ := List.pairwise_cons.1 h
    unfold insM
    split
    · rename_i hm
      refine List.pairwise_cons.2 ⟨fun y hy => ?_, insM_pw h2 fun y hy => hx y (by simp [hy])⟩
      rcases insM_mem hy with rfl | hy
      · exact hm
      · exact h1 y hy
    · rename_i hm
      have hne := hx m (by simp)
      refine List.pairwise_cons.2 ⟨fun y hy => ?_, h⟩
      rcases List.mem_cons.1 hy with rfl | hy
      · omega
      · have := h1 y hy; omega
theorem okFrom_pw : ∀ {L : List Mb} {last : Int}, okFrom last L = true → (∀ m ∈ L, last < m.1 ∧ nodeB m.1 = true ∧ countB m.2 = true) ∧ L.Pairwise fun a b => a.1 < b.1
  | [], _, _ => by simp
  | m :: L, last, h => by
    unfold okFrom at h
    simp only [Bool.and_eq_true, decide_eq_true_eq] at h
    obtain ⟨⟨⟨h1, h2⟩, h3⟩, h4⟩ := h
    obtain ⟨h5, h6⟩ := okFrom_pw h4
    refine ⟨fun y hy => ?_, List.pairwise_cons.2 ⟨fun y hy => (h5 y hy).1, h6⟩⟩
    rcases List.mem_cons.1 hy with rfl | hy
    · exact ⟨h1, h2, h3⟩
    · have := h5 y hy; exact ⟨by omega, this.2⟩
theorem mayB_pw {ep : Int} {L : List Mb} (h : mayB ep L = true) : L.Pairwise fun a b => a.1 < b.1 := by
  unfold mayB at h
  simp only [Bool.and_eq_true] at h
  exact (okFrom_pw h.1.1).2
/-- What With answers. -/
def withE (ep : Int) (L : List Mb) (x life : Int) : Int := if !mayB ep L || hasN L x || !nodeB x || !countB life then 1 else if ep = 2147483647 then 16 else 0
theorem withE_cases (ep : Int) (L : List Mb) (x life : Int) : (mayB ep L = false ∧ withE ep L x life = 1) ∨ (mayB ep L = true ∧ hasN L x = true ∧ withE ep L x life = 1) ∨ (mayB ep L = true ∧ hasN L x = false ∧ nodeB x = false ∧ withE ep L x life = 1) ∨ (mayB ep L = true ∧ hasN L x = false ∧ nodeB x = true ∧ countB life = false ∧ withE ep L x life = 1) ∨
    (mayB ep L = true ∧ hasN L x = false ∧ nodeB x = true ∧ countB life = true ∧ ep = 2147483647 ∧ withE ep L x life = 16) ∨ (mayB ep L = true ∧ hasN L x = false ∧ nodeB x = true ∧ countB life = true ∧ ep ≠ 2147483647 ∧ withE ep L x life = 0) := by
  unfold withE
  cases mayB ep L <;> cases hasN L x <;> cases nodeB x <;> cases countB life <;> by_cases h : ep = 2147483647 <;> simp [h]
end Go.Proofs.Ytojlglkefiddnaa
