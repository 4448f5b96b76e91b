/-
  A node that is put out and in again: the plain law.
-/
import Derived.Test.YtojlglkefiddnaaViewWith
namespace Go.Proofs.Ytojlglkefiddnaa
open Go.RowKit
set_option linter.unusedVariables false

theorem okFrom_of : ∀ {L : List Mb} {last : Int}, (L.Pairwise fun a b => a.1 < b.1) → (∀ m ∈ L, last < m.1 ∧ nodeB m.1 = true ∧ countB m.2 = true) → okFrom last L = true
  | [], _, _, _ => rfl
  | m :: L, last, h, h2 => by
    obtain ⟨h3, h4⟩ := List.pairwise_cons.1 h
    obtain ⟨a, b, c⟩ := h2 m (by simp)
    unfold okFrom
    rw [decide_eq_true a, b, c, okFrom_of h4 fun y hy => ⟨h3 y hy, (h2 y (by simp [hy])).2⟩]
    rfl
theorem mayB_of {ep l0 : Int} {L : List Mb} (h : L.Pairwise fun a b => a.1 < b.1) (h2 : ∀ m ∈ L, nodeB m.1 = true ∧ countB m.2 = true) (h0 : L[0]? = some (0, l0)) (hc : countB ep = true) : mayB ep L = true := by
  unfold mayB
  rw [okFrom_of h fun m hm => ⟨?_, h2 m hm⟩, hc]
  · cases L with
    | nil => cases h0
    | cons m L =>
      simp at h0
      rw [h0]
      rfl
  · have := (h2 m hm).1
    unfold nodeB at this
    simp at this
    omega
theorem pw_nodup {L : List Mb} (h : L.Pairwise fun a b => a.1 < b.1) : L.Nodup := h.imp fun h e => by rw [e] at h; omega

section
variable (n xN : Nat) (life : Int)
def L2 : List Mb := kept (fun m => inI [(xN : Int), (xN : Int)] m.1) (firstM n)
def L3 : List Mb := insM ((xN : Int), life) (L2 n xN)
def R3 : List Mb := (List.range n).map fun (i : Nat) => ((i : Int), if i = xN then life else 1)
theorem mem_first {n : Nat} {m : Mb} : m ∈ firstM n ↔ ∃ i : Nat, i < n ∧ m = ((i : Int), 1) := by
  unfold firstM
  simp only [List.mem_map, List.mem_range]
  exact ⟨fun ⟨i, h1, h2⟩ => ⟨i, h1, h2.symm⟩, fun ⟨i, h1, h2⟩ => ⟨i, h1, h2.symm⟩⟩
theorem pw_first : (firstM n).Pairwise fun a b => a.1 < b.1 := by
  unfold firstM
  rw [List.pairwise_map]
  exact List.pairwise_lt_range.imp fun h => by simpa using h
theorem first_0 (h : 0 < n) : (firstM n)[0]? = some (0, 1) := by
  unfold firstM
  simp [h]
theorem mem_L2 {n xN : Nat} {m : Mb} : m ∈ L2 n xN ↔ (∃ i : Nat, i < n ∧ m = ((i : Int), 1)) ∧ m.1 ≠ (xN : Int) := by
  unfold L2 kept
  rw [List.mem_filter, mem_first]
  simp [inI]
theorem pw_L2 : (L2 n xN).Pairwise fun a b => a.1 < b.1 := (pw_first n).filter _
theorem L2_0 (h : 0 < n) (hx : 0 < xN) : (L2 n xN)[0]? = some (0, 1) := by
  have h0 := first_0 n h
  unfold L2 kept
  cases hf : firstM n with
  | nil => rw [hf] at h0; cases h0
  | cons m r =>
    rw [hf] at h0
    simp at h0
    subst h0
    have : inI [(xN : Int), (xN : Int)] 0 = false := by simp [inI]; omega
    simp [this]
theorem ne_L2 : ∀ m ∈ L2 n xN, m.1 ≠ ((xN : Int), life).1 := fun m hm => (mem_L2.1 hm).2
theorem pw_L3 : (L3 n xN life).Pairwise fun a b => a.1 < b.1 := insM_pw (pw_L2 n xN) (ne_L2 n xN life)
theorem pw_R3 : (R3 n xN life).Pairwise fun a b => a.1 < b.1 := by
  unfold R3
  rw [List.pairwise_map]
  exact List.pairwise_lt_range.imp fun h => by simpa using h
theorem mem_R3 {n xN : Nat} {life : Int} {m : Mb} : m ∈ R3 n xN life ↔ ∃ i : Nat, i < n ∧ m = ((i : Int), if i = xN then life else 1) := by
  unfold R3
  simp only [List.mem_map, List.mem_range]
  exact ⟨fun ⟨i, h1, h2⟩ => ⟨i, h1, h2.symm⟩, fun ⟨i, h1, h2⟩ => ⟨i, h1, h2.symm⟩⟩
theorem L3_R3 (hx : xN < n) : L3 n xN life = R3 n xN life := by
  refine List.Perm.eq_of_pairwise (le := fun a b : Mb => a.1 < b.1) (fun a b _ _ h1 h2 => by omega) (pw_L3 n xN life) (pw_R3 n xN life) ?_
  refine (List.perm_ext_iff_of_nodup (pw_nodup (pw_L3 n xN life)) (pw_nodup (pw_R3 n xN life))).2 fun m => ?_
  have e : m ∈ L3 n xN life ↔ m ∈ L2 n xN ∨ m = ((xN : Int), life) := by
    rw [show L3 n xN life = insM ((xN : Int), life) (L2 n xN) from rfl, (insM_perm _ _).mem_iff]
    simp
  rw [e, mem_L2, mem_R3]
  constructor
  · rintro (⟨⟨i, h1, rfl⟩, h2⟩ | rfl)
    · have : i ≠ xN := fun e => h2 (by rw [e])
      exact ⟨i, h1, by rw [if_neg this]⟩
    · exact ⟨xN, hx, by rw [if_pos rfl]⟩
  · rintro ⟨i, h1, rfl⟩
    by_cases h : i = xN
    · exact .inr (by rw [if_pos h, h])
    · rw [if_neg h]
      exact .inl ⟨⟨i, h1, rfl⟩, fun e => h (by have e : (i : Int) = (xN : Int) := e; omega)⟩
theorem L3_len (hx : xN < n) : (L3 n xN life).length = n := by rw [L3_R3 n xN life hx]; simp [R3]
theorem L2_len (hx : xN < n) : (L2 n xN).length + 1 = n := by rw [← insM_len ((xN : Int), 1) (L2 n xN)]; exact L3_len n xN 1 hx
theorem L3_at (hx : xN < n) : (L3 n xN life)[xN]? = some ((xN : Int), life) := by
  rw [L3_R3 n xN life hx]
  simp [R3, hx]
theorem node_of {i : Nat} (h : i < 16) : nodeB (i : Int) = true := by
  unfold nodeB
  rw [decide_eq_true (by omega), decide_eq_true (by omega)]
  rfl
theorem count1 : countB 1 = true := by decide
theorem may_first (h : 0 < n) (h16 : n ≤ 16) : mayB 1 (firstM n) = true :=
  mayB_of (pw_first n) (fun m hm => by obtain ⟨i, h1, rfl⟩ := mem_first.1 hm; exact ⟨node_of (by omega), count1⟩) (first_0 n h) (by decide)
theorem may_L2 (h : 0 < n) (h16 : n ≤ 16) (hx : 0 < xN) : mayB 2 (L2 n xN) = true :=
  mayB_of (pw_L2 n xN) (fun m hm => by obtain ⟨⟨i, h1, rfl⟩, _⟩ := mem_L2.1 hm; exact ⟨node_of (by omega), count1⟩) (L2_0 n xN h hx) (by decide)
theorem may_L3 (h : 0 < n) (h16 : n ≤ 16) (hx : 0 < xN) (hxn : xN < n) (hl : countB life = true) : mayB 3 (L3 n xN life) = true := by
  rw [L3_R3 n xN life hxn]
  refine mayB_of (l0 := 1) (pw_R3 n xN life) (fun m hm => ?_) ?_ (by decide)
  · obtain ⟨i, h1, rfl⟩ := mem_R3.1 hm
    refine ⟨node_of (by omega), ?_⟩
    show countB (if i = xN then life else 1) = true
    split
    · exact hl
    · exact count1
  · have : ¬ (0 = xN) := by omega
    simp [R3, h, this]
theorem has_first (hx : xN < n) : hasN (firstM n) xN = true := by
  unfold hasN
  rw [List.any_eq_true]
  exact ⟨_, mem_first.2 ⟨xN, hx, rfl⟩, by simp⟩
theorem has_L2 : hasN (L2 n xN) xN = false := by
  unfold hasN
  rw [List.any_eq_false]
  intro m hm
  have := (mem_L2.1 hm).2
  simpa using this
theorem has_L3 : hasN (L3 n xN life) xN = true := by
  unfold hasN
  rw [List.any_eq_true]
  exact ⟨((xN : Int), life), (insM_perm _ _).mem_iff.2 (by simp), by simp⟩
theorem bad_first (h16 : n ≤ 16) (hx : 0 < xN) (hxn : xN < n) : badB 1 (firstM n) [(xN : Int), (xN : Int)] = false := by
  unfold badB
  rw [may_first n (by omega) h16]
  have : ((xN : Int) == 0) = false := beq_eq_false_iff_ne.2 (by omega)
  simp [outB, has_first n xN hxn]
  omega
theorem with_L2 (h16 : n ≤ 16) (hx : 0 < xN) (hxn : xN < n) (hl : countB life = true) : withE 2 (L2 n xN) xN life = 0 := by
  unfold withE
  rw [may_L2 n xN (by omega) h16 hx, has_L2, node_of (by omega), hl]
  rfl
theorem with_L3 : withE 3 (L3 n xN life) xN life = 1 := by
  unfold withE
  rw [has_L3]
  cases mayB 3 (L3 n xN life) <;> rfl
theorem fenced_1 (hxn : xN < n) (hl : 2 ≤ life) : fencedB 3 (L3 n xN life) 3 xN 1 = true := by
  unfold fencedB inM
  rw [L3_R3 n xN life hxn]
  have : (R3 n xN life).any (fun m => sameM ((xN : Int), 1) m) = false := by
    rw [List.any_eq_false]
    intro m hm
    obtain ⟨i, h1, rfl⟩ := mem_R3.1 hm
    rw [sameM_eq]
    simp only [decide_eq_true_eq, Prod.mk.injEq]
    rintro ⟨h2, h3⟩
    rw [if_pos (by omega)] at h3
    omega
  rw [this]
  rfl
theorem fenced_life : fencedB 3 (L3 n xN life) 3 xN life = false := by
  unfold fencedB inM
  have : (L3 n xN life).any (fun m => sameM ((xN : Int), life) m) = true := by
    rw [List.any_eq_true]
    exact ⟨((xN : Int), life), (insM_perm _ _).mem_iff.2 (by simp), by rw [sameM_eq]; simp⟩
  rw [this]
  rfl
end
end Go.Proofs.Ytojlglkefiddnaa
