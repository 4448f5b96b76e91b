/-
  Lists of elements of several cells each, laid one behind the other.
-/
import Derived.Test.YtflaliomkfbagaaBase
namespace Go.Proofs.Ytflaliomkfbagaa
open Go.RowKit

theorem flat_len {α : Type} {f : α → List Value} {m : Nat} (hf : ∀ x, (f x).length = m) : ∀ l : List α, (l.flatMap f).length = l.length * m
  | [] => by simp
  | x :: l => by rw [List.flatMap_cons, List.length_append, hf, flat_len hf l, List.length_cons, Nat.succ_mul, Nat.add_comm]
theorem flat_get {α : Type} {f : α → List Value} {m : Nat} (hf : ∀ x, (f x).length = m) : ∀ (l : List α) (k : Nat) (x : α), l[k]? = some x → ∀ j, j < m → (l.flatMap f)[k * m + j]? = (f x)[j]?
  | [], k, x, h, _, _ => by simp at h
  | y :: l, 0, x, h, j, hj => by
    simp at h
    subst h
    rw [List.flatMap_cons, Nat.zero_mul, Nat.zero_add, List.getElem?_append_left (by rw [hf]; exact hj)]
  | y :: l, k + 1, x, h, j, hj => by
    have h2 : l[k]? = some x := by simpa using h
    rw [List.flatMap_cons, List.getElem?_append_right (by rw [hf, Nat.succ_mul]; omega), hf, show (k + 1) * m + j - m = k * m + j by rw [Nat.succ_mul]; omega]
    exact flat_get hf l k x h2 j hj
theorem flat_snoc {α : Type} (f : α → List Value) (l : List α) (x : α) : (l ++ [x]).flatMap f = l.flatMap f ++ f x := by simp
theorem flat_one {α : Type} {f : α → List Value} (hf : ∀ x, ∀ u ∈ f x, u.oneCell' = true) (l : List α) : ∀ u ∈ l.flatMap f, u.oneCell' = true := by
  intro u hu
  obtain ⟨x, _, h⟩ := List.mem_flatMap.1 hu
  exact hf x u h
theorem flat_eq {α : Type} {f : α → List Value} {m : Nat} (hf : ∀ x, (f x).length = m) (hm : 0 < m) {A : Option Addr} {n : Nat} {w : World} {l : List α} (h : Rds w m A n (l.flatMap f)) : n = l.length := by
  have := h.1
  rw [flat_len hf] at this
  exact (Nat.eq_of_mul_eq_mul_right hm this).symm

/-- The address of a field behind the first, as the walk spells it. -/
def fld (p : Addr) (j : Nat) : Addr := ⟨p.block, p.off + (j + 1), none⟩
theorem fld_add (p : Addr) (j : Nat) : p.add (j + 1) = fld p j := by unfold Addr.add fld; simp

/-- An element's cells: the first; those behind it. -/
theorem Rds.getN {α : Type} {f : α → List Value} {m : Nat} (hf : ∀ x, (f x).length = m) (hm : 0 < m) {w : World} {A : Option Addr} {n : Nat} {l : List α} (h : Rds w m A n (l.flatMap f)) {k : Nat} (hk : k < n) :
    ∃ ad x, A = some ad ∧ l[k]? = some x ∧ (∀ u, (f x)[0]? = some u → w.cell? (ad.add (k * m)) = some u) ∧ ∀ j u, (f x)[j + 1]? = some u → w.cell? (fld (ad.add (k * m)) j) = some u := by
  have hn := flat_eq hf hm h
  obtain ⟨ad, e, hc⟩ := h.2 (by omega)
  have hl : k < l.length := by omega
  have key : ∀ j u, (f l[k])[j]? = some u → w.cell? (ad.add (k * m + j)) = some u := fun j u hu => hc _ u (by
    rw [flat_get hf l k _ (List.getElem?_eq_getElem hl) j (by
      have := (List.getElem?_eq_some_iff.1 hu).1
      rwa [hf] at this)]
    exact hu)
  refine ⟨ad, l[k], e, List.getElem?_eq_getElem hl, fun u hu => key 0 u hu, fun j u hu => ?_⟩
  rw [← fld_add, add_add]
  exact key _ _ hu
end Go.Proofs.Ytflaliomkfbagaa
