/-
  What arguments read as: structs whose fields take a cell each; rows of whatever elements.
-/
import Derived.Test.YteinbdifncdaiaaTdLaw
import Derived.Test.YteinbdifncdaiaaTdRow
import Derived.Deep.Fields
namespace Go.Proofs.Yteinbdifncdaiaa
open Go.ChangeShapes Go.WideShapes Go.ChangeAt Go.RowKit Go.Deep
set_option linter.unusedVariables false

section
variable {P : Program} {w : World} {t : TypeId} {cs : List Value}
theorem Rd.struct {fs : Array Field} (ht : P.underlying t = some (.struct fs)) (hone : oneCellFields P fs = true) (h : Rd P w t cs) :
    cs.length = P.cellsOf t ∧ ∀ (i : Nat) (f : Field), fs[i]? = some f → ∀ u, cs[i]? = some u → Rd P w f.type [u] := by
  obtain ⟨H, enc, base, spare, held, fuel, x, h⟩ := h
  obtain ⟨xs, n, _, _, hl, hxl, hg⟩ := DataW.trod_struct ht h
  refine ⟨hl, fun i f hf u hu => ?_⟩
  obtain ⟨ho, hk⟩ := hone_of hone i f hf
  have h1 := hg i f hf
  rw [ho, hk] at h1
  have hi := (List.getElem?_eq_some_iff.1 hu).1
  have e : (cs.drop i).take 1 = [u] := by
    rw [List.drop_eq_getElem_cons hi]
    simp only [List.take_succ_cons, List.take_zero]
    rw [(List.getElem?_eq_some_iff.1 hu).2]
  rw [e] at h1
  have hxi : i < xs.length := by rw [hxl]; exact (Array.getElem?_eq_some_iff.1 hf).1
  rw [List.getElem?_eq_getElem hxi] at h1
  exact ⟨H, enc, base, spare, held, n, _, h1⟩
end

theorem list_of {α : Type} {Q : Nat → α → Prop} : ∀ (n : Nat), (∀ i, i < n → ∃ x, Q i x) → ∃ X : List α, X.length = n ∧ ∀ i x, X[i]? = some x → Q i x
  | 0, _ => ⟨[], rfl, fun i x h => by simp at h⟩
  | n + 1, h => by
    obtain ⟨X, hX, hQ⟩ := list_of n fun i hi => h i (by omega)
    obtain ⟨x, hx⟩ := h n (by omega)
    refine ⟨X ++ [x], by simp [hX], fun i y hy => ?_⟩
    rcases Nat.lt_or_ge i n with hi | hi
    · rw [List.getElem?_append_left (by omega)] at hy
      exact hQ i y hy
    · have hi2 := (List.getElem?_eq_some_iff.1 hy).1
      simp at hi2
      obtain rfl : i = n := by omega
      rw [List.getElem?_append_right (by omega)] at hy
      simp [hX] at hy
      subst hy
      exact hx

/-- A row: what its elements are, each as its cells. -/
theorem Rd.rows {P : Program} {w : World} {t e : TypeId} {cs : List Value} {α : Type} {f : α → List Value} {m : Nat} {Q : α → Prop} (ht : P.underlying t = some (.slice e)) (hc : P.cellsOf e = m) (hf : ∀ x, (f x).length = m)
    (he : ∀ l, l.length = m → Rd P w e l → ∃ x, l = f x ∧ Q x) (h : Rd P w t cs) :
    ∃ A n c, ∃ L : List α, cs = [.slice A n c] ∧ n ≤ c ∧ c ≤ maxLen ∧ Rds w m A n (L.flatMap f) ∧ ∀ x ∈ L, Q x := by
  obtain ⟨A, n, c, rfl, h1, h2, h3⟩ := h.slice ht
  rw [hc] at h3
  rcases Nat.eq_zero_or_pos n with h0 | h0
  · subst h0
    exact ⟨A, 0, c, [], rfl, h1, h2, Rds.nil_, by simp⟩
  · obtain ⟨ad, rfl, hq⟩ := h3 h0
    obtain ⟨L, hL, hQ⟩ := list_of (Q := fun i (x : α) => (∀ j u, (f x)[j]? = some u → w.cell? (ad.add (i * m + j)) = some u) ∧ Q x) n fun i hi => by
      obtain ⟨l, hl1, hl2, hl3⟩ := hq i hi
      obtain ⟨x, rfl, hx⟩ := he l hl1 hl3
      exact ⟨x, fun j u hu => by rw [← add_add]; exact hl2 j u hu, hx⟩
    refine ⟨some ad, n, c, L, rfl, h1, h2, ⟨by rw [flat_len hf, hL], fun _ => ⟨ad, rfl, fun j u hu => ?_⟩⟩, fun x hx => ?_⟩
    · have hm : 0 < m := by
        rcases Nat.eq_zero_or_pos m with h | h
        · have := (List.getElem?_eq_some_iff.1 hu).1
          rw [flat_len hf, h, Nat.mul_zero] at this
          omega
        · exact h
      have hjl := (List.getElem?_eq_some_iff.1 hu).1
      rw [flat_len hf, hL] at hjl
      have hd : j / m < L.length := by rw [hL]; exact Nat.div_lt_of_lt_mul (by rw [Nat.mul_comm]; exact hjl)
      have hj : j = j / m * m + j % m := by rw [Nat.mul_comm]; exact (Nat.div_add_mod j m).symm
      have hx := List.getElem?_eq_getElem hd
      rw [hj, flat_get hf L _ _ hx _ (Nat.mod_lt _ hm)] at hu
      rw [hj]
      exact (hQ _ _ hx).1 _ _ hu
    · obtain ⟨i, hi⟩ := List.getElem?_of_mem hx
      exact (hQ i x hi).2
end Go.Proofs.Yteinbdifncdaiaa
