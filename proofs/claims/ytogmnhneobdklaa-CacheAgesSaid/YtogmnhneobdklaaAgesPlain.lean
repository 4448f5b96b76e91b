/-
  CacheAges: plain. What is kept is a row of names, each once, with its number.
-/
import Derived.Test.YtogmnhneobdklaaCaNames
namespace Go.Proofs.Ytogmnhneobdklaa
open Go.RowKit
set_option linter.unusedVariables false
set_option linter.unusedSimpArgs false

structure Fn (size : Nat) (s : CaS) : Prop where
  mk_ ::
  sz : s.size = (size : Int)
  nr : s.nr = s.R.length
  le : s.R.length ≤ size
  nodup : s.R.Nodup
  form : ∀ x ∈ s.R, ∃ y : Nat, y < 16 ∧ x = id1 y
  has : ∀ y : Nat, y < 16 → id1 y ∈ s.R → s.res (id1 y) = some (0, (y : Int))
  no : ∀ a, a ∉ s.R → s.res a = none
theorem kept_cut {id : ByteArray} : ∀ {R : List ByteArray} {k : Nat}, R.Nodup → R[k]? = some id → kept (fun m => decide (m = id)) R = R.take k ++ R.drop (k + 1)
  | [], k, _, h => by simp at h
  | x :: R, 0, hn, h => by
    obtain rfl : x = id := by simpa using h
    obtain ⟨h1, h2⟩ := List.nodup_cons.1 hn
    have h3 := kept_all (p := fun m => decide (m = x)) (L := R) (fun m hm => decide_eq_false (fun e => h1 (e ▸ hm)))
    unfold kept at h3 ⊢
    simpa using h3
  | x :: R, k + 1, hn, h => by
    obtain ⟨h1, h2⟩ := List.nodup_cons.1 hn
    have h4 : R[k]? = some id := by simpa using h
    have hne : ¬ x = id := fun e => h1 (e ▸ List.mem_of_getElem? h4)
    have ih := kept_cut h2 h4
    unfold kept at ih ⊢
    simp [hne] at ih ⊢
    exact ih
theorem kept_mem {R : List ByteArray} {id z : ByteArray} : z ∈ kept (fun m => decide (m = id)) R ↔ z ∈ R ∧ z ≠ id := by
  unfold kept
  simp
theorem useR_mem {R : List ByteArray} {id z : ByteArray} (h : id ∈ R) : z ∈ useR R id ↔ z ∈ R := by
  unfold useR
  rw [List.mem_append, kept_mem]
  simp
  constructor
  · rintro (h1 | h1)
    · exact h1.1
    · exact h1 ▸ h
  · intro h1
    by_cases e : z = id
    · exact .inr e
    · exact .inl ⟨h1, e⟩
theorem useR_cut {id : ByteArray} {R : List ByteArray} {k : Nat} (hn : R.Nodup) (h : R[k]? = some id) : useR R id = R.take k ++ R.drop (k + 1) ++ [id] := by
  unfold useR
  rw [kept_cut hn h]
theorem useR_len {id : ByteArray} {R : List ByteArray} {k : Nat} (hn : R.Nodup) (h : R[k]? = some id) : (useR R id).length = R.length := by
  have hk := (List.getElem?_eq_some_iff.1 h).1
  rw [useR_cut hn h]
  simp
  omega
theorem useR_nodup {id : ByteArray} {R : List ByteArray} (hn : R.Nodup) : (useR R id).Nodup := by
  unfold useR
  rw [List.nodup_append]
  refine ⟨hn.filter _, by simp, ?_⟩
  intro a ha b hb
  have h1 := (kept_mem.1 ha).2
  have h2 : b = id := by simpa using hb
  rw [h2]
  exact h1
theorem Fn.use {size : Nat} {s : CaS} {id : ByteArray} {k : Nat} (h : Fn size s) (hk : s.R[k]? = some id) : Fn size { s with R := useR s.R id } := by
  have hm := List.mem_of_getElem? hk
  have hl := useR_len h.nodup hk
  refine ⟨h.sz, by rw [h.nr]; exact hl.symm, by show (useR s.R id).length ≤ size; rw [hl]; exact h.le, useR_nodup h.nodup, fun x hx => h.form x ((useR_mem hm).1 hx), fun y hy hx => h.has y hy ((useR_mem hm).1 hx), fun a ha => h.no a fun e => ha ((useR_mem hm).2 e)⟩
theorem nodup_snoc {R : List ByteArray} {id : ByteArray} (hn : R.Nodup) (h : id ∉ R) : (R ++ [id]).Nodup := by
  rw [List.nodup_append]
  refine ⟨hn, by simp, ?_⟩
  intro a ha b hb
  have h2 : b = id := by simpa using hb
  rw [h2]
  exact fun e => h (e ▸ ha)
theorem Fn.room {size : Nat} {s : CaS} {y : Nat} (h : Fn size s) (hy : y < 16) (hn : id1 y ∉ s.R) (hr : s.R.length + 1 ≤ size) : Fn size { s with R := useR s.R (id1 y), res := setRes s.res (id1 y) (0, (y : Int)), nr := s.nr + 1 } := by
  rw [useR_new hn]
  refine ⟨h.sz, by show s.nr + 1 = _; rw [h.nr]; simp, by show (s.R ++ [id1 y]).length ≤ size; simp; omega, nodup_snoc h.nodup hn, fun x hx => ?_, fun z hz hx => ?_, fun a ha => ?_⟩
  · rcases List.mem_append.1 hx with hx | hx
    · exact h.form x hx
    · exact ⟨y, hy, by simpa using hx⟩
  · show setRes s.res (id1 y) (0, (y : Int)) (id1 z) = _
    unfold setRes
    by_cases e : id1 z = id1 y
    · rw [if_pos e, id1_inj (by omega) (by omega) e]
    · rw [if_neg e]
      refine h.has z hz ?_
      rcases List.mem_append.1 hx with hx | hx
      · exact hx
      · exact absurd (by simpa using hx) e
  · show setRes s.res (id1 y) (0, (y : Int)) a = none
    unfold setRes
    have e : ¬ a = id1 y := fun e => ha (by rw [e]; simp)
    rw [if_neg e]
    exact h.no a fun e => ha (List.mem_append.2 (.inl e))
theorem Fn.full {size : Nat} {s : CaS} {y : Nat} {x0 : ByteArray} {R' : List ByteArray} (h : Fn size s) (hy : y < 16) (hn : id1 y ∉ s.R) (hR : s.R = x0 :: R') : Fn size { s with R := R' ++ [id1 y], res := outRes (setRes s.res (id1 y) (0, (y : Int))) x0, nr := cntD (setRes s.res (id1 y) (0, (y : Int)) x0).isSome (s.nr + 1) } := by
  have hle := h.le
  have hnd := h.nodup
  rw [hR] at hle hnd hn
  obtain ⟨h1, h2⟩ := List.nodup_cons.1 hnd
  have hx0 : ¬ x0 = id1 y := fun e => hn (by rw [e]; simp)
  have hny : id1 y ∉ R' := fun e => hn (List.mem_cons_of_mem _ e)
  obtain ⟨y0, hy0, e0⟩ := h.form x0 (by rw [hR]; simp)
  have hs0 : s.res x0 = some (0, (y0 : Int)) := by rw [e0]; exact h.has y0 hy0 (by rw [hR, e0]; simp)
  refine ⟨h.sz, ?_, by show (R' ++ [id1 y]).length ≤ size; simp at hle ⊢; omega, nodup_snoc h2 hny, fun x hx => ?_, fun z hz hx => ?_, fun a ha => ?_⟩
  · show cntD (setRes s.res (id1 y) (0, (y : Int)) x0).isSome (s.nr + 1) = (R' ++ [id1 y]).length
    have e : setRes s.res (id1 y) (0, (y : Int)) x0 = some (0, (y0 : Int)) := by unfold setRes; rw [if_neg hx0, hs0]
    rw [e, h.nr, hR]
    simp [cntD]
  · rcases List.mem_append.1 hx with hx | hx
    · exact h.form x (by rw [hR]; exact List.mem_cons_of_mem _ hx)
    · exact ⟨y, hy, by simpa using hx⟩
  · show outRes (setRes s.res (id1 y) (0, (y : Int))) x0 (id1 z) = _
    unfold outRes setRes
    have hzx : ¬ id1 z = x0 := by
      intro e
      rcases List.mem_append.1 hx with hx | hx
      · exact h1 (e ▸ hx)
      · exact hx0 (by rw [← e]; simpa using hx)
    rw [if_neg hzx]
    by_cases e : id1 z = id1 y
    · rw [if_pos e, id1_inj (by omega) (by omega) e]
    · rw [if_neg e]
      refine h.has z hz ?_
      rcases List.mem_append.1 hx with hx | hx
      · rw [hR]; exact List.mem_cons_of_mem _ hx
      · exact absurd (by simpa using hx) e
  · show outRes (setRes s.res (id1 y) (0, (y : Int))) x0 a = none
    unfold outRes setRes
    by_cases e1 : a = x0
    · rw [if_pos e1]
    · rw [if_neg e1]
      have e : ¬ a = id1 y := fun e => ha (by rw [e]; simp)
      rw [if_neg e]
      refine h.no a fun e => ha (List.mem_append.2 (.inl ?_))
      rw [hR] at e
      rcases List.mem_cons.1 e with e | e
      · exact absurd e e1
      · exact e
theorem own_cut {A : Option Addr} {n m c c2 k z b : Nat} (h : (Value.slice (cutA A c k z) m c2).ownBlock = some b) : (Value.slice A n c).ownBlock = some b := by
  cases A with
  | none => unfold cutA at h; simp [Value.ownBlock] at h
  | some a =>
    cases hc : cutA (some a) c k z with
    | none => rw [hc] at h; simp [Value.ownBlock] at h
    | some a2 =>
      obtain ⟨a0, e0, e1⟩ := cutA_block hc
      cases e0
      rw [hc] at h
      rw [← h]
      simp [Value.ownBlock, e1]
theorem own_len {A : Option Addr} {n m c c2 b : Nat} (h : (Value.slice A n c).ownBlock = some b) : (Value.slice A m c2).ownBlock = some b := by cases A <;> exact h
end Go.Proofs.Ytogmnhneobdklaa
