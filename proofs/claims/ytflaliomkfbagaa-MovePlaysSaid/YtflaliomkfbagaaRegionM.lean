/-
  Which operations a region's operations wait for, as bits: the check of a great region's order, fast.
-/
import Derived.Test.YtflaliomkfbagaaSteps
namespace Go.Proofs.Ytflaliomkfbagaa
set_option linter.unusedVariables false

section
variable (ops : Array Oper)
def maskOf (at_ : Nat → Nat) (o : Oper) : Nat := o.after.toList.foldr (fun e m => if Region.binds .any e then (1 <<< e.on) ||| (at_ e.on) ||| m else m) 0
/-- Of each operation, the last one first: for whom it waits. -/
def masks : Nat → List Nat
  | 0 => []
  | n + 1 => (match ops[n]? with | some o => maskOf (fun i => (masks n).getD (n - 1 - i) 0) o | none => 0) :: masks n
def maskAt (n i : Nat) : Nat := (masks ops n).getD (n - 1 - i) 0
def pairF (majs : List Nat) : Bool := (List.range ops.size).all fun i => (List.range i).all fun k => (match ops[k]?, ops[i]? with
  | some x, some y => x.apart ops y && y.apart ops x && !(majs.contains k && majs.contains i)
  | _, _ => false) || ((masks ops ops.size).getD (ops.size - 1 - i) 0).testBit k
def okF (majs : List Nat) : Bool := Region.noSelect ops && backB ops && pairF ops majs

theorem maskOf_bit (at_ : Nat → Nat) (k : Nat) : ∀ (l : List _), (l.foldr (fun e m => if Region.binds .any e then (1 <<< e.on) ||| (at_ e.on) ||| m else m) 0).testBit k = true → ∃ e ∈ l, Region.binds .any e = true ∧ (e.on = k ∨ (at_ e.on).testBit k = true)
  | [], h => by simp at h
  | e :: l, h => by
    rw [List.foldr_cons] at h
    by_cases hb : Region.binds .any e = true
    · rw [if_pos hb, Nat.testBit_or, Nat.testBit_or, Bool.or_eq_true, Bool.or_eq_true] at h
      rcases h with (h | h) | h
      · refine ⟨e, by simp, hb, .inl ?_⟩
        rw [Nat.shiftLeft_eq, Nat.one_mul, Nat.testBit_two_pow] at h
        simpa using h
      · exact ⟨e, by simp, hb, .inr h⟩
      · obtain ⟨e2, h1, h2⟩ := maskOf_bit at_ k l h
        exact ⟨e2, by simp [h1], h2⟩
    · rw [if_neg hb] at h
      obtain ⟨e2, h1, h2⟩ := maskOf_bit at_ k l h
      exact ⟨e2, by simp [h1], h2⟩
theorem maskAt_old {n i : Nat} (h : i < n) : maskAt ops (n + 1) i = maskAt ops n i := by
  unfold maskAt
  rw [show n + 1 - 1 - i = (n - 1 - i) + 1 by omega]
  rfl
theorem reach_more : ∀ (f k i : Nat), reach ops f k i = true → reach ops (f + 1) k i = true
  | 0, _, _, h => by simp [reach] at h
  | f + 1, k, i, h => by
    unfold reach at h ⊢
    split at h
    · rename_i o ho
      obtain ⟨e, he, hb⟩ := Array.any_eq_true'.1 h
      refine Array.any_eq_true'.2 ⟨e, he, ?_⟩
      simp only [Bool.and_eq_true, Bool.or_eq_true] at hb ⊢
      exact ⟨hb.1, hb.2.imp id (reach_more f k e.on)⟩
    · cases h
theorem mask_reach (hb : ∀ (i : Nat) (o : Oper), ops[i]? = some o → ∀ e ∈ o.after, Region.binds .any e = true → e.on < i) : ∀ (n i k : Nat), i < n → (maskAt ops n i).testBit k = true → reach ops n k i = true
  | 0, _, _, h, _ => by omega
  | n + 1, i, k, hi, h => by
    by_cases hin : i = n
    · subst hin
      unfold maskAt at h
      rw [show i + 1 - 1 - i = 0 by omega] at h
      unfold masks at h
      rw [List.getD_cons_zero] at h
      unfold reach
      cases ho : ops[i]? with
      | none => rw [ho] at h; simp at h
      | some o =>
        rw [ho] at h
        have h : (maskOf (fun j => (masks ops i).getD (i - 1 - j) 0) o).testBit k = true := h
        obtain ⟨e, he, h1, h2⟩ := maskOf_bit (fun j => (masks ops i).getD (i - 1 - j) 0) k o.after.toList h
        have he' : e ∈ o.after := by simpa using he
        refine Array.any_eq_true'.2 ⟨e, he', ?_⟩
        simp only [Bool.and_eq_true, Bool.or_eq_true]
        refine ⟨h1, ?_⟩
        rcases h2 with h2 | h2
        · exact .inl (beq_iff_eq.2 h2)
        · exact .inr (mask_reach hb i e.on k (hb i o ho e he' h1) h2)
    · rw [maskAt_old ops (by omega)] at h
      exact reach_more ops n k i (mask_reach hb n i k (by omega) h)
theorem okB_of_F {majs : List Nat} (h : okF ops majs = true) : okB ops majs ops.size = true := by
  unfold okF at h
  unfold okB
  simp only [Bool.and_eq_true] at h ⊢
  refine ⟨h.1, ?_⟩
  have hb : ∀ (i : Nat) (o : Oper), ops[i]? = some o → ∀ e ∈ o.after, Region.binds .any e = true → e.on < i := by
    intro i o ho e he h1
    have h9 := h.1.2
    unfold backB at h9
    have hlt := (Array.getElem?_eq_some_iff.1 ho).1
    have h2 := (List.all_eq_true.1 h9) i (List.mem_range.2 hlt)
    rw [ho] at h2
    have h3 := Array.all_eq_true'.1 h2 e he
    rw [h1] at h3
    simpa using h3
  unfold pairB
  rw [List.all_eq_true]
  intro i hi
  rw [List.all_eq_true]
  intro k hk
  have h2 := (List.all_eq_true.1 ((List.all_eq_true.1 h.2) i hi)) k hk
  rw [Bool.or_eq_true] at h2 ⊢
  rcases h2 with h2 | h2
  · exact .inr h2
  · exact .inl (mask_reach ops hb ops.size i k (List.mem_range.1 hi) h2)
end
end Go.Proofs.Ytflaliomkfbagaa
