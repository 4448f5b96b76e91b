/-
  gleanerlaw21.MoveGone: what is offered to whom, as plain Lean.
-/
import Derived.Test.YtflaliomkfbagaaMvBack
import Derived.Test.YtflaliomkfbagaaMvAlive
import Derived.Test.YtflaliomkfbagaaLinNames
namespace Go.Proofs.Ytflaliomkfbagaa
open Go.RowKit
set_option linter.unusedVariables false
set_option linter.unusedSimpArgs false

def yT (l : List Int) (k : Nat) : Int := 1 + bits .and .i64 (l.getD k 0) 7
def gnOff (l : List Int) : Nat → ByteArray → Option Of
  | 0 => fun _ => none
  | k + 1 => setO (gnOff l k) (id1 k) (some ⟨yT l k, 1, (k : Int) + 1⟩)
def gS (l : List Int) (k : Nat) : GvS := ⟨0, fun _ => false, gnOff l k, k⟩
theorem gnOff_new (l : List Int) {k j : Nat} (hj : j < 256) (h : k ≤ j) : gnOff l k (id1 j) = none := by
  induction k with
  | zero => rfl
  | succ k ih =>
    show (if id1 j = id1 k then _ else gnOff l k (id1 j)) = none
    rw [if_neg (fun e => by have := id1_inj hj (by omega) e; omega)]
    exact ih (by omega)
theorem gnOff_old (l : List Int) {k j : Nat} (hk : k ≤ 256) (h : j < k) : gnOff l k (id1 j) = some ⟨yT l j, 1, (j : Int) + 1⟩ := by
  induction k with
  | zero => omega
  | succ k ih =>
    show (if id1 j = id1 k then _ else gnOff l k (id1 j)) = _
    by_cases e : j = k
    · subst e
      rw [if_pos rfl]
    · rw [if_neg (fun e2 => e (id1_inj (by omega) (by omega) e2))]
      exact ih (by omega) (by omega)
theorem gnOff_some (l : List Int) {k : Nat} {a : ByteArray} {o : Of} (h : gnOff l k a = some o) : ∃ j, j < k ∧ a = id1 j := by
  induction k with
  | zero => cases h
  | succ k ih =>
    have h2 : (if a = id1 k then some ⟨yT l k, 1, (k : Int) + 1⟩ else gnOff l k a) = some o := h
    by_cases e : a = id1 k
    · exact ⟨k, by omega, e⟩
    · rw [if_neg e] at h2
      obtain ⟨j, h3, h4⟩ := ih h2
      exact ⟨j, by omega, h4⟩
def wantG (l I : List Int) (k : Nat) : List ByteArray := ((List.range k).filter fun j => inI I (yT l j)).map id1
theorem wantG_step (l I : List Int) (k : Nat) : wantG l I (k + 1) = wantG l I k ++ if inI I (yT l k) then [id1 k] else [] := by
  unfold wantG
  rw [List.range_succ, List.filter_append, List.map_append]
  congr 1
  cases h : inI I (yT l k) <;> simp [h]
theorem wantG_rises (l I : List Int) {k : Nat} (hk : k ≤ 256) : RisesS (wantG l I k) := by
  unfold wantG RisesS
  rw [List.pairwise_map]
  refine List.Pairwise.filter _ ?_
  have : (List.range k).Pairwise (fun a b => a < b ∧ b < 256) := List.pairwise_lt_range.imp_of_mem (fun {a b} ha hb h => ⟨h, by have := List.mem_range.1 hb; omega⟩)
  exact this.imp fun h => id1_lt h.2 h.1
theorem wantG_mem (l I : List Int) {k : Nat} (hk : k ≤ 256) (x : ByteArray) : x ∈ wantG l I k ↔ backs I (gS l k) x = true := by
  unfold wantG
  simp only [List.mem_map, List.mem_filter, List.mem_range]
  constructor
  · rintro ⟨j, ⟨h1, h2⟩, rfl⟩
    unfold backs
    rw [show (gS l k).off (id1 j) = _ from gnOff_old l hk h1]
    exact h2
  · intro h
    unfold backs at h
    cases ho : (gS l k).off x with
    | none => rw [ho] at h; cases h
    | some o =>
      obtain ⟨j, h3, rfl⟩ := gnOff_some l (show gnOff l k x = some o from ho)
      rw [ho] at h
      rw [show (gS l k).off (id1 j) = _ from gnOff_old l hk h3] at ho
      obtain rfl := Option.some.inj ho
      exact ⟨j, ⟨h3, h⟩, rfl⟩
theorem backs_no (I : List Int) (s : GvS) {L : List ByteArray} (hL : ∀ x, x ∈ L ↔ backs I s x = true) (x : ByteArray) : backs I (backS s L) x = false := by
  unfold backs
  show (match (if hasL L x then none else s.off x) with | some o => inI I o.to | none => false) = false
  cases h : hasL L x with
  | true => rfl
  | false =>
    rw [if_neg Bool.false_ne_true]
    cases ho : s.off x with
    | none => rfl
    | some o =>
      have h2 : ¬ x ∈ L := fun e => by rw [hasL_true.2 e] at h; cases h
      rw [hL] at h2
      unfold backs at h2
      rw [ho] at h2
      simpa using h2
theorem gS_zero (l : List Int) : gS l 0 = g0 0 := rfl
def gSh (l : List Int) (k : Nat) : GvS := { gS l k with has := fun c => decide (c = id1 k) || (gS l k).has c }
theorem gS_own (l : List Int) {k : Nat} (hk : k < 16) : ownN (gS l k) [id1 k] = (gSh l k, 1) := own_one (id1_vid hk) (gnOff_new l (by omega) (Nat.le_refl _)) rfl
theorem gS_offer (l : List Int) (k : Nat) : offerS (gSh l k) (id1 k) ⟨yT l k, 1, (gSh l k).num + 1⟩ = gS l (k + 1) := by
  have h1 : (offerS (gSh l k) (id1 k) ⟨yT l k, 1, (gSh l k).num + 1⟩).has = (gS l (k + 1)).has := by
    funext c
    show (!decide (c = id1 k) && (decide (c = id1 k) || false)) = false
    by_cases h : c = id1 k <;> simp [h]
  have h2 : (offerS (gSh l k) (id1 k) ⟨yT l k, 1, (gSh l k).num + 1⟩).off = (gS l (k + 1)).off := rfl
  have h3 : (offerS (gSh l k) (id1 k) ⟨yT l k, 1, (gSh l k).num + 1⟩).num = (gS l (k + 1)).num := by
    show (k : Int) + 1 = ((k + 1 : Nat) : Int)
    omega
  have h4 : (offerS (gSh l k) (id1 k) ⟨yT l k, 1, (gSh l k).num + 1⟩).node = (gS l (k + 1)).node := rfl
  revert h1 h2 h3 h4
  generalize offerS (gSh l k) (id1 k) ⟨yT l k, 1, (gSh l k).num + 1⟩ = x
  generalize gS l (k + 1) = y
  cases x; cases y
  rintro rfl rfl rfl rfl
  rfl
theorem one_list {L M : List ByteArray} {p : ByteArray → Bool} (hL : RisesS L) (hm : ∀ x, x ∈ L ↔ p x = true) (hM : RisesS M) (hm2 : ∀ x, x ∈ M ↔ p x = true) : L = M := rises_eqS hL hM fun z => by rw [hm, hm2]
end Go.Proofs.Ytflaliomkfbagaa
