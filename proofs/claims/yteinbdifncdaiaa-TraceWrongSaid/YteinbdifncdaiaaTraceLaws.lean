/-
  TraceLeft and TraceWrong: plain.
-/
import Derived.Test.YteinbdifncdaiaaTreePlain
namespace Go.Proofs.Yteinbdifncdaiaa
open Go.RowKit
set_option linter.unusedVariables false
set_option linter.unusedSimpArgs false

theorem inB_range {m i : Nat} (hm : m ≤ 256) (hi : i < 256) : inB ((List.range m).map one) (one i) = decide (i < m) := by
  rw [Bool.eq_iff_iff, inB_true, decide_eq_true_eq, List.mem_map]
  constructor
  · rintro ⟨j, hj, e⟩
    have hj := List.mem_range.1 hj
    have := one_inj (by omega) hi e
    omega
  · exact fun h => ⟨i, List.mem_range.2 h, rfl⟩
theorem inB_e0 {m : Nat} : inB ((List.range m).map one) e0 = false := by
  rw [inB_false, List.mem_map]
  rintro ⟨j, _, e⟩
  exact one_e0 j e
theorem ids_get {l : List Cm} {m : Nat} (h : ∀ j, j < m → l[j]? = some (kidC j)) : ids (l.take m) = (List.range m).map one := by
  apply List.ext_getElem?
  intro j
  unfold ids
  rw [List.getElem?_map, List.getElem?_take, List.getElem?_map]
  by_cases hj : j < m
  · rw [if_pos hj, h j hj, List.getElem?_range hj]
    rfl
  · rw [if_neg hj, List.getElem?_eq_none (by simpa using hj)]
    rfl

/-- The commits of the whole tree, the kids ahead. -/
def base (kids : Nat) : List Cm := (List.range kids).map kidC ++ [headC]
theorem base_len (kids : Nat) : (base kids).length = kids + 1 := by simp [base]
theorem base_kid {kids j : Nat} (h : j < kids) : (base kids)[j]? = some (kidC j) := by
  unfold base
  rw [List.getElem?_append_left (by simpa using h), List.getElem?_map, List.getElem?_range h]
  rfl
theorem base_head (kids : Nat) : (base kids)[kids]? = some headC := by
  unfold base
  rw [List.getElem?_append_right (by simp)]
  simp

section
variable {A : Option Addr} {c n kids : Nat} (hk : kids ≤ 16)
include hk
theorem good_upto {l : List Cm} {m : Nat} (hm : m ≤ kids) (h : ∀ j, j < m → l[j]? = some (kidC j)) : ∀ j, j < m → fineAt (tree A c n kids) l j = true := by
  intro j hj
  rw [fineAt_of (h j hj), ids_get (fun i hi => h i (by omega))]
  show fine _ _ (one j, 0, (j : Int)) = true
  rw [fine_kid hk (by omega), inB_range (by omega) (by omega)]
  simp
theorem base_good : chkP (tree A c n kids) (base kids) = (0, true) := by
  refine chk_none fun j hj => ?_
  rw [base_len] at hj
  by_cases h : j < kids
  · exact good_upto hk (Nat.le_refl _) (fun i hi => base_kid hi) j h
  · obtain rfl : j = kids := by omega
    rw [fineAt_of (base_head _), ids_get (fun i hi => base_kid hi), fine_head hk, inB_e0]
    simp only [Bool.not_false, Bool.true_and, List.all_eq_true, List.mem_range]
    intro i hi
    rw [inB_range (by omega) (by omega)]
    simpa using hi
omit hk in
theorem base_left : leftOf (tree A c n kids) (base kids) = [] := by
  unfold leftOf
  rw [List.map_eq_nil_iff, List.filter_eq_nil_iff]
  intro x hx
  simp only [tree, List.mem_cons, List.mem_map, List.mem_range] at hx
  have : x.id ∈ ids (base kids) := by
    unfold ids base
    rw [List.map_append, List.mem_append, List.map_map]
    rcases hx with rfl | ⟨i, hi, rfl⟩
    · exact .inr (by simp [headC, headE])
    · exact .inl (List.mem_map.2 ⟨i, List.mem_range.2 hi, rfl⟩)
  rw [inB_true.2 this]
  decide
theorem wrong_at {l : List Cm} {x : Cm} {m : Nat} (hm : m ≤ kids) (h : ∀ j, j < m → l[j]? = some (kidC j)) (hx : l[m]? = some x) (hf : fine (tree A c n kids) ((List.range m).map one) x = false) : chkP (tree A c n kids) l = ((m : Int), false) := by
  refine chk_some (List.getElem?_eq_some_iff.1 hx).1 (good_upto hk hm h) ?_
  rw [fineAt_of hx, ids_get h]
  exact hf
theorem wrong_set {m : Nat} {x : Cm} (hm : m < kids) (hf : fine (tree A c n kids) ((List.range m).map one) x = false) : chkP (tree A c n kids) ((base kids).set m x) = ((m : Int), false) := by
  refine wrong_at hk (by omega) (fun j hj => ?_) ?_ hf
  · rw [List.getElem?_set_ne (by omega)]
    exact base_kid (by omega)
  · rw [List.getElem?_set_self (by rw [base_len]; omega)]
theorem wrong1 {m : Nat} (hm : m < kids) : chkP (tree A c n kids) ((base kids).set m (one m, 0, 99)) = ((m : Int), false) := by
  refine wrong_set hk hm ?_
  rw [fine_kid hk hm]
  have : decide ((m : Int) = 99) = false := decide_eq_false (by omega)
  rw [this]
  simp
theorem wrong2 {m : Nat} (hm : m < kids) : chkP (tree A c n kids) ((base kids).set m (⟨#[15, 15]⟩, 0, (m : Int))) = ((m : Int), false) := by
  refine wrong_set hk hm ?_
  unfold fine
  simp only
  rw [oneOf_out (by decide) (fun i _ e => by
    have h2 : (one i).data.toList.length = (⟨#[15, 15]⟩ : ByteArray).data.toList.length := by rw [e]
    simp [one] at h2)]
theorem wrong6 {m : Nat} (hm : m < kids) : chkP (tree A c n kids) ((base kids).set m (one m, 20, (m : Int))) = ((m : Int), false) := by
  refine wrong_set hk hm ?_
  rw [fine_kid hk hm]
  rfl
theorem wrong3 {m : Nat} (hm : m < kids) : chkP (tree A c n kids) (base kids ++ [kidC m]) = (((kids + 1 : Nat) : Int), false) := by
  have hb : ∀ j, j < kids + 1 → (base kids ++ [kidC m])[j]? = (base kids)[j]? := fun j hj => List.getElem?_append_left (by rw [base_len]; exact hj)
  have ht : ∀ j, j ≤ kids + 1 → (base kids ++ [kidC m]).take j = (base kids).take j := fun j hj => List.take_append_of_le_length (by rw [base_len]; exact hj)
  have hx : (base kids ++ [kidC m])[kids + 1]? = some (kidC m) := by
    rw [List.getElem?_append_right (by rw [base_len]; exact Nat.le_refl _), base_len]
    simp
  refine chk_some (List.getElem?_eq_some_iff.1 hx).1 (fun j hj => ?_) ?_
  · have hj2 : fineAt (tree A c n kids) (base kids ++ [kidC m]) j = fineAt (tree A c n kids) (base kids) j := by
      unfold fineAt
      rw [hb j hj, ht j (by omega)]
    rw [hj2]
    by_cases h : j < kids
    · exact good_upto hk (Nat.le_refl _) (fun i hi => base_kid hi) j h
    · obtain rfl : j = kids := by omega
      rw [fineAt_of (base_head _), ids_get (fun i hi => base_kid hi), fine_head hk, inB_e0]
      simp only [Bool.not_false, Bool.true_and, List.all_eq_true, List.mem_range]
      intro i hi
      rw [inB_range (by omega) (by omega)]
      simpa using hi
  · rw [fineAt_of hx, ht _ (Nat.le_refl _), List.take_of_length_le (by rw [base_len]; exact Nat.le_refl _)]
    show fine _ _ (one m, 0, (m : Int)) = false
    rw [fine_kid hk hm]
    have : one m ∈ ids (base kids) := by
      unfold ids base
      rw [List.map_append, List.mem_append, List.map_map]
      exact .inl (List.mem_map.2 ⟨m, List.mem_range.2 hm, rfl⟩)
    rw [inB_true.2 this]
    simp
theorem wrong4 {m : Nat} (hm : m < kids) : chkP (tree A c n kids) (((base kids).set m headC).set kids (kidC m)) = ((m : Int), false) := by
  refine wrong_at hk (by omega) (fun j hj => ?_) (x := headC) ?_ ?_
  · rw [List.getElem?_set_ne (by omega), List.getElem?_set_ne (by omega)]
    exact base_kid (by omega)
  · rw [List.getElem?_set_ne (by omega), List.getElem?_set_self (by rw [base_len]; omega)]
  · rw [fine_head hk]
    have : (List.range kids).all (fun i => inB ((List.range m).map one) (one i)) = false := by
      rw [List.all_eq_false]
      refine ⟨m, List.mem_range.2 hm, ?_⟩
      rw [inB_range (by omega) (by omega)]
      simp
    rw [this, Bool.and_false]
theorem wrong5 {m : Nat} (hm : m < kids) : chkP (tree A c n kids) ((base kids).take m ++ (base kids).drop (m + 1)) = (((kids - 1 : Nat) : Int), false) := by
  have hget : ∀ j, ((base kids).take m ++ (base kids).drop (m + 1))[j]? = if j < m then (base kids)[j]? else (base kids)[j + 1]? := by
    intro j
    have hl : ((base kids).take m).length = m := by rw [List.length_take, base_len]; omega
    by_cases h : j < m
    · rw [if_pos h, List.getElem?_append_left (by omega), List.getElem?_take, if_pos h]
    · rw [if_neg h, List.getElem?_append_right (by omega), hl, List.getElem?_drop]
      congr 1
      omega
  have hval : ∀ j, j < kids - 1 → ((base kids).take m ++ (base kids).drop (m + 1))[j]? = some (kidC (if j < m then j else j + 1)) := by
    intro j hj
    rw [hget]
    by_cases h : j < m
    · rw [if_pos h, if_pos h]; exact base_kid (by omega)
    · rw [if_neg h, if_neg h]; exact base_kid (by omega)
  have hids : ∀ q, q ≤ kids - 1 → ids (((base kids).take m ++ (base kids).drop (m + 1)).take q) = (List.range q).map fun j => one (if j < m then j else j + 1) := by
    intro q hq
    apply List.ext_getElem?
    intro j
    unfold ids
    rw [List.getElem?_map, List.getElem?_take, List.getElem?_map]
    by_cases hj : j < q
    · rw [if_pos hj, hval j (by omega), List.getElem?_range hj]
      rfl
    · rw [if_neg hj, List.getElem?_eq_none (by simpa using hj)]
      rfl
  have hx : ((base kids).take m ++ (base kids).drop (m + 1))[kids - 1]? = some headC := by
    rw [hget, if_neg (by omega), show kids - 1 + 1 = kids by omega]
    exact base_head kids
  refine chk_some (List.getElem?_eq_some_iff.1 hx).1 (fun j hj => ?_) ?_
  · rw [fineAt_of (hval j hj), hids j (by omega)]
    show fine _ _ (one _, 0, _) = true
    rw [fine_kid hk (by split <;> omega)]
    have : inB ((List.range j).map fun j => one (if j < m then j else j + 1)) (one (if j < m then j else j + 1)) = false := by
      rw [inB_false, List.mem_map]
      rintro ⟨i, hi, e⟩
      have hi := List.mem_range.1 hi
      have := one_inj (by split <;> omega) (by split <;> omega) e
      split at this <;> split at this <;> omega
    rw [this]
    simp
  · rw [fineAt_of hx, hids _ (Nat.le_refl _), fine_head hk]
    have : (List.range kids).all (fun i => inB ((List.range (kids - 1)).map fun j => one (if j < m then j else j + 1)) (one i)) = false := by
      rw [List.all_eq_false]
      refine ⟨m, List.mem_range.2 hm, ?_⟩
      rw [Bool.not_eq_true, inB_false, List.mem_map]
      rintro ⟨i, hi, e⟩
      have hi := List.mem_range.1 hi
      have := one_inj (by split <;> omega) (by omega) e
      split at this <;> omega
    rw [this, Bool.and_false]

/-- The commits of the last kids, the last one ahead. -/
def coms (kids m : Nat) : List Cm := (List.range m).map fun j => kidC (kids - 1 - j)
omit hk in
theorem coms_succ (m : Nat) : coms kids (m + 1) = coms kids m ++ [kidC (kids - 1 - m)] := by simp [coms, List.range_succ]
omit hk in
theorem coms_len (m : Nat) : (coms kids m).length = m := by simp [coms]
omit hk in
theorem coms_ids (m : Nat) : ids (coms kids m) = (List.range m).map fun j => one (kids - 1 - j) := by simp [ids, coms, kidC]
omit hk in
theorem coms_take {m j : Nat} (h : j ≤ m) : (coms kids m).take j = coms kids j := by
  unfold coms
  rw [← List.map_take, List.take_range, Nat.min_eq_left h]
theorem left_good {m : Nat} (hm : m ≤ kids) : chkP (tree A c n kids) (coms kids m) = (0, true) := by
  refine chk_none fun j hj => ?_
  rw [coms_len] at hj
  have hx : (coms kids m)[j]? = some (kidC (kids - 1 - j)) := by
    unfold coms
    rw [List.getElem?_map, List.getElem?_range hj]
    rfl
  rw [fineAt_of hx, coms_take (by omega), coms_ids]
  show fine _ _ (one _, 0, _) = true
  rw [fine_kid hk (by omega)]
  have : inB ((List.range j).map fun j => one (kids - 1 - j)) (one (kids - 1 - j)) = false := by
    rw [inB_false, List.mem_map]
    rintro ⟨i, hi, e⟩
    have hi := List.mem_range.1 hi
    have := one_inj (by omega) (by omega) e
    omega
  rw [this]
  simp
/-- What is left. -/
def wantL (m : Nat) : List ByteArray := e0 :: (List.range m).map one
omit hk in
theorem wantL_succ (m : Nat) : wantL (m + 1) = wantL m ++ [one m] := by simp [wantL, List.range_succ]
omit hk in
theorem wantL_len (m : Nat) : (wantL m).length = m + 1 := by simp [wantL]
omit hk in
theorem wantL_rises {m : Nat} (hm : m ≤ 256) : RisesS (wantL m) := by
  unfold wantL
  refine List.pairwise_cons.2 ⟨fun x hx => ?_, ?_⟩
  · obtain ⟨i, _, rfl⟩ := List.mem_map.1 hx
    show ([] : List UInt8) < [UInt8.ofNat i]
    exact List.nil_lt_cons _ _
  · rw [List.pairwise_map]
    refine List.Pairwise.imp_of_mem (fun {i j} hi hj h => ?_) List.pairwise_lt_range
    have hi := List.mem_range.1 hi
    have hj := List.mem_range.1 hj
    show [UInt8.ofNat i] < [UInt8.ofNat j]
    refine List.cons_lt_cons_iff.2 (.inl ?_)
    rw [UInt8.lt_iff_toNat_lt, UInt8.toNat_ofNat', UInt8.toNat_ofNat']
    omega
theorem left_left {m : Nat} (hm : m ≤ kids) : risenS (leftOf (tree A c n kids) (coms kids m)) = wantL (kids - m) := by
  obtain ⟨h1, h2⟩ := risenS_spec (leftOf (tree A c n kids) (coms kids m))
  refine rises_eqS h1 (wantL_rises (by omega)) fun z => ?_
  rw [h2]
  unfold leftOf wantL
  rw [List.mem_map, List.mem_cons, List.mem_map, coms_ids]
  constructor
  · rintro ⟨x, hx, rfl⟩
    obtain ⟨hx1, hx2⟩ := List.mem_filter.1 hx
    simp only [tree, List.mem_cons, List.mem_map, List.mem_range] at hx1
    rcases hx1 with rfl | ⟨i, hi, rfl⟩
    · exact .inl rfl
    · refine .inr ⟨i, List.mem_range.2 ?_, rfl⟩
      rw [Bool.not_eq_true', inB_false, List.mem_map] at hx2
      rcases Nat.lt_or_ge i (kids - m) with h | h
      · exact h
      · exact (hx2 ⟨kids - 1 - i, List.mem_range.2 (by omega), by rw [show kids - 1 - (kids - 1 - i) = i by omega]; rfl⟩).elim
  · rintro (rfl | ⟨i, hi, rfl⟩)
    · refine ⟨headE A c n kids, List.mem_filter.2 ⟨by simp [tree], ?_⟩, rfl⟩
      rw [Bool.not_eq_true', inB_false, List.mem_map]
      rintro ⟨j, _, e⟩
      exact one_e0 _ e
    · have hi := List.mem_range.1 hi
      refine ⟨kidE i, List.mem_filter.2 ⟨by simp only [tree, List.mem_cons, List.mem_map, List.mem_range]; exact .inr ⟨i, by omega, rfl⟩, ?_⟩, rfl⟩
      rw [Bool.not_eq_true', inB_false, List.mem_map]
      rintro ⟨j, hj, e⟩
      have hj := List.mem_range.1 hj
      have := one_inj (by omega) (by omega) e
      omega
end
end Go.Proofs.Yteinbdifncdaiaa
