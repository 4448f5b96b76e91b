/-
  What the document's reader of notes reads, as plain Lean; it and the program's read the same notes.
-/
import Derived.Test.YtclpmadecibofaaNoteOnes
namespace Go.Proofs.Ytclpmadecibofaa
open Go.RowKit
set_option linter.unusedVariables false
set_option linter.unusedSimpArgs false

/-- Numbers, till something is none. -/
def lpI : Nat → List UInt8 → Bool → List Int × List UInt8 × Bool
  | 0, R, bad => ([], R, bad)
  | j + 1, R, bad => if bad then ([], R, bad) else ((cInt R bad).1 :: (lpI j (cInt R bad).2.1 (cInt R bad).2.2).1, (lpI j (cInt R bad).2.1 (cInt R bad).2.2).2)
/-- Members, till something is none. -/
def lpM : Nat → List UInt8 → Bool → List Mb × List UInt8 × Bool
  | 0, R, bad => ([], R, bad)
  | j + 1, R, bad => if bad then ([], R, bad) else
    (((cInt R bad).1, (cInt (cInt R bad).2.1 (cInt R bad).2.2).1) :: (lpM j (cInt (cInt R bad).2.1 (cInt R bad).2.2).2.1 (cInt (cInt R bad).2.1 (cInt R bad).2.2).2.2).1, (lpM j (cInt (cInt R bad).2.1 (cInt R bad).2.2).2.1 (cInt (cInt R bad).2.1 (cInt R bad).2.2).2.2).2)
theorem lpI_stop (j : Nat) (R : List UInt8) : lpI j R true = ([], R, true) := by cases j <;> rfl
theorem lpM_stop (j : Nat) (R : List UInt8) : lpM j R true = ([], R, true) := by cases j <;> rfl
theorem lpI_step {j : Nat} (R : List UInt8) : lpI (j + 1) R false = ((cInt R false).1 :: (lpI j (cInt R false).2.1 (cInt R false).2.2).1, (lpI j (cInt R false).2.1 (cInt R false).2.2).2) := rfl
theorem lpM_step {j : Nat} (R : List UInt8) : lpM (j + 1) R false = (((cInt R false).1, (cInt (cInt R false).2.1 (cInt R false).2.2).1) :: (lpM j (cInt (cInt R false).2.1 (cInt R false).2.2).2.1 (cInt (cInt R false).2.1 (cInt R false).2.2).2.2).1, (lpM j (cInt (cInt R false).2.1 (cInt R false).2.2).2.1 (cInt (cInt R false).2.1 (cInt R false).2.2).2.2).2) := rfl
theorem lpI_nums : ∀ (l : List Int), (∀ x ∈ l, i64 x) → ∀ R, lpI l.length (nums l ++ R) false = (l, R, false)
  | [], _, R => rfl
  | x :: l, h, R => by
    have e : nums (x :: l) ++ R = num x ++ (nums l ++ R) := by simp [nums]
    simp only [List.length_cons]
    rw [lpI_step, e, cInt_num (h x (List.mem_cons_self ..))]
    simp only
    rw [lpI_nums l (fun y hy => h y (List.mem_cons_of_mem _ hy))]
theorem lpM_mems : ∀ (L : List Mb), (∀ m ∈ L, i64 m.1 ∧ i64 m.2) → ∀ R, lpM L.length (L.flatMap memB ++ R) false = (L, R, false)
  | [], _, R => rfl
  | m :: L, h, R => by
    have e : (m :: L).flatMap memB ++ R = num m.1 ++ (num m.2 ++ (L.flatMap memB ++ R)) := by simp [memB]
    obtain ⟨h1, h2⟩ := h m (List.mem_cons_self ..)
    simp only [List.length_cons]
    rw [lpM_step, e, cInt_num h1]
    simp only
    rw [cInt_num h2]
    simp only
    rw [lpM_mems L (fun y hy => h y (List.mem_cons_of_mem _ hy))]

/-- One part, as the document reads it. -/
def getQ (s : St) (p : Int) : St :=
  if p = 4 then ({ s.1 with fn := (cInt s.2.1 s.2.2).1, args := s.1.args ++ (lpI (cnt 19 (cInt (cInt s.2.1 s.2.2).2.1 (cInt s.2.1 s.2.2).2.2).1) (cInt (cInt s.2.1 s.2.2).2.1 (cInt s.2.1 s.2.2).2.2).2.1 (cInt (cInt s.2.1 s.2.2).2.1 (cInt s.2.1 s.2.2).2.2).2.2).1 },
    (lpI (cnt 19 (cInt (cInt s.2.1 s.2.2).2.1 (cInt s.2.1 s.2.2).2.2).1) (cInt (cInt s.2.1 s.2.2).2.1 (cInt s.2.1 s.2.2).2.2).2.1 (cInt (cInt s.2.1 s.2.2).2.1 (cInt s.2.1 s.2.2).2.2).2.2).2)
  else if p = 6 then ({ s.1 with vep := (cInt s.2.1 s.2.2).1, mems := s.1.mems ++ (lpM (cnt 19 (cInt (cInt s.2.1 s.2.2).2.1 (cInt s.2.1 s.2.2).2.2).1) (cInt (cInt s.2.1 s.2.2).2.1 (cInt s.2.1 s.2.2).2.2).2.1 (cInt (cInt s.2.1 s.2.2).2.1 (cInt s.2.1 s.2.2).2.2).2.2).1 },
    (lpM (cnt 19 (cInt (cInt s.2.1 s.2.2).2.1 (cInt s.2.1 s.2.2).2.2).1) (cInt (cInt s.2.1 s.2.2).2.1 (cInt s.2.1 s.2.2).2.2).2.1 (cInt (cInt s.2.1 s.2.2).2.1 (cInt s.2.1 s.2.2).2.2).2.2).2)
  else getP s p
/-- The note that the document reads (kinds that are none: nothing more), what is left, whether something was none. -/
def rawQ (b : List UInt8) : St := (partsL (cInt b false).1).foldl getQ (Nt.ofKind (cInt b false).1, (cInt b false).2)
theorem getQ_put {n : Nt} (hok : n.ok) (hm : n.may = true) (o : Nt) {p : Int} (hp : p = 0 ∨ p = 1 ∨ p = 2 ∨ p = 3 ∨ p = 4 ∨ p = 5 ∨ p = 6) (ha : o.args = []) (hv : o.mems = []) (R : List UInt8) :
    getQ (o, putP n p ++ R, false) p = (setP n o p, R, false) := by
  by_cases h4 : p = 4
  · subst h4
    unfold Nt.may at hm
    simp only [Bool.and_eq_true, decide_eq_true_eq] at hm
    obtain ⟨⟨⟨⟨⟨⟨⟨_, h1⟩, h2⟩, h3⟩, h4⟩, h5⟩, h6⟩, h7⟩ := hm
    unfold getQ putP setP
    simp only [if_true, Int.reduceEq, if_false]
    have hl : i64 (n.args.length : Int) := by unfold i64; omega
    have hcn : cnt 19 (n.args.length : Int) = n.args.length := by unfold cnt; omega
    rw [List.append_assoc, cInt_num hok.fn]
    simp only
    rw [List.append_assoc, cInt_num hl]
    simp only
    rw [hcn, lpI_nums _ hok.args, ha]
    rfl
  · by_cases h6 : p = 6
    · subst h6
      unfold Nt.may viewB at hm
      simp only [Bool.and_eq_true, decide_eq_true_eq] at hm
      obtain ⟨⟨⟨⟨⟨⟨⟨_, h1⟩, h2⟩, h3⟩, h4⟩, h5⟩, h6⟩, h7, h8⟩ := hm
      unfold getQ putP setP
      simp only [if_true, Int.reduceEq, if_false]
      have hl : i64 (n.mems.length : Int) := by unfold i64; omega
      have hcn : cnt 19 (n.mems.length : Int) = n.mems.length := by unfold cnt; omega
      rw [List.append_assoc, cInt_num hok.vep]
      simp only
      rw [List.append_assoc, cInt_num hl]
      simp only
      rw [hcn, lpM_mems _ hok.mems, hv]
      rfl
    · unfold getQ
      rw [if_neg h4, if_neg h6]
      exact getP_put hok hm o hp ha hv R
/-- A note's bytes are read as it. -/
theorem rawQ_bytes {n : Nt} (hok : n.ok) (hm : n.may = true) (R : List UInt8) : rawQ (n.bytes ++ R) = (n.clear, R, false) := by
  have hK := may_kind hm
  unfold rawQ Nt.bytes Nt.clear
  rw [List.append_assoc, cInt_num hok.kind, if_pos hK]
  simp only
  have key : ∀ k, isK k = true → (partsL k).foldl getQ (Nt.ofKind k, (partsL k).flatMap (putP n) ++ R, false) = ((partsL k).foldl (setP n) (Nt.ofKind k), R, false) := by
    intro k hk
    rcases kinds hk with rfl | rfl | rfl | rfl | rfl | rfl | rfl | rfl | rfl | rfl
    · rw [show partsL 1 = [2, 1] from rfl]
      simp only [List.foldl_cons, List.foldl_nil, List.flatMap_cons, List.flatMap_nil, List.append_nil, List.append_assoc]
      rw [getQ_put hok hm, getQ_put hok hm]
      all_goals first | rfl | omega
    · rw [show partsL 2 = [6] from rfl]
      simp only [List.foldl_cons, List.foldl_nil, List.flatMap_cons, List.flatMap_nil, List.append_nil, List.append_assoc]
      rw [getQ_put hok hm]
      all_goals first | rfl | omega
    · rw [show partsL 3 = [0, 2] from rfl]
      simp only [List.foldl_cons, List.foldl_nil, List.flatMap_cons, List.flatMap_nil, List.append_nil, List.append_assoc]
      rw [getQ_put hok hm, getQ_put hok hm]
      all_goals first | rfl | omega
    · rw [show partsL 4 = [0, 1, 3, 4] from rfl]
      simp only [List.foldl_cons, List.foldl_nil, List.flatMap_cons, List.flatMap_nil, List.append_nil, List.append_assoc]
      rw [getQ_put hok hm, getQ_put hok hm, getQ_put hok hm, getQ_put hok hm]
      all_goals first | rfl | omega
    · rw [show partsL 5 = [0, 1, 2, 3] from rfl]
      simp only [List.foldl_cons, List.foldl_nil, List.flatMap_cons, List.flatMap_nil, List.append_nil, List.append_assoc]
      rw [getQ_put hok hm, getQ_put hok hm, getQ_put hok hm, getQ_put hok hm]
      all_goals first | rfl | omega
    · rw [show partsL 6 = [0, 1, 2, 3] from rfl]
      simp only [List.foldl_cons, List.foldl_nil, List.flatMap_cons, List.flatMap_nil, List.append_nil, List.append_assoc]
      rw [getQ_put hok hm, getQ_put hok hm, getQ_put hok hm, getQ_put hok hm]
      all_goals first | rfl | omega
    · rw [show partsL 7 = [0, 2, 3, 5] from rfl]
      simp only [List.foldl_cons, List.foldl_nil, List.flatMap_cons, List.flatMap_nil, List.append_nil, List.append_assoc]
      rw [getQ_put hok hm, getQ_put hok hm, getQ_put hok hm, getQ_put hok hm]
      all_goals first | rfl | omega
    · rw [show partsL 8 = [3, 5] from rfl]
      simp only [List.foldl_cons, List.foldl_nil, List.flatMap_cons, List.flatMap_nil, List.append_nil, List.append_assoc]
      rw [getQ_put hok hm, getQ_put hok hm]
      all_goals first | rfl | omega
    · rw [show partsL 9 = [2, 3] from rfl]
      simp only [List.foldl_cons, List.foldl_nil, List.flatMap_cons, List.flatMap_nil, List.append_nil, List.append_assoc]
      rw [getQ_put hok hm, getQ_put hok hm]
      all_goals first | rfl | omega
    · rw [show partsL 10 = [0, 2, 3, 4] from rfl]
      simp only [List.foldl_cons, List.foldl_nil, List.flatMap_cons, List.flatMap_nil, List.append_nil, List.append_assoc]
      rw [getQ_put hok hm, getQ_put hok hm, getQ_put hok hm, getQ_put hok hm]
      all_goals first | rfl | omega
  exact key _ hK
theorem IsNote.rawQ {b : List UInt8} {n : Nt} (h : IsNote b n) : rawQ b = (n, [], false) := by
  obtain ⟨h1, h2, h3, h4⟩ := h
  have := rawQ_bytes h1 h3 []
  rw [List.append_nil, h4, h2] at this
  exact this
/-- Are bytes a note's, as the document asks? -/
def rfB (s : St) (b : List UInt8) : Bool := !s.2.2 && (s.1.clear.may && (s.1.pack == b))
theorem rfB_yes {b : List UInt8} (hok : (rawQ b).1.ok) (h : rfB (rawQ b) b = true) : rdB b = true ∧ (rawQ b).1 = rdN b := by
  unfold rfB at h
  simp only [Bool.and_eq_true, beq_iff_eq] at h
  obtain ⟨_, h1, h2⟩ := h
  unfold Nt.pack at h2
  rw [if_pos h1] at h2
  have hi : IsNote b (_root_.Go.Proofs.Ytclpmadecibofaa.rawQ b).1.clear := ⟨clear_ok hok, clear_clear _, h1, h2⟩
  have e := congrArg Prod.fst hi.rawQ
  obtain ⟨r1, r2⟩ := rd_is hi
  exact ⟨r1, by rw [r2]; exact e⟩
theorem rfB_no {b : List UInt8} (hb : b.length ≤ maxLen) (h : rfB (rawQ b) b = false) : rdB b = false := by
  cases hr : rdB b with
  | false => rfl
  | true =>
    have hi := rd_of (readRaw_ok hb) hr
    have e := hi.rawQ
    obtain ⟨h1, h2, h3, h4⟩ := hi
    rw [e] at h
    unfold rfB Nt.pack at h
    simp only at h
    rw [h2, h3, h4] at h
    simp at h
end Go.Proofs.Ytclpmadecibofaa
