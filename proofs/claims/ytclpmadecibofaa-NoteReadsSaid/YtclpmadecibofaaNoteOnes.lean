/-
  What bytes are as a note: plain lemmas.
-/
import Derived.Test.YtclpmadecibofaaNoteReadP
import Derived.Test.YtclpmadecibofaaNotePack
namespace Go.Proofs.Ytclpmadecibofaa
open Go.RowKit
set_option linter.unusedVariables false
set_option linter.unusedSimpArgs false

theorem IsNote.cut {b R : List UInt8} {n m : Nt} (h : IsNote b n) (h2 : IsNote (b ++ R) m) : R = [] := IsNote.prefix h h2
theorem getI_ok : ∀ (j : Nat) (R : List UInt8) (bad : Bool), ∀ x ∈ (getI j R bad).1, i64 x
  | 0, R, bad, x, h => by cases h
  | j + 1, R, bad, x, h => by
    have h : x ∈ (cInt R bad).1 :: (getI j (cInt R bad).2.1 (cInt R bad).2.2).1 := h
    rcases List.mem_cons.1 h with rfl | h
    · exact cInt_i64 R bad
    · exact getI_ok j _ _ x h
theorem getM_ok : ∀ (j : Nat) (R : List UInt8) (bad : Bool), ∀ m ∈ (getM j R bad).1, i64 m.1 ∧ i64 m.2
  | 0, R, bad, x, h => by cases h
  | j + 1, R, bad, x, h => by
    have h : x ∈ ((cInt R bad).1, (cInt (cInt R bad).2.1 (cInt R bad).2.2).1) :: (getM j (cInt (cInt R bad).2.1 (cInt R bad).2.2).2.1 (cInt (cInt R bad).2.1 (cInt R bad).2.2).2.2).1 := h
    rcases List.mem_cons.1 h with rfl | h
    · exact ⟨cInt_i64 R bad, cInt_i64 _ _⟩
    · exact getM_ok j _ _ x h
theorem cBytes_size (R : List UInt8) (bad : Bool) : (cBytes R bad).1.length ≤ R.length := by
  have := cInt_len R bad
  unfold cBytes
  generalize cInt R bad = q at *
  obtain ⟨z, R2, bad2⟩ := q
  simp only
  split
  · simp
  · simp only [List.length_take]; simp only at this; omega
theorem getP_ok (s : St) (p : Int) (h : s.1.ok) (hR : s.2.1.length ≤ maxLen) : (getP s p).1.ok := by
  obtain ⟨n, R, bad⟩ := s
  simp only at h hR
  have h1 := cInt_i64 R bad
  have h2 := cInt_i64 (cInt R bad).2.1 (cInt R bad).2.2
  unfold getP
  simp only
  split
  · exact ⟨h.kind, h.node, h.life, h1, h.fn, h.args, h.err, h.val, h.vep, h.mems, h.id⟩
  split
  · exact ⟨h.kind, h.node, h1, h.epoch, h.fn, h.args, h.err, h.val, h.vep, h.mems, h.id⟩
  split
  · exact ⟨h.kind, h1, h.life, h.epoch, h.fn, h.args, h.err, h.val, h.vep, h.mems, h.id⟩
  split
  · exact ⟨h.kind, h.node, h.life, h.epoch, h.fn, h.args, h.err, h.val, h.vep, h.mems, by
      have := cBytes_size R bad
      show (cBytes R bad).1.toArray.size ≤ maxLen
      rw [List.size_toArray]
      omega⟩
  split
  · refine ⟨h.kind, h.node, h.life, h.epoch, h1, fun x hx => ?_, h.err, h.val, h.vep, h.mems, h.id⟩
    rcases List.mem_append.1 hx with hx | hx
    · exact h.args x hx
    · exact getI_ok _ _ _ x hx
  split
  · exact ⟨h.kind, h.node, h.life, h.epoch, h.fn, h.args, h1, h2, h.vep, h.mems, h.id⟩
  · refine ⟨h.kind, h.node, h.life, h.epoch, h.fn, h.args, h.err, h.val, h1, fun x hx => ?_, h.id⟩
    rcases List.mem_append.1 hx with hx | hx
    · exact h.mems x hx
    · exact getM_ok _ _ _ x hx
theorem fold_ok : ∀ (l : List Int) (s : St), s.1.ok → s.2.1.length ≤ maxLen → (l.foldl getP s).1.ok
  | [], s, h, _ => h
  | p :: l, s, h, hR => fold_ok l (getP s p) (getP_ok s p h hR) (Nat.le_trans (getP_le s p).1 hR)
theorem readRaw_ok {b : List UInt8} (hb : b.length ≤ maxLen) : (readRaw b).1.ok :=
  fold_ok _ _ (ofKind_ok (cInt_i64 b false)) (Nat.le_trans (cInt_len b false) hb)
theorem rdE_no {b : List UInt8} (h : rdB b = false) : rdE b = 4 := by simp [rdE, h]
theorem rdE_yes {b : List UInt8} (h : rdB b = true) : rdE b = 0 := by simp [rdE, h]
theorem rd_take {b : List UInt8} {n : Nt} (h : IsNote b n) {k : Nat} (hk : k < b.length) (hb : b.length ≤ maxLen) : rdE (b.take k) = 4 := by
  cases hr : rdB (b.take k) with
  | false => exact rdE_no hr
  | true =>
    have h2 := rd_of (readRaw_ok (by rw [List.length_take]; omega)) hr
    have h3 := h2.cut (R := b.drop k) (m := n) (by rw [List.take_append_drop]; exact h)
    have := congrArg List.length h3
    rw [List.length_drop] at this
    simp at this
    omega
theorem rd_more {b m : List UInt8} {n : Nt} (h : IsNote b n) (hm : m ≠ []) (hb : (b ++ m).length ≤ maxLen) : rdE (b ++ m) = 4 := by
  cases hr : rdB (b ++ m) with
  | false => exact rdE_no hr
  | true => exact absurd (h.cut (rd_of (readRaw_ok hb) hr)) hm
theorem bytes_pos (n : Nt) : 1 ≤ n.bytes.length := by
  have := (num_len n.kind).1
  unfold Nt.bytes
  rw [List.length_append]
  omega
theorem bytes_max {n : Nt} (h : n.may = true) : n.bytes.length ≤ 4010 := by
  have h1 := (num_len n.kind).2
  have h2 := fold_len h 99
  rw [List.take_of_length_le (by have := parts_len n.kind; omega)] at h2
  unfold Nt.bytes
  rw [List.length_append]
  omega
theorem pack_is {n : Nt} (hok : n.ok) (h : n.packErr = 0) : n.pack = n.clear.bytes ∧ n.clear.may = true ∧ IsNote n.clear.bytes n.clear := by
  have hm : n.clear.may = true := by
    cases hm : n.clear.may with
    | true => rfl
    | false => unfold Nt.packErr at h; rw [hm] at h; simp at h
  exact ⟨by unfold Nt.pack; rw [if_pos hm], hm, clear_ok hok, clear_clear n, hm, rfl⟩
end Go.Proofs.Ytclpmadecibofaa
