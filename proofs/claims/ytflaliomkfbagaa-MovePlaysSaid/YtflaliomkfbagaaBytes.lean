/-
  Bytes of the call's own: what a row looks like, a store into it.
-/
import Derived.Test.YtflaliomkfbagaaClone
namespace Go.Proofs.Ytflaliomkfbagaa
open Go.RowKit

section
variable {w : World} {base : Nat} {v : Value} {L : List UInt8}
theorem Own8.form (h : Own8 w base v L) (h0 : 0 < L.length) : ∃ g c, v = .slice (some ⟨g, 0, none⟩) L.length c ∧ base ≤ g ∧ g < w.heap.size ∧ L.length ≤ c ∧ c ≤ maxLen := by
  obtain ⟨g, c, h1, h2, h3⟩ := World.ownsRow.form h h0
  obtain ⟨A, c2, h4, h5, h6, _⟩ := own_slice h
  rw [h1] at h4
  injection h4 with _ _ h4
  subst h4
  exact ⟨g, c, h1, h2, h3, h5, h6⟩
theorem Own8.rdsN {A : Option Addr} {n c : Nat} (h : Own8 w base (.slice A n c) L) : Rds w 1 A n (bv L) := by
  have hn : n = L.length := by
    obtain ⟨A, c2, h4, _⟩ := own_slice h
    injection h4
  subst hn
  exact Rds.of_own h
theorem Rds.take8 {w : World} {A : Option Addr} {n k : Nat} {L M : List UInt8} (h : Rds w 1 A n (bv L)) (hk : k ≤ n) (hm : L.take k = M) : Rds w 1 A k (bv M) := by
  have := h.upto hk
  rw [show (bv L).take (k * 1) = bv M by rw [← hm]; simp [bv]] at this
  exact this
theorem Rds.drop8 {w : World} {A : Option Addr} {n k c : Nat} {L M : List UInt8} (h : Rds w 1 A n (bv L)) (hk : k ≤ n) (hc : n ≤ c) (hm : L.drop k = M) : Rds w 1 (Go.Proofs.Ytflaliomkfbagaa.cutA A c k 1) (n - k) (bv M) := by
  have := h.cutA hk hc
  rw [show (bv L).drop (k * 1) = bv M by rw [← hm]; simp [bv]] at this
  exact this
theorem Own8.formN (h : Own8 w base v L) (h0 : 0 < L.length) : ∃ g n c, v = .slice (some ⟨g, 0, none⟩) n c ∧ Hid (n = L.length) ∧ 1 ≤ n ∧ base ≤ g ∧ g < w.heap.size ∧ n ≤ c ∧ c ≤ maxLen := by
  obtain ⟨g, c, h1, h2, h3, h4, h5⟩ := h.form h0
  exact ⟨g, _, c, h1, rfl, h0, h2, h3, h4, h5⟩
theorem Own8.cell {g c n : Nat} (h : Own8 w base (.slice (some ⟨g, 0, none⟩) n c) L) {j : Nat} {q : UInt8} (hj : L[j]? = some q) : w.cell? ⟨g, j, none⟩ = some (.int .u8 q.toNat) := by
  have hn : n = L.length := by
    obtain ⟨A, c2, h4, _⟩ := own_slice h
    injection h4
  subst hn
  have hlt := (List.getElem?_eq_some_iff.1 hj).1
  unfold Own8 at h
  rw [h.cellAt j (by omega), bv_get, hj]
  rfl
theorem Own8.frozen {g c n : Nat} (h : Own8 w base (.slice (some ⟨g, 0, none⟩) n c) L) (j : Nat) : w.frozen? ⟨g, j, none⟩ = false := by
  have hn : n = L.length := by
    obtain ⟨A, c2, h4, _⟩ := own_slice h
    injection h4
  subst hn
  exact World.ownsRow.frozenAt h j
theorem Own8.put {g c n : Nat} (h : Own8 w base (.slice (some ⟨g, 0, none⟩) n c) L) (j : Nat) (q : UInt8) : Own8 (w.setCell ⟨g, j, none⟩ (.int .u8 q.toNat)) base (.slice (some ⟨g, 0, none⟩) n c) (L.set j q) := by
  have hn : n = L.length := by
    obtain ⟨A, c2, h4, _⟩ := own_slice h
    injection h4
  subst hn
  have := (World.ownsRow.stored h j (.int .u8 q.toNat)).1
  unfold Own8
  rw [show bv (L.set j q) = (bv L).set j (.int .u8 q.toNat) by simp [bv, List.map_set], List.length_set]
  exact this
end
end Go.Proofs.Ytflaliomkfbagaa
