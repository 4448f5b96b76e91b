/-
  An element of a slice that reads as a list.
-/
import Derived.Test.YtflaliomkfbagaaBase
namespace Go.Proofs.Ytflaliomkfbagaa
open Go.RowKit

theorem Rds.getMap {α : Type} {f : α → Value} {w : World} {A : Option Addr} {n : Nat} {l : List α} (h : Rds w 1 A n (l.map f)) {k : Nat} (hk : k < n) :
    ∃ ad x, A = some ad ∧ l[k]? = some x ∧ w.cell? (ad.add k) = some (f x) := by
  obtain ⟨ad, u, h1, h2, h3⟩ := h.at_ hk
  rw [List.getElem?_map] at h2
  cases hx : l[k]? with
  | none => simp [hx] at h2
  | some x => simp [hx] at h2; exact ⟨ad, x, h1, rfl, by rw [h2]; exact h3⟩
theorem Rds.getI {w : World} {A : Option Addr} {n : Nat} {l : List Int} (h : Rds w 1 A n (iv l)) {k : Nat} (hk : k < n) :
    ∃ ad x, A = some ad ∧ l[k]? = some x ∧ w.cell? (ad.add k) = some (.int .i64 x) := h.getMap (f := fun n : Int => .int .i64 n) hk
theorem Rds.getB {w : World} {A : Option Addr} {n : Nat} {l : List UInt8} (h : Rds w 1 A n (bv l)) {k : Nat} (hk : k < n) :
    ∃ ad x, A = some ad ∧ l[k]? = some x ∧ w.cell? (ad.add k) = some (.int .u8 x.toNat) := h.getMap (f := fun b : UInt8 => .int .u8 b.toNat) hk
theorem Rds.lenMap {α : Type} {f : α → Value} {w : World} {A : Option Addr} {n : Nat} {l : List α} (h : Rds w 1 A n (l.map f)) : n = l.length := by
  have := h.1; rw [List.length_map] at this; omega
end Go.Proofs.Ytflaliomkfbagaa
