/-
  slices.Clone of bytes.
-/
import Derived.Test.YtflaliomkfbagaaOwn
namespace Go.Proofs.Ytflaliomkfbagaa
open Go.RowKit


theorem clone_any (A : Option Addr) (n c : Nat) (L : List UInt8) (w : World) (hr : Rds w 1 A n (bv L)) (hn : L.length ≤ 140737488351232) :
    Calls Try.prog 75 #[.slice A n c] w fun e w2 => ∃ v, e = .returned v ∧ Own8 w2 w.heap.size v L ∧ Chg Non w w2 := by
  have q := eql_bytes_nil
  have hnl : n = L.length := by have := hr.1; rw [bv_len] at this; omega
  subst hnl
  cases A with
  | none =>
    have h0 : L.length = 0 := by
      rcases Nat.eq_zero_or_pos L.length with h0 | h0
      · exact h0
      · obtain ⟨_, h, _⟩ := hr.2 h0; cases h
    have hx : L = [] := List.eq_nil_of_length_eq_zero h0
    subst hx
    go_enter Try.func75, Try.ntmps75
    go_wp2_with fail
    go_ret
    exact ⟨_, rfl, Own8.nil _ _, Chg.refl _ _⟩
  | some ad =>
    have hown : Own8 (w.alloc (.cells #[] 5)) w.heap.size (.slice (some ⟨w.heap.size, 0, none⟩) 0 0) [] := World.ownsRow_made w #[] 0 (base := w.heap.size) (e := 5) (size := 1) (Nat.le_refl _) (by unfold maxLen; omega) rfl
    have hr2 := hr.non ((Chg.refl _ w).alloc (.cells #[] 5))
    go_enter Try.func75, Try.ntmps75
    go_wp2_with (at_builtin; refine app8b rfl (.tmp 5) (.tmp 6) rfl hown rfl hr2 rfl ?_ ?_ ?_; rotate_right; intro v2 w2 h2 h3 h4)
    · go_ret
      exact ⟨_, rfl, by simpa using h2, Own8.chgApp ((Chg.refl _ w).alloc _) hown (Nat.le_refl _) h3⟩
    · simp; omega
    · simp
end Go.Proofs.Ytflaliomkfbagaa
