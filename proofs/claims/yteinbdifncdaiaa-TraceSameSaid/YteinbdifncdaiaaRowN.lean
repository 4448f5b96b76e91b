/-
  append, with the row that comes out laid open: onto nil ('append([]T(nil), s...)'), onto a row of one's own.
-/
import Derived.Test.YteinbdifncdaiaaRow
namespace Go.Proofs.Yteinbdifncdaiaa
open Go.RowKit
set_option linter.unusedVariables false

section
variable {P : Program} {K : RowKind P} {w : World} {base n : Nat} {v : Value} {xs : List Value} {ops : Array Oper} {rest : List Oper} {o : Oper} {a : Act} {Q : Exit → Act → World → Prop}
theorem appRn (hgd : o.guard = none) (x : Operand) (ho : o.op = .call { callee := .builtin .append, args := #[.const (.slice none 0 0), x], argTypes := #[K.t, K.t] })
    {A : Option Addr} {m c : Nat} {news : List Value} (hr : Rds w K.size A m news) (hx : a.eval x = .slice A m c) (h1 : ∀ u ∈ news, u.oneCell' = true) (hb : m ≤ 1099511627776)
    (h : ∀ A2 c2 w2, OwnR K w2 w.heap.size (.slice A2 m c2) m news → Chg Non w w2 → wpList P ops Q rest (a.put o.dst (.slice A2 m c2)) w2) : wpList P ops Q (o :: rest) a w := by
  refine appR hgd _ x ho (OwnR.nil K w w.heap.size) rfl hr hx h1 (by omega) (Nat.le_refl _) fun v2 w2 h2 h3 _ => ?_
  simp only [Nat.zero_add, List.nil_append] at h2
  obtain ⟨A2, c2, rfl, _⟩ := h2.open_
  exact h A2 c2 w2 h2 (h3.mono fun _ e => by cases e)
theorem appRs (hgd : o.guard = none) (s x : Operand) (ho : o.op = .call { callee := .builtin .append, args := #[s, x], argTypes := #[K.t, K.t] })
    (hown : OwnR K w base v n xs) (hs : a.eval s = v) {A : Option Addr} {m c : Nat} {news : List Value} (hr : Rds w K.size A m news) (hx : a.eval x = .slice A m c) (h1 : ∀ u ∈ news, u.oneCell' = true)
    (hb : n + m ≤ 1099511627776) (hbase : base ≤ w.heap.size)
    (h : ∀ A2 c2 w2, OwnR K w2 base (.slice A2 (n + m) c2) (n + m) (xs ++ news) → Chg (fun g => v.ownBlock = some g) w w2 → (∀ b, (Value.slice A2 (n + m) c2).ownBlock = some b → v.ownBlock = some b ∨ w.heap.size ≤ b) → wpList P ops Q rest (a.put o.dst (.slice A2 (n + m) c2)) w2) : wpList P ops Q (o :: rest) a w := by
  refine appR hgd s x ho hown hs hr hx h1 hb hbase fun v2 w2 h2 h3 h4 => ?_
  obtain ⟨A2, c2, rfl, _⟩ := h2.open_
  refine h A2 c2 w2 h2 h3 fun b hb => ?_
  rcases h4 with h4 | h4
  · exact .inl (h4 ▸ hb)
  · rw [h4] at hb
    exact .inr (Nat.le_of_eq (Option.some.inj hb))
theorem appR1s (hgd : o.guard = none) (s x : Operand) (ho : o.op = .call { callee := .builtin .append, args := #[s, x], argTypes := #[K.t, K.t] })
    (hown : OwnR K w base v n xs) (hs : a.eval s = v) {c : Nat} {cs : Array Value} (hcs : cs.size = K.size) (hx : a.eval x = .slice (some ⟨w.heap.size, 0, none⟩) 1 c) (h1 : ∀ u ∈ cs.toList, u.oneCell' = true)
    (hb : n + 1 ≤ 1099511627776) (hbase : base ≤ w.heap.size)
    (h : ∀ A2 c2 w2, OwnR K w2 base (.slice A2 (n + 1) c2) (n + 1) (xs ++ cs.toList) → Chg (fun g => v.ownBlock = some g) w w2 → (∀ b, (Value.slice A2 (n + 1) c2).ownBlock = some b → v.ownBlock = some b ∨ w.heap.size ≤ b) → wpList P ops Q rest (a.put o.dst (.slice A2 (n + 1) c2)) w2) : wpList P ops Q (o :: rest) a (w.alloc (.cells cs K.e)) := by
  refine appR1 hgd s x ho hown hs hcs hx h1 hb hbase fun v2 w2 h2 h3 h4 => ?_
  obtain ⟨A2, c2, rfl, _⟩ := h2.open_
  refine h A2 c2 w2 h2 h3 fun b hb => ?_
  rcases h4 with h4 | h4
  · exact .inl (h4 ▸ hb)
  · rw [h4] at hb
    exact .inr (by have := Option.some.inj hb; omega)
end
end Go.Proofs.Yteinbdifncdaiaa
