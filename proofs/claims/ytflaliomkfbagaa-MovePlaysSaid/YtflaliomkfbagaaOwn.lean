/-
  Bytes: append onto a row of bytes; slices.Clone of bytes.
-/
import Derived.Test.YtflaliomkfbagaaRows
import Derived.Test.YtflaliomkfbagaaBase
namespace Go.Proofs.Ytflaliomkfbagaa
open Go.RowKit

theorem info_u8 : (Try.prog.info? 5).map (fun i => (i.zero, i.size, i.bytes)) = some (some (.int .u8 0), 1, 1) := by kernel_rfl
theorem eql_bytes_nil (w : World) (a : Option Addr) (n c : Nat) : (binOp .eql 34 (.slice a n c) (.slice none 0 0)).run Try.prog w = .ok (.bool a.isNone) w := Lib.run_eql_slice_nil w _ _ a n c 0 0 Try.underlying34

/-- 'append' onto a row of bytes of the call's own. -/
theorem app8 {w : World} {ops : Array Oper} {rest : List Oper} {o : Oper} {a : Act} {Q : Exit → Act → World → Prop} (hgd : o.guard = none) (s x : Operand)
    (ho : o.op = .call { callee := .builtin .append, args := #[s, x], argTypes := #[34, 34] })
    {base : Nat} {v : Value} {n : Nat} {xs : List Value} (hown : w.ownsRow base 5 1 v n xs) (hs : a.eval s = v)
    {A : Option Addr} {m c : Nat} {news : List Value} (hr : Rds w 1 A m news) (hx : a.eval x = .slice A m c) (h1 : ∀ u ∈ news, u.oneCell' = true)
    (hb : n + m ≤ 140737488355328) (hbase : base ≤ w.heap.size)
    (h : ∀ v2 w2, w2.ownsRow base 5 1 v2 (n + m) (xs ++ news) → Chg (fun g => v.ownBlock = some g) w w2 → (v2.ownBlock = v.ownBlock ∨ v2.ownBlock = some w.heap.size) → wpList Try.prog ops Q rest (a.put o.dst v2) w2) : wpList Try.prog ops Q (o :: rest) a w := by
  obtain ⟨i0, hi, hz0, hz1, hz2⟩ := info_parts info_u8
  exact wpList_append_rds w hgd s x 34 ho base 5 i0 (.int .u8 0) 1 1 Try.underlying34 hi hz0 hz1 hz2 rfl (by decide) v n xs hs hown A m c news hx hr h1 (by unfold maxLen; omega) (by omega) hbase
    fun v2 w2 h2 h3 h4 => h v2 w2 h2 (Chg.of_grown h3) h4

/-- The value v is the call's own row of the bytes L. -/
def Own8 (w : World) (base : Nat) (v : Value) (L : List UInt8) : Prop := w.ownsRow base 5 1 v L.length (bv L)

theorem Own8.nil (w : World) (base : Nat) : Own8 w base (.slice none 0 0) [] := World.ownsRow_nil _ _ _ _
theorem Own8.alloc {w : World} {base : Nat} {v : Value} {L : List UInt8} (h : Own8 w base v L) (o : Obj) : Own8 (w.alloc o) base v L := World.ownsRow.alloc h o
theorem Own8.chg {S : Nat → Prop} {w w1 : World} {base : Nat} {v : Value} {L : List UInt8} (h : Own8 w base v L) (hc : Chg S w w1) (hn : ∀ g, v.ownBlock = some g → ¬ S g) : Own8 w1 base v L := Chg.own h hc hn
theorem Own8.non {w w1 : World} {base : Nat} {v : Value} {L : List UInt8} (h : Own8 w base v L) (hc : Chg Non w w1) : Own8 w1 base v L := Chg.own h hc fun _ _ => id
theorem Own8.rds {w : World} {base : Nat} {v : Value} {L : List UInt8} (h : Own8 w base v L) : ∃ A c, v = .slice A L.length c ∧ L.length ≤ c ∧ c ≤ maxLen ∧ Rds w 1 A L.length (bv L) := by
  obtain ⟨A, c, rfl, h1, h2, _⟩ := own_slice h
  exact ⟨A, c, rfl, h1, h2, Rds.of_own h⟩
/-- The same, its length a letter. -/
theorem Own8.open_ {w : World} {base : Nat} {v : Value} {L : List UInt8} (h : Own8 w base v L) : ∃ A n c, v = .slice A n c ∧ Hid (n = L.length) ∧ n ≤ c ∧ c ≤ maxLen ∧ Rds w 1 A n (bv L) := by
  obtain ⟨A, c, h1, h2, h3, h4⟩ := h.rds
  exact ⟨A, _, c, h1, rfl, h2, h3, h4⟩
theorem Own8.chgApp {S : Nat → Prop} {w w1 w2 : World} {base : Nat} {v : Value} {L : List UInt8} (h : Chg S w w1) (hown : Own8 w1 base v L) (hb : w.heap.size ≤ base) (k : Chg (fun g => v.ownBlock = some g) w1 w2) : Chg S w w2 :=
  h.app hown hb k

/-- 'append(b, x...)': bytes. -/
theorem app8b {w : World} {ops : Array Oper} {rest : List Oper} {o : Oper} {a : Act} {Q : Exit → Act → World → Prop} (hgd : o.guard = none) (s x : Operand)
    (ho : o.op = .call { callee := .builtin .append, args := #[s, x], argTypes := #[34, 34] })
    {base : Nat} {v : Value} {L : List UInt8} (hown : Own8 w base v L) (hs : a.eval s = v)
    {A : Option Addr} {m c : Nat} {M : List UInt8} (hr : Rds w 1 A m (bv M)) (hx : a.eval x = .slice A m c)
    (hb : L.length + M.length ≤ 140737488355328) (hbase : base ≤ w.heap.size)
    (h : ∀ v2 w2, Own8 w2 base v2 (L ++ M) → Chg (fun g => v.ownBlock = some g) w w2 → (v2.ownBlock = v.ownBlock ∨ v2.ownBlock = some w.heap.size) → wpList Try.prog ops Q rest (a.put o.dst v2) w2) : wpList Try.prog ops Q (o :: rest) a w := by
  have hm : m = M.length := by have := hr.1; rw [bv_len] at this; omega
  subst hm
  exact app8 hgd s x ho hown hs hr hx (bv_one _) hb hbase fun v2 w2 h2 h3 h4 => h v2 w2 (by unfold Own8; rw [List.length_append, bv_app]; exact h2) h3 h4

/-- 'append(b, q)': one byte, which the statement has just laid into a block of its own. -/
theorem app8c {w : World} {ops : Array Oper} {rest : List Oper} {o : Oper} {a : Act} {Q : Exit → Act → World → Prop} (hgd : o.guard = none) (s x : Operand)
    (ho : o.op = .call { callee := .builtin .append, args := #[s, x], argTypes := #[34, 34] })
    {base : Nat} {v : Value} {L : List UInt8} (hown : Own8 w base v L) (hs : a.eval s = v) {c : Nat} {y : Int} (hx : a.eval x = .slice (some ⟨w.heap.size, 0, none⟩) 1 c)
    (q : UInt8) (hy : y = (q.toNat : Int)) (hb : L.length + 1 ≤ 140737488355328) (hbase : base ≤ w.heap.size)
    (h : ∀ v2 w2, Own8 w2 base v2 (L ++ [q]) → Chg (fun g => v.ownBlock = some g) w w2 → wpList Try.prog ops Q rest (a.put o.dst v2) w2) : wpList Try.prog ops Q (o :: rest) a (w.alloc (.cells #[.int .u8 y] 5)) := by
  subst hy
  exact app8b hgd s x ho (hown.alloc _) hs (M := [q]) (Rds.one w _ _) hx hb (by simp; omega) fun v2 w2 h2 h3 _ => h v2 w2 h2 (((Chg.refl _ w).alloc _).trans h3)
end Go.Proofs.Ytflaliomkfbagaa
