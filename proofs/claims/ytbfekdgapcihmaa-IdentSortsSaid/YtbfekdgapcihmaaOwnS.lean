/-
  Names in a row of one's own.
-/
import Derived.Test.YtbfekdgapcihmaaRows
import Derived.Test.YtbfekdgapcihmaaBase
namespace Go.Proofs.Ytbfekdgapcihmaa
open Go.RowKit

theorem info_id : (Try.prog.info? 25).map (fun i => (i.zero, i.size, i.bytes)) = some (some (.string ⟨#[]⟩), 1, 16) := by kernel_rfl
theorem sv_one (l : List ByteArray) : ∀ u ∈ l.map Value.string, u.oneCell' = true := by
  intro u hu
  simp only [List.mem_map] at hu
  obtain ⟨b, _, rfl⟩ := hu
  rfl

/-- The value v is the call's own row of the names ss. -/
def OwnS (w : World) (base : Nat) (v : Value) (ss : List ByteArray) : Prop := w.ownsRow base 25 1 v ss.length (ss.map Value.string)
theorem OwnS.nil (w : World) (base : Nat) : OwnS w base (.slice none 0 0) [] := World.ownsRow_nil _ _ _ _
theorem OwnS.alloc {w : World} {base : Nat} {v : Value} {L : List ByteArray} (h : OwnS w base v L) (o : Obj) : OwnS (w.alloc o) base v L := World.ownsRow.alloc h o
theorem OwnS.non {w w1 : World} {base : Nat} {v : Value} {L : List ByteArray} (h : OwnS w base v L) (hc : Chg Non w w1) : OwnS w1 base v L := Chg.own h hc fun _ _ => id
theorem OwnS.open_ {w : World} {base : Nat} {v : Value} {L : List ByteArray} (h : OwnS w base v L) : ∃ A n c, v = .slice A n c ∧ Hid (n = L.length) ∧ n ≤ c ∧ c ≤ maxLen ∧ Rds w 1 A n (L.map Value.string) := by
  obtain ⟨A, c, rfl, h1, h2, _⟩ := own_slice h
  exact ⟨A, _, c, rfl, rfl, h1, h2, Rds.of_own h⟩
theorem OwnS.chgApp {S : Nat → Prop} {w w1 w2 : World} {base : Nat} {v : Value} {L : List ByteArray} (hown : OwnS w1 base v L) (h : Chg S w w1) (hb : w.heap.size ≤ base) (k : Chg (fun g => v.ownBlock = some g) w1 w2) : Chg S w w2 :=
  h.app hown hb k

/-- 'append(l, x)': one name, which the statement has just laid into a block of its own. -/
theorem appSc {w : World} {ops : Array Oper} {rest : List Oper} {o : Oper} {a : Act} {Q : Exit → Act → World → Prop} (hgd : o.guard = none) (s x : Operand)
    (ho : o.op = .call { callee := .builtin .append, args := #[s, x], argTypes := #[24, 24] })
    {base : Nat} {v : Value} {L : List ByteArray} (hown : OwnS w base v L) (hs : a.eval s = v) {c : Nat} {y : ByteArray} (hx : a.eval x = .slice (some ⟨w.heap.size, 0, none⟩) 1 c)
    (hb : L.length + 1 ≤ 8796093022208) (hbase : base ≤ w.heap.size)
    (h : ∀ v2 w2, OwnS w2 base v2 (L ++ [y]) → Chg (fun g => v.ownBlock = some g) w w2 → wpList Try.prog ops Q rest (a.put o.dst v2) w2) : wpList Try.prog ops Q (o :: rest) a (w.alloc (.cells #[.string y] 25)) := by
  obtain ⟨i0, hi, hz0, hz1, hz2⟩ := info_parts info_id
  exact wpList_append_rds (w.alloc (.cells #[.string y] 25)) hgd s x 24 ho base 25 i0 (.string ⟨#[]⟩) 1 16 Try.underlying24 hi hz0 hz1 hz2 rfl (by decide) v _ _ hs (World.ownsRow.alloc hown _) _ 1 c [.string y] hx (Rds.one w _ _) (sv_one [y]) (by unfold maxLen; omega) (by omega) (by simp; omega)
    fun v2 w2 h2 h3 _ => h v2 w2 (by unfold OwnS; rw [List.length_append, List.map_append]; exact h2) (((Chg.refl _ w).alloc _).trans (Chg.of_grown h3))
end Go.Proofs.Ytbfekdgapcihmaa
