/-
  append as an operation of a region that draws its order; slices with two bounds.
-/
import Derived.Test.YtflaliomkfbagaaBytes
import Derived.Test.YtflaliomkfbagaaSteps
namespace Go.Proofs.Ytflaliomkfbagaa
open Go.RowKit

theorem exec_app8b {w : World} {o : Oper} {a : Act} (s x : Operand)
    (ho : o.op = .call { callee := .builtin .append, args := #[s, x], argTypes := #[34, 34] })
    {base : Nat} {v : Value} {L : List UInt8} (hown : Own8 w base v L) (hs : a.eval s = v)
    {A : Option Addr} {m c : Nat} {M : List UInt8} (hr : Rds w 1 A m (bv M)) (hx : a.eval x = .slice A m c)
    (hb : L.length + M.length ≤ 140737488355328) (hbase : base ≤ w.heap.size) :
    ∃ v2 w2, (execOp a.eval o).run Try.prog w = .ok (.value v2) w2 ∧ Own8 w2 base v2 (L ++ M) ∧ Chg (fun g => v.ownBlock = some g) w w2 ∧ (v2.ownBlock = v.ownBlock ∨ v2.ownBlock = some w.heap.size) := by
  obtain ⟨i0, hi, hz0, hz1, hz2⟩ := info_parts info_u8
  have hm : m = M.length := by have := hr.1; rw [bv_len] at this; omega
  subst hm
  obtain ⟨v2, w2, hrun, h2, h3, h4⟩ := run_append_rds (P := Try.prog) w base 34 o.type 5 i0 (.int .u8 0) 1 1 Try.underlying34 hi hz0 hz1 hz2 rfl (by decide) v _ _ hown A _ c _ hr (bv_one _) (by unfold maxLen; omega) (by omega) hbase
  refine ⟨v2, w2, ?_, ?_, Chg.of_grown h3, h4⟩
  · unfold execOp
    simp only [ho, resolve, invoke, builtin, Sem.run_bind, Sem.run_pure, Result.andThen_ok, List.map_toArray, List.map_cons, List.map_nil, hs, hx, hrun]
  · unfold Own8
    rw [List.length_append, bv_app]
    exact h2

theorem settle_app8b {K : Value → World → Prop} {w : World} {o : Oper} {a : Act} (s x : Operand)
    (ho : o.op = .call { callee := .builtin .append, args := #[s, x], argTypes := #[34, 34] })
    {base : Nat} {v : Value} {L : List UInt8} (hown : Own8 w base v L) (hs : a.eval s = v)
    {A : Option Addr} {m c : Nat} {M : List UInt8} (hr : Rds w 1 A m (bv M)) (hx : a.eval x = .slice A m c)
    (hb : L.length + M.length ≤ 140737488355328) (hbase : base ≤ w.heap.size)
    (h : ∀ v2 w2, Own8 w2 base v2 (L ++ M) → Chg (fun g => v.ownBlock = some g) w w2 → (v2.ownBlock = v.ownBlock ∨ v2.ownBlock = some w.heap.size) → K v2 w2) : settle Try.prog K ((execOp a.eval o).run Try.prog w) := by
  obtain ⟨v2, w2, hrun, h2, h3, h4⟩ := exec_app8b s x ho hown hs hr hx hb hbase
  rw [hrun]
  exact h v2 w2 h2 h3 h4

theorem run_slice_two {P : Program} {t e : TypeId} (ht : P.underlying t = some (.slice e)) (size : Nat) (hs : P.cellsOf e = size) (hi : (P.info? e).isSome = true) {kl kh : IntKind} {i j : Int} {k m c : Nat} (hik : i = k) (hjm : j = m) (hk : k ≤ m) (hm : m ≤ c) (A : Option Addr) (n : Nat) (w : World) :
    (Instr.slice t (.slice A n c) (some (.int kl i)) (some (.int kh j)) none).run P w = .ok (.slice (cutA A c k size) (m - k) (c - k)) w := by
  subst hik hjm
  have he : P.elem t = e := by unfold Program.elem; rw [ht]
  rw [run_slice_lh w t A n c (by rw [ht, he]) kl kh (k : Int) (m : Int) (by omega) (by omega) (by omega), he]
  obtain ⟨inf, hinf⟩ := Option.isSome_iff_exists.1 hi
  have hz : inf.size = size := by unfold Program.cellsOf at hs; rw [hinf] at hs; simpa using hs
  simp only [run_sizeOf hinf, sliced, Int.toNat_natCast]
  simp [hz, cutA, Result.andThen]
end Go.Proofs.Ytflaliomkfbagaa
