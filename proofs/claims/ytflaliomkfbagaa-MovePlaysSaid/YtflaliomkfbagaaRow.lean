/-
  Rows of one's own, whatever the elements: append, as an operation and inside a region that draws its order.
-/
import Derived.Test.YtflaliomkfbagaaBase
import Derived.Test.YtflaliomkfbagaaSteps
namespace Go.Proofs.Ytflaliomkfbagaa
open Go.RowKit

/-- A slice type t with elements of type e. -/
structure RowKind (P : Program) where
  t : TypeId
  e : TypeId
  z : Value
  size : Nat
  bytes : Nat
  ht : P.underlying t = some (.slice e)
  info : (P.info? e).map (fun i => (i.zero, i.size, i.bytes)) = some (some z, size, bytes)
  hz : z.cells.size = size
  hs : 0 < size
  hb : bytes ≤ 128

/-- The value v is a row of the call's own: n elements, the cells xs. -/
def OwnR {P : Program} (K : RowKind P) (w : World) (base : Nat) (v : Value) (n : Nat) (xs : List Value) : Prop := w.ownsRow base K.e K.size v n xs

section
variable {P : Program} {K : RowKind P} {w w2 : World} {base n : Nat} {v : Value} {xs : List Value}
theorem OwnR.nil (K : RowKind P) (w : World) (base : Nat) : OwnR K w base (.slice none 0 0) 0 [] := World.ownsRow_nil _ _ _ _
theorem OwnR.len (h : OwnR K w base v n xs) : xs.length = n * K.size := h.1
theorem OwnR.alloc (h : OwnR K w base v n xs) (o : Obj) : OwnR K (w.alloc o) base v n xs := World.ownsRow.alloc h o
theorem OwnR.drewN (h : OwnR K w base v n xs) (j : Nat) : OwnR K (w.drewN j) base v n xs := h
theorem OwnR.chg {S : Nat → Prop} (h : OwnR K w base v n xs) (hc : Chg S w w2) (hn : ∀ g, v.ownBlock = some g → ¬ S g) : OwnR K w2 base v n xs := Chg.own h hc hn
theorem OwnR.non (h : OwnR K w base v n xs) (hc : Chg Non w w2) : OwnR K w2 base v n xs := Chg.own h hc fun _ _ => id
theorem OwnR.mono {b2 : Nat} (h : OwnR K w base v n xs) (hb : b2 ≤ base) : OwnR K w b2 v n xs := own_mono h hb
theorem OwnR.lt (h : OwnR K w base v n xs) {g : Nat} (hg : v.ownBlock = some g) : base ≤ g ∧ g < w.heap.size := World.ownsRow.lt h g hg
theorem OwnR.open_ (h : OwnR K w base v n xs) : ∃ A c, v = .slice A n c ∧ n ≤ c ∧ c ≤ maxLen ∧ Rds w K.size A n xs ∧ ∀ ad, A = some ad → v.ownBlock = some ad.block := by
  obtain ⟨A, c, rfl, h1, h2, h3⟩ := own_slice h
  exact ⟨A, c, rfl, h1, h2, Rds.of_own h, fun ad e => (h3 ad e).1⟩
theorem OwnR.rds {A : Option Addr} {c : Nat} (h : OwnR K w base (.slice A n c) n xs) : Rds w K.size A n xs := Rds.of_own h
/-- The row stays where only its own block may have changed by an append that another row did: not so in general; here: nothing has changed in its block. -/
theorem OwnR.same (h : OwnR K w base v n xs) (hc : ∀ g, v.ownBlock = some g → w2.heap[g]? = w.heap[g]?) : OwnR K w2 base v n xs := by
  refine ⟨h.1, ?_⟩
  rcases h.2 with h2 | ⟨g, cap, cur, rfl, hb, hg, r⟩
  · exact .inl h2
  · exact .inr ⟨g, cap, cur, rfl, hb, (hc g rfl).trans hg, r⟩
/-- A row lies apart from a block of another type. -/
theorem OwnR.apart (h : OwnR K w base v n xs) {g : Nat} {t : TypeId} {cs : Array Value} (hb : Blk w g t cs) (hne : K.e ≠ t) : v.ownBlock ≠ some g := by
  rcases h.2 with ⟨rfl, _⟩ | ⟨g2, cap, cur, rfl, _, hh, _⟩
  · simp [Value.ownBlock]
  · intro he
    have : g2 = g := by simpa [Value.ownBlock] using he
    subst this
    exact Blk.apart (t := K.e) hh hb hne rfl
theorem OwnR.chgApp {S : Nat → Prop} {w0 : World} (hown : OwnR K w base v n xs) (h : Chg S w0 w) (hb : w0.heap.size ≤ base) (k : Chg (fun g => v.ownBlock = some g) w w2) : Chg S w0 w2 := h.app hown hb k

theorem Rds.blockN {g : Nat} {t : TypeId} {cs : Array Value} {size m : Nat} (h : Blk w g t cs) (hn : cs.size = m * size) : Rds w size (some ⟨g, 0, none⟩) m cs.toList :=
  ⟨by simpa using hn, fun _ => ⟨_, rfl, World.news_of_block h⟩⟩

/-- 'append(s, x...)' onto a row of one's own: what it comes to. -/
theorem run_appR (hown : OwnR K w base v n xs) {A : Option Addr} {m c : Nat} {news : List Value} (hr : Rds w K.size A m news) (h1 : ∀ u ∈ news, u.oneCell' = true) (hb : n + m ≤ 1099511627776) (hbase : base ≤ w.heap.size) (ty : TypeId) :
    ∃ v2 w2, (Builtin.append_ #[K.t, K.t] ty #[v, .slice A m c]).run P w = .ok v2 w2 ∧ OwnR K w2 base v2 (n + m) (xs ++ news) ∧ Chg (fun g => v.ownBlock = some g) w w2 ∧ (v2.ownBlock = v.ownBlock ∨ v2.ownBlock = some w.heap.size) := by
  obtain ⟨i0, hi, hz0, hz1, hz2⟩ := info_parts K.info
  have hmul : (n + m) * K.bytes ≤ 140737488355328 := Nat.le_trans (Nat.mul_le_mul hb K.hb) (by omega)
  obtain ⟨v2, w2, hrun, h2, h3, h4⟩ := run_append_rds (P := P) w base K.t ty K.e i0 K.z K.size K.bytes K.ht hi hz0 hz1 hz2 K.hz K.hs v n xs hown A m c news hr h1 (by unfold maxLen; omega) hmul hbase
  exact ⟨v2, w2, hrun, h2, Chg.of_grown h3, h4⟩

theorem exec_appR {o : Oper} {a : Act} (s x : Operand) (ho : o.op = .call { callee := .builtin .append, args := #[s, x], argTypes := #[K.t, K.t] })
    (hown : OwnR K w base v n xs) (hs : a.eval s = v) {A : Option Addr} {m c : Nat} {news : List Value} (hr : Rds w K.size A m news) (hx : a.eval x = .slice A m c) (h1 : ∀ u ∈ news, u.oneCell' = true)
    (hb : n + m ≤ 1099511627776) (hbase : base ≤ w.heap.size) :
    ∃ v2 w2, (execOp a.eval o).run P w = .ok (.value v2) w2 ∧ OwnR K w2 base v2 (n + m) (xs ++ news) ∧ Chg (fun g => v.ownBlock = some g) w w2 ∧ (v2.ownBlock = v.ownBlock ∨ v2.ownBlock = some w.heap.size) := by
  obtain ⟨v2, w2, hrun, h2⟩ := run_appR hown (c := c) hr h1 hb hbase o.type
  refine ⟨v2, w2, ?_, h2⟩
  unfold execOp
  simp only [ho, resolve, invoke, builtin, Sem.run_bind, Sem.run_pure, Result.andThen_ok, List.map_toArray, List.map_cons, List.map_nil, hs, hx, hrun]

theorem settle_appR {Kp : Value → World → Prop} {o : Oper} {a : Act} (s x : Operand) (ho : o.op = .call { callee := .builtin .append, args := #[s, x], argTypes := #[K.t, K.t] })
    (hown : OwnR K w base v n xs) (hs : a.eval s = v) {A : Option Addr} {m c : Nat} {news : List Value} (hr : Rds w K.size A m news) (hx : a.eval x = .slice A m c) (h1 : ∀ u ∈ news, u.oneCell' = true)
    (hb : n + m ≤ 1099511627776) (hbase : base ≤ w.heap.size)
    (h : ∀ v2 w2, OwnR K w2 base v2 (n + m) (xs ++ news) → Chg (fun g => v.ownBlock = some g) w w2 → (v2.ownBlock = v.ownBlock ∨ v2.ownBlock = some w.heap.size) → Kp v2 w2) : settle P Kp ((execOp a.eval o).run P w) := by
  obtain ⟨v2, w2, hrun, h2, h3, h4⟩ := exec_appR s x ho hown hs hr hx h1 hb hbase
  rw [hrun]
  exact h v2 w2 h2 h3 h4

theorem appR {ops : Array Oper} {rest : List Oper} {o : Oper} {a : Act} {Q : Exit → Act → World → Prop} (hgd : o.guard = none) (s x : Operand) (ho : o.op = .call { callee := .builtin .append, args := #[s, x], argTypes := #[K.t, K.t] })
    (hown : OwnR K w base v n xs) (hs : a.eval s = v) {A : Option Addr} {m c : Nat} {news : List Value} (hr : Rds w K.size A m news) (hx : a.eval x = .slice A m c) (h1 : ∀ u ∈ news, u.oneCell' = true)
    (hb : n + m ≤ 1099511627776) (hbase : base ≤ w.heap.size)
    (h : ∀ v2 w2, OwnR K w2 base v2 (n + m) (xs ++ news) → Chg (fun g => v.ownBlock = some g) w w2 → (v2.ownBlock = v.ownBlock ∨ v2.ownBlock = some w.heap.size) → wpList P ops Q rest (a.put o.dst v2) w2) : wpList P ops Q (o :: rest) a w := by
  refine wpList_plain hgd fun K' hK' => ?_
  obtain ⟨v2, w2, hrun, h2, h3, h4⟩ := exec_appR s x ho hown hs hr hx h1 hb hbase
  unfold Oper.wp
  rw [hrun]
  exact hK' _ _ (h v2 w2 h2 h3 h4)

/-- 'append(s, x)': one element, whose cells the statement has just laid into a block of its own. -/
theorem appR1 {ops : Array Oper} {rest : List Oper} {o : Oper} {a : Act} {Q : Exit → Act → World → Prop} (hgd : o.guard = none) (s x : Operand) (ho : o.op = .call { callee := .builtin .append, args := #[s, x], argTypes := #[K.t, K.t] })
    (hown : OwnR K w base v n xs) (hs : a.eval s = v) {c : Nat} {cs : Array Value} (hcs : cs.size = K.size) (hx : a.eval x = .slice (some ⟨w.heap.size, 0, none⟩) 1 c) (h1 : ∀ u ∈ cs.toList, u.oneCell' = true)
    (hb : n + 1 ≤ 1099511627776) (hbase : base ≤ w.heap.size)
    (h : ∀ v2 w2, OwnR K w2 base v2 (n + 1) (xs ++ cs.toList) → Chg (fun g => v.ownBlock = some g) w w2 → (v2.ownBlock = v.ownBlock ∨ v2.ownBlock = some (w.heap.size + 1)) → wpList P ops Q rest (a.put o.dst v2) w2) : wpList P ops Q (o :: rest) a (w.alloc (.cells cs K.e)) :=
  appR hgd s x ho (hown.alloc _) hs (Rds.blockN (Blk.new w K.e cs) (by omega)) hx h1 hb (by simp; omega) fun v2 w2 h2 h3 h4 => h v2 w2 h2 (((Chg.refl _ w).alloc _).trans h3) (by simpa using h4)
end
end Go.Proofs.Ytflaliomkfbagaa
