/-
  Rows of one's own, whatever the elements: append, as an operation and inside a region that draws its order.
  Lists of elements of several cells each, laid one behind the other.
  Rows of structs of the call's own: one cell written; an element's address.
  append, with the row that comes out laid open: onto nil ('append([]T(nil), s...)'), onto a row of one's own.
  Windows: a slice of the call's own that need not begin at its block's first cell ('l = l[1:]', 'l = l[:n]', then append).
-/
import Derived.Test.YteinbdifncdaiaaTdBase
import Derived.Test.YteinbdifncdaiaaTdRegion
import Derived.Laws.OwnMore
import Derived.Deep.MidRow
import Derived.ArgAppend
import Derived.Lib.SliceRun
namespace Go.Proofs.Yteinbdifncdaiaa
open Go.RowKit
set_option linter.unusedVariables false
set_option linter.unusedSimpArgs false

/-- A slice type t with elements of type e. -/
structure RowKind (P : Program) where
  t : TypeId
  e : TypeId
  z : Value
  size : Nat
  bytes : Nat
  ht : P.underlying t = some (.slice e)
  info : (P.info? e).map (fun i => (i.zero, i.size, i.bytes)) = some (some z, size, bytes)
  hz : z.cells.size = size
  hs : 0 < size
  hb : bytes ≤ 128

/-- The value v is a row of the call's own: n elements, the cells xs. -/
def OwnR {P : Program} (K : RowKind P) (w : World) (base : Nat) (v : Value) (n : Nat) (xs : List Value) : Prop := w.ownsRow base K.e K.size v n xs

section
variable {P : Program} {K : RowKind P} {w w2 : World} {base n : Nat} {v : Value} {xs : List Value}
theorem OwnR.nil (K : RowKind P) (w : World) (base : Nat) : OwnR K w base (.slice none 0 0) 0 [] := World.ownsRow_nil _ _ _ _
theorem OwnR.len (h : OwnR K w base v n xs) : xs.length = n * K.size := h.1
theorem OwnR.alloc (h : OwnR K w base v n xs) (o : Obj) : OwnR K (w.alloc o) base v n xs := World.ownsRow.alloc h o
theorem OwnR.drewN (h : OwnR K w base v n xs) (j : Nat) : OwnR K (w.drewN j) base v n xs := h
theorem OwnR.chg {S : Nat → Prop} (h : OwnR K w base v n xs) (hc : Chg S w w2) (hn : ∀ g, v.ownBlock = some g → ¬ S g) : OwnR K w2 base v n xs := Chg.own h hc hn
theorem OwnR.non (h : OwnR K w base v n xs) (hc : Chg Non w w2) : OwnR K w2 base v n xs := Chg.own h hc fun _ _ => id
theorem OwnR.mono {b2 : Nat} (h : OwnR K w base v n xs) (hb : b2 ≤ base) : OwnR K w b2 v n xs := own_mono h hb
theorem OwnR.lt (h : OwnR K w base v n xs) {g : Nat} (hg : v.ownBlock = some g) : base ≤ g ∧ g < w.heap.size := World.ownsRow.lt h g hg
theorem OwnR.open_ (h : OwnR K w base v n xs) : ∃ A c, v = .slice A n c ∧ n ≤ c ∧ c ≤ maxLen ∧ Rds w K.size A n xs ∧ ∀ ad, A = some ad → v.ownBlock = some ad.block := by
  obtain ⟨A, c, rfl, h1, h2, h3⟩ := own_slice h
  exact ⟨A, c, rfl, h1, h2, Rds.of_own h, fun ad e => (h3 ad e).1⟩
theorem OwnR.rds {A : Option Addr} {c : Nat} (h : OwnR K w base (.slice A n c) n xs) : Rds w K.size A n xs := Rds.of_own h
/-- The row stays where only its own block may have changed by an append that another row did: not so in general; here: nothing has changed in its block. -/
theorem OwnR.same (h : OwnR K w base v n xs) (hc : ∀ g, v.ownBlock = some g → w2.heap[g]? = w.heap[g]?) : OwnR K w2 base v n xs := by
  refine ⟨h.1, ?_⟩
  rcases h.2 with h2 | ⟨g, cap, cur, rfl, hb, hg, r⟩
  · exact .inl h2
  · exact .inr ⟨g, cap, cur, rfl, hb, (hc g rfl).trans hg, r⟩
/-- A row lies apart from a block of another type. -/
theorem OwnR.apart (h : OwnR K w base v n xs) {g : Nat} {t : TypeId} {cs : Array Value} (hb : Blk w g t cs) (hne : K.e ≠ t) : v.ownBlock ≠ some g := by
  rcases h.2 with ⟨rfl, _⟩ | ⟨g2, cap, cur, rfl, _, hh, _⟩
  · simp [Value.ownBlock]
  · intro he
    have : g2 = g := by simpa [Value.ownBlock] using he
    subst this
    exact Blk.apart (t := K.e) hh hb hne rfl
theorem OwnR.chgApp {S : Nat → Prop} {w0 : World} (hown : OwnR K w base v n xs) (h : Chg S w0 w) (hb : w0.heap.size ≤ base) (k : Chg (fun g => v.ownBlock = some g) w w2) : Chg S w0 w2 := h.app hown hb k

theorem Rds.blockN {g : Nat} {t : TypeId} {cs : Array Value} {size m : Nat} (h : Blk w g t cs) (hn : cs.size = m * size) : Rds w size (some ⟨g, 0, none⟩) m cs.toList :=
  ⟨by simpa using hn, fun _ => ⟨_, rfl, World.news_of_block h⟩⟩

/-- 'append(s, x...)' onto a row of one's own: what it comes to. -/
theorem run_appR (hown : OwnR K w base v n xs) {A : Option Addr} {m c : Nat} {news : List Value} (hr : Rds w K.size A m news) (h1 : ∀ u ∈ news, u.oneCell' = true) (hb : n + m ≤ 1099511627776) (hbase : base ≤ w.heap.size) (ty : TypeId) :
    ∃ v2 w2, (Builtin.append_ #[K.t, K.t] ty #[v, .slice A m c]).run P w = .ok v2 w2 ∧ OwnR K w2 base v2 (n + m) (xs ++ news) ∧ Chg (fun g => v.ownBlock = some g) w w2 ∧ (v2.ownBlock = v.ownBlock ∨ v2.ownBlock = some w.heap.size) := by
  obtain ⟨i0, hi, hz0, hz1, hz2⟩ := info_parts K.info
  have hmul : (n + m) * K.bytes ≤ 140737488355328 := Nat.le_trans (Nat.mul_le_mul hb K.hb) (by omega)
  obtain ⟨v2, w2, hrun, h2, h3, h4⟩ := run_append_rds (P := P) w base K.t ty K.e i0 K.z K.size K.bytes K.ht hi hz0 hz1 hz2 K.hz K.hs v n xs hown A m c news hr h1 (by unfold maxLen; omega) hmul hbase
  exact ⟨v2, w2, hrun, h2, Chg.of_grown h3, h4⟩

theorem exec_appR {o : Oper} {a : Act} (s x : Operand) (ho : o.op = .call { callee := .builtin .append, args := #[s, x], argTypes := #[K.t, K.t] })
    (hown : OwnR K w base v n xs) (hs : a.eval s = v) {A : Option Addr} {m c : Nat} {news : List Value} (hr : Rds w K.size A m news) (hx : a.eval x = .slice A m c) (h1 : ∀ u ∈ news, u.oneCell' = true)
    (hb : n + m ≤ 1099511627776) (hbase : base ≤ w.heap.size) :
    ∃ v2 w2, (execOp a.eval o).run P w = .ok (.value v2) w2 ∧ OwnR K w2 base v2 (n + m) (xs ++ news) ∧ Chg (fun g => v.ownBlock = some g) w w2 ∧ (v2.ownBlock = v.ownBlock ∨ v2.ownBlock = some w.heap.size) := by
  obtain ⟨v2, w2, hrun, h2⟩ := run_appR hown (c := c) hr h1 hb hbase o.type
  refine ⟨v2, w2, ?_, h2⟩
  unfold execOp
  simp only [ho, resolve, invoke, builtin, Sem.run_bind, Sem.run_pure, Result.andThen_ok, List.map_toArray, List.map_cons, List.map_nil, hs, hx, hrun]

theorem settle_appR {Kp : Value → World → Prop} {o : Oper} {a : Act} (s x : Operand) (ho : o.op = .call { callee := .builtin .append, args := #[s, x], argTypes := #[K.t, K.t] })
    (hown : OwnR K w base v n xs) (hs : a.eval s = v) {A : Option Addr} {m c : Nat} {news : List Value} (hr : Rds w K.size A m news) (hx : a.eval x = .slice A m c) (h1 : ∀ u ∈ news, u.oneCell' = true)
    (hb : n + m ≤ 1099511627776) (hbase : base ≤ w.heap.size)
    (h : ∀ v2 w2, OwnR K w2 base v2 (n + m) (xs ++ news) → Chg (fun g => v.ownBlock = some g) w w2 → (v2.ownBlock = v.ownBlock ∨ v2.ownBlock = some w.heap.size) → Kp v2 w2) : settle P Kp ((execOp a.eval o).run P w) := by
  obtain ⟨v2, w2, hrun, h2, h3, h4⟩ := exec_appR s x ho hown hs hr hx h1 hb hbase
  rw [hrun]
  exact h v2 w2 h2 h3 h4

theorem appR {ops : Array Oper} {rest : List Oper} {o : Oper} {a : Act} {Q : Exit → Act → World → Prop} (hgd : o.guard = none) (s x : Operand) (ho : o.op = .call { callee := .builtin .append, args := #[s, x], argTypes := #[K.t, K.t] })
    (hown : OwnR K w base v n xs) (hs : a.eval s = v) {A : Option Addr} {m c : Nat} {news : List Value} (hr : Rds w K.size A m news) (hx : a.eval x = .slice A m c) (h1 : ∀ u ∈ news, u.oneCell' = true)
    (hb : n + m ≤ 1099511627776) (hbase : base ≤ w.heap.size)
    (h : ∀ v2 w2, OwnR K w2 base v2 (n + m) (xs ++ news) → Chg (fun g => v.ownBlock = some g) w w2 → (v2.ownBlock = v.ownBlock ∨ v2.ownBlock = some w.heap.size) → wpList P ops Q rest (a.put o.dst v2) w2) : wpList P ops Q (o :: rest) a w := by
  refine wpList_plain hgd fun K' hK' => ?_
  obtain ⟨v2, w2, hrun, h2, h3, h4⟩ := exec_appR s x ho hown hs hr hx h1 hb hbase
  unfold Oper.wp
  rw [hrun]
  exact hK' _ _ (h v2 w2 h2 h3 h4)

/-- 'append(s, x)': one element, whose cells the statement has just laid into a block of its own. -/
theorem appR1 {ops : Array Oper} {rest : List Oper} {o : Oper} {a : Act} {Q : Exit → Act → World → Prop} (hgd : o.guard = none) (s x : Operand) (ho : o.op = .call { callee := .builtin .append, args := #[s, x], argTypes := #[K.t, K.t] })
    (hown : OwnR K w base v n xs) (hs : a.eval s = v) {c : Nat} {cs : Array Value} (hcs : cs.size = K.size) (hx : a.eval x = .slice (some ⟨w.heap.size, 0, none⟩) 1 c) (h1 : ∀ u ∈ cs.toList, u.oneCell' = true)
    (hb : n + 1 ≤ 1099511627776) (hbase : base ≤ w.heap.size)
    (h : ∀ v2 w2, OwnR K w2 base v2 (n + 1) (xs ++ cs.toList) → Chg (fun g => v.ownBlock = some g) w w2 → (v2.ownBlock = v.ownBlock ∨ v2.ownBlock = some (w.heap.size + 1)) → wpList P ops Q rest (a.put o.dst v2) w2) : wpList P ops Q (o :: rest) a (w.alloc (.cells cs K.e)) :=
  appR hgd s x ho (hown.alloc _) hs (Rds.blockN (Blk.new w K.e cs) (by omega)) hx h1 hb (by simp; omega) fun v2 w2 h2 h3 h4 => h v2 w2 h2 (((Chg.refl _ w).alloc _).trans h3) (by simpa using h4)
end

theorem flat_len {α : Type} {f : α → List Value} {m : Nat} (hf : ∀ x, (f x).length = m) : ∀ l : List α, (l.flatMap f).length = l.length * m
  | [] => by simp
  | x :: l => by rw [List.flatMap_cons, List.length_append, hf, flat_len hf l, List.length_cons, Nat.succ_mul, Nat.add_comm]
theorem flat_get {α : Type} {f : α → List Value} {m : Nat} (hf : ∀ x, (f x).length = m) : ∀ (l : List α) (k : Nat) (x : α), l[k]? = some x → ∀ j, j < m → (l.flatMap f)[k * m + j]? = (f x)[j]?
  | [], k, x, h, _, _ => by simp at h
  | y :: l, 0, x, h, j, hj => by
    simp at h
    subst h
    rw [List.flatMap_cons, Nat.zero_mul, Nat.zero_add, List.getElem?_append_left (by rw [hf]; exact hj)]
  | y :: l, k + 1, x, h, j, hj => by
    have h2 : l[k]? = some x := by simpa using h
    rw [List.flatMap_cons, List.getElem?_append_right (by rw [hf, Nat.succ_mul]; omega), hf, show (k + 1) * m + j - m = k * m + j by rw [Nat.succ_mul]; omega]
    exact flat_get hf l k x h2 j hj
theorem flat_snoc {α : Type} (f : α → List Value) (l : List α) (x : α) : (l ++ [x]).flatMap f = l.flatMap f ++ f x := by simp
theorem flat_one {α : Type} {f : α → List Value} (hf : ∀ x, ∀ u ∈ f x, u.oneCell' = true) (l : List α) : ∀ u ∈ l.flatMap f, u.oneCell' = true := by
  intro u hu
  obtain ⟨x, _, h⟩ := List.mem_flatMap.1 hu
  exact hf x u h
theorem flat_eq {α : Type} {f : α → List Value} {m : Nat} (hf : ∀ x, (f x).length = m) (hm : 0 < m) {A : Option Addr} {n : Nat} {w : World} {l : List α} (h : Rds w m A n (l.flatMap f)) : n = l.length := by
  have := h.1
  rw [flat_len hf] at this
  exact (Nat.eq_of_mul_eq_mul_right hm this).symm

/-- The address of a field behind the first, as the walk spells it. -/
def fld (p : Addr) (j : Nat) : Addr := ⟨p.block, p.off + (j + 1), none⟩
theorem fld_add (p : Addr) (j : Nat) : p.add (j + 1) = fld p j := by unfold Addr.add fld; simp

/-- An element's cells: the first; those behind it. -/
theorem Rds.getN {α : Type} {f : α → List Value} {m : Nat} (hf : ∀ x, (f x).length = m) (hm : 0 < m) {w : World} {A : Option Addr} {n : Nat} {l : List α} (h : Rds w m A n (l.flatMap f)) {k : Nat} (hk : k < n) :
    ∃ ad x, A = some ad ∧ l[k]? = some x ∧ (∀ u, (f x)[0]? = some u → w.cell? (ad.add (k * m)) = some u) ∧ ∀ j u, (f x)[j + 1]? = some u → w.cell? (fld (ad.add (k * m)) j) = some u := by
  have hn := flat_eq hf hm h
  obtain ⟨ad, e, hc⟩ := h.2 (by omega)
  have hl : k < l.length := by omega
  have key : ∀ j u, (f l[k])[j]? = some u → w.cell? (ad.add (k * m + j)) = some u := fun j u hu => hc _ u (by
    rw [flat_get hf l k _ (List.getElem?_eq_getElem hl) j (by
      have := (List.getElem?_eq_some_iff.1 hu).1
      rwa [hf] at this)]
    exact hu)
  refine ⟨ad, l[k], e, List.getElem?_eq_getElem hl, fun u hu => key 0 u hu, fun j u hu => ?_⟩
  rw [← fld_add, add_add]
  exact key _ _ hu

theorem flat_set {α : Type} {f : α → List Value} {m : Nat} (hf : ∀ x, (f x).length = m) : ∀ (L : List α) (k : Nat) (x y : α) (j : Nat) (u : Value), L[k]? = some x → j < m → f y = (f x).set j u → (L.flatMap f).set (k * m + j) u = (L.set k y).flatMap f
  | [], k, x, y, j, u, h, _, _ => by simp at h
  | z :: L, 0, x, y, j, u, h, hj, he => by
    simp at h
    subst h
    rw [List.set_cons_zero, List.flatMap_cons, List.flatMap_cons, Nat.zero_mul, Nat.zero_add, List.set_append_left _ _ (by rw [hf]; exact hj), he]
  | z :: L, k + 1, x, y, j, u, h, hj, he => by
    have h2 : L[k]? = some x := by simpa using h
    rw [List.set_cons_succ, List.flatMap_cons, List.flatMap_cons, List.set_append_right _ _ (by rw [hf, Nat.succ_mul]; omega), hf, show (k + 1) * m + j - m = k * m + j by rw [Nat.succ_mul]; omega, flat_set hf L k x y j u h2 hj he]

section
variable {P : Program} {K : RowKind P} {w : World} {base g n c : Nat} {xs : List Value}
/-- A cell of a row of the call's own is written. -/
theorem OwnR.put (h : OwnR K w base (.slice (some ⟨g, 0, none⟩) n c) n xs) (j : Nat) (u : Value) : OwnR K (w.setCell ⟨g, j, none⟩ u) base (.slice (some ⟨g, 0, none⟩) n c) n (xs.set j u) := (World.ownsRow.stored h j u).1
theorem OwnR.cell (h : OwnR K w base (.slice (some ⟨g, 0, none⟩) n c) n xs) {j : Nat} {u : Value} (hu : xs[j]? = some u) : w.cell? ⟨g, j, none⟩ = some u := by
  have hl := (List.getElem?_eq_some_iff.1 hu).1
  rw [h.len] at hl
  rw [World.ownsRow.cellAt h j hl, hu]
theorem OwnR.frozen (h : OwnR K w base (.slice (some ⟨g, 0, none⟩) n c) n xs) (j : Nat) : w.frozen? ⟨g, j, none⟩ = false := World.ownsRow.frozenAt h j
theorem OwnR.form {v : Value} (h : OwnR K w base v n xs) (h0 : 0 < n) : ∃ g c, v = .slice (some ⟨g, 0, none⟩) n c ∧ n ≤ c ∧ c ≤ maxLen ∧ base ≤ g ∧ g < w.heap.size := by
  rcases h.2 with ⟨rfl, rfl⟩ | ⟨g, cap, cur, rfl, hb, hg, h1, h2, _⟩
  · omega
  · exact ⟨g, cap, rfl, h1, h2, hb, (Array.getElem?_eq_some_iff.1 hg).1⟩
/-- Elements of several cells: one cell of one of them. -/
theorem OwnR.cellN {α : Type} {f : α → List Value} (hf : ∀ x, (f x).length = K.size) {L : List α} (h : OwnR K w base (.slice (some ⟨g, 0, none⟩) n c) n (L.flatMap f)) {k : Nat} {x : α} (hx : L[k]? = some x) {j : Nat} {u : Value} (hj : (f x)[j]? = some u) : w.cell? ⟨g, k * K.size + j, none⟩ = some u :=
  h.cell (by rw [flat_get hf L k x hx j (by have := (List.getElem?_eq_some_iff.1 hj).1; rwa [hf] at this)]; exact hj)
theorem OwnR.putN {α : Type} {f : α → List Value} (hf : ∀ x, (f x).length = K.size) {L : List α} (h : OwnR K w base (.slice (some ⟨g, 0, none⟩) n c) n (L.flatMap f)) {k : Nat} {x : α} (y : α) (hx : L[k]? = some x) {j : Nat} {u : Value} (hj : j < K.size) (hy : f y = (f x).set j u) : OwnR K (w.setCell ⟨g, k * K.size + j, none⟩ u) base (.slice (some ⟨g, 0, none⟩) n c) n ((L.set k y).flatMap f) := by
  rw [← flat_set hf L k x y j u hx hj hy]
  exact h.put _ _
theorem OwnR.lenF {α : Type} {f : α → List Value} (hf : ∀ x, (f x).length = K.size) {v : Value} {L : List α} (h : OwnR K w base v n (L.flatMap f)) : n = L.length := by
  have := h.len
  rw [flat_len hf] at this
  exact (Nat.eq_of_mul_eq_mul_right K.hs this).symm
/-- An element's cells are there, and may be written. -/
theorem OwnR.there (h : OwnR K w base (.slice (some ⟨g, 0, none⟩) n c) n xs) {k : Nat} (hk : k < n) : w.there g (k * K.size) K.size := fun j hj => by
  have hl : k * K.size + j < xs.length := by
    rw [h.len]
    have := Nat.mul_le_mul_right K.size (show k + 1 ≤ n from hk)
    rw [Nat.succ_mul] at this
    omega
  exact ⟨by rw [h.cell (List.getElem?_eq_getElem hl)]; rfl, h.frozen _⟩
end

section
variable {P : Program} {K : RowKind P} {w : World} {base n : Nat} {v : Value} {xs : List Value} {ops : Array Oper} {rest : List Oper} {o : Oper} {a : Act} {Q : Exit → Act → World → Prop}
theorem appRn (hgd : o.guard = none) (x : Operand) (ho : o.op = .call { callee := .builtin .append, args := #[.const (.slice none 0 0), x], argTypes := #[K.t, K.t] })
    {A : Option Addr} {m c : Nat} {news : List Value} (hr : Rds w K.size A m news) (hx : a.eval x = .slice A m c) (h1 : ∀ u ∈ news, u.oneCell' = true) (hb : m ≤ 1099511627776)
    (h : ∀ A2 c2 w2, OwnR K w2 w.heap.size (.slice A2 m c2) m news → Chg Non w w2 → wpList P ops Q rest (a.put o.dst (.slice A2 m c2)) w2) : wpList P ops Q (o :: rest) a w := by
  refine appR hgd _ x ho (OwnR.nil K w w.heap.size) rfl hr hx h1 (by omega) (Nat.le_refl _) fun v2 w2 h2 h3 _ => ?_
  simp only [Nat.zero_add, List.nil_append] at h2
  obtain ⟨A2, c2, rfl, _⟩ := h2.open_
  exact h A2 c2 w2 h2 (h3.mono fun _ e => by cases e)
theorem appRs (hgd : o.guard = none) (s x : Operand) (ho : o.op = .call { callee := .builtin .append, args := #[s, x], argTypes := #[K.t, K.t] })
    (hown : OwnR K w base v n xs) (hs : a.eval s = v) {A : Option Addr} {m c : Nat} {news : List Value} (hr : Rds w K.size A m news) (hx : a.eval x = .slice A m c) (h1 : ∀ u ∈ news, u.oneCell' = true)
    (hb : n + m ≤ 1099511627776) (hbase : base ≤ w.heap.size)
    (h : ∀ A2 c2 w2, OwnR K w2 base (.slice A2 (n + m) c2) (n + m) (xs ++ news) → Chg (fun g => v.ownBlock = some g) w w2 → (∀ b, (Value.slice A2 (n + m) c2).ownBlock = some b → v.ownBlock = some b ∨ w.heap.size ≤ b) → wpList P ops Q rest (a.put o.dst (.slice A2 (n + m) c2)) w2) : wpList P ops Q (o :: rest) a w := by
  refine appR hgd s x ho hown hs hr hx h1 hb hbase fun v2 w2 h2 h3 h4 => ?_
  obtain ⟨A2, c2, rfl, _⟩ := h2.open_
  refine h A2 c2 w2 h2 h3 fun b hb => ?_
  rcases h4 with h4 | h4
  · exact .inl (h4 ▸ hb)
  · rw [h4] at hb
    exact .inr (Nat.le_of_eq (Option.some.inj hb))
theorem appR1s (hgd : o.guard = none) (s x : Operand) (ho : o.op = .call { callee := .builtin .append, args := #[s, x], argTypes := #[K.t, K.t] })
    (hown : OwnR K w base v n xs) (hs : a.eval s = v) {c : Nat} {cs : Array Value} (hcs : cs.size = K.size) (hx : a.eval x = .slice (some ⟨w.heap.size, 0, none⟩) 1 c) (h1 : ∀ u ∈ cs.toList, u.oneCell' = true)
    (hb : n + 1 ≤ 1099511627776) (hbase : base ≤ w.heap.size)
    (h : ∀ A2 c2 w2, OwnR K w2 base (.slice A2 (n + 1) c2) (n + 1) (xs ++ cs.toList) → Chg (fun g => v.ownBlock = some g) w w2 → (∀ b, (Value.slice A2 (n + 1) c2).ownBlock = some b → v.ownBlock = some b ∨ w.heap.size ≤ b) → wpList P ops Q rest (a.put o.dst (.slice A2 (n + 1) c2)) w2) : wpList P ops Q (o :: rest) a (w.alloc (.cells cs K.e)) := by
  refine appR1 hgd s x ho hown hs hcs hx h1 hb hbase fun v2 w2 h2 h3 h4 => ?_
  obtain ⟨A2, c2, rfl, _⟩ := h2.open_
  refine h A2 c2 w2 h2 h3 fun b hb => ?_
  rcases h4 with h4 | h4
  · exact .inl (h4 ▸ hb)
  · rw [h4] at hb
    exact .inr (by have := Option.some.inj hb; omega)
end

theorem run_slice_mid {P : Program} {t e : TypeId} (ht : P.underlying t = some (.slice e)) (size : Nat) (hs : P.cellsOf e = size) (hi : (P.info? e).isSome = true) {kl kh : IntKind} {i j : Int} {k m c : Nat} (hik : i = k) (hjm : j = m) (hk : k ≤ m) (hm : m ≤ c) (A : Option Addr) (n : Nat) (w : World) :
    (Instr.slice t (.slice A n c) (some (.int kl i)) (some (.int kh j)) none).run P w = .ok (.slice (cutA A c k size) (m - k) (c - k)) w := by
  subst hik hjm
  have he : P.elem t = e := by unfold Program.elem; rw [ht]
  rw [run_slice_lh w t A n c (by rw [ht, he]) kl kh (k : Int) (m : Int) (by omega) (by omega) (by omega), he]
  obtain ⟨inf, hinf⟩ := Option.isSome_iff_exists.1 hi
  have hz : inf.size = size := by unfold Program.cellsOf at hs; rw [hinf] at hs; simpa using hs
  simp only [run_sizeOf hinf, sliced, Int.toNat_natCast]
  simp [hz, cutA, Result.andThen]

def putAll (cur : Array Value) (o : Nat) : List Value → Array Value
  | [] => cur
  | v :: r => putAll (cur.setIfInBounds o v) (o + 1) r
theorem putAll_size : ∀ (vs : List Value) (cur : Array Value) (o : Nat), (putAll cur o vs).size = cur.size
  | [], _, _ => rfl
  | v :: r, cur, o => by rw [putAll, putAll_size r]; simp
theorem putAll_out : ∀ (vs : List Value) (cur : Array Value) (o i : Nat), i < o ∨ o + vs.length ≤ i → (putAll cur o vs)[i]? = cur[i]?
  | [], _, _, _, _ => rfl
  | v :: r, cur, o, i, h => by
    have hl : (v :: r).length = r.length + 1 := rfl
    rw [putAll, putAll_out r _ _ _ (by omega), Array.getElem?_setIfInBounds_ne (by omega)]
theorem putAll_in : ∀ (vs : List Value) (cur : Array Value) (o j : Nat), j < vs.length → o + j < cur.size → (putAll cur o vs)[o + j]? = vs[j]?
  | [], _, _, _, h, _ => by simp at h
  | v :: r, cur, o, 0, _, h => by
    rw [Nat.add_zero] at h ⊢
    rw [putAll, putAll_out r _ _ _ (by omega), Array.getElem?_setIfInBounds_self_of_lt h]
    rfl
  | v :: r, cur, o, j + 1, h, h2 => by
    have hl : (v :: r).length = r.length + 1 := rfl
    rw [putAll, show o + (j + 1) = o + 1 + j by omega, putAll_in r _ (o + 1) j (by omega) (by simp; omega)]
    rfl
theorem Blk.puts {g : Nat} {t : TypeId} : ∀ (vs : List Value) (o : Nat) (w : World) (cs : Array Value), Blk w g t cs → Blk (w.setCells g o vs) g t (putAll cs o vs)
  | [], _, _, _, h => h
  | v :: r, o, w, cs, h => Blk.puts r (o + 1) _ _ (h.put o v)
theorem Chg.sets {S : Nat → Prop} {g : Nat} {w : World} (hg : S g ∨ w.heap.size ≤ g) : ∀ (vs : List Value) (o : Nat) (w1 : World), Chg S w w1 → Chg S w (w1.setCells g o vs)
  | [], _, _, h => h
  | v :: r, o, w1, h => Chg.sets hg r (o + 1) _ (h.setCell (p := ⟨g, o, none⟩) hg v)

/-- The value v is a window on a block of the call's own: n elements, the cells xs. -/
def Win {P : Program} (K : RowKind P) (w : World) (v : Value) (n : Nat) (xs : List Value) : Prop :=
  xs.length = n * K.size ∧ ((v = .slice none 0 0 ∧ n = 0) ∨ ∃ g o c cur, v = .slice (some ⟨g, o, none⟩) n c ∧ Blk w g K.e cur ∧ n ≤ c ∧ c ≤ maxLen ∧ o + c * K.size ≤ cur.size ∧ ∀ j u, xs[j]? = some u → cur[o + j]? = some u)

section
variable {P : Program} {K : RowKind P} {w w2 : World} {n : Nat} {v : Value} {xs : List Value}
theorem Win.nil (K : RowKind P) (w : World) : Win K w (.slice none 0 0) 0 [] := ⟨by simp, .inl ⟨rfl, rfl⟩⟩
theorem Win.of_own {base : Nat} (h : OwnR K w base v n xs) : Win K w v n xs := by
  refine ⟨h.1, ?_⟩
  rcases h.2 with ⟨rfl, rfl⟩ | ⟨g, cap, cur, rfl, hb, hg, h1, h2, h3, h4⟩
  · exact .inl ⟨rfl, rfl⟩
  · refine .inr ⟨g, 0, cap, cur, rfl, hg, h1, h2, by omega, fun j u hu => ?_⟩
    have hj := (List.getElem?_eq_some_iff.1 hu).1
    have hx : xs = cur.toList.take (n * K.size) := h4.symm
    rw [hx, List.getElem?_take] at hu
    split at hu
    · simpa using hu
    · cases hu
theorem Win.chg {S : Nat → Prop} (h : Win K w v n xs) (hc : Chg S w w2) (hn : ∀ g, v.ownBlock = some g → ¬ S g) : Win K w2 v n xs := by
  refine ⟨h.1, ?_⟩
  rcases h.2 with h2 | ⟨g, o, c, cur, rfl, hg, r⟩
  · exact .inl h2
  · exact .inr ⟨g, o, c, cur, rfl, hg.chg hc (hn g rfl), r⟩
theorem Win.non (h : Win K w v n xs) (hc : Chg Non w w2) : Win K w2 v n xs := h.chg hc fun _ _ => id
theorem Win.alloc (h : Win K w v n xs) (o : Obj) : Win K (w.alloc o) v n xs := h.non ((Chg.refl _ _).alloc o)
theorem Win.drewN (h : Win K w v n xs) (j : Nat) : Win K (w.drewN j) v n xs := h
theorem Win.lt (h : Win K w v n xs) {g : Nat} (hg : v.ownBlock = some g) : g < w.heap.size := by
  rcases h.2 with ⟨rfl, _⟩ | ⟨g2, o, c, cur, rfl, hb, _⟩
  · simp [Value.ownBlock] at hg
  · have : g2 = g := by simpa [Value.ownBlock] using hg
    subst this
    exact hb.lt
theorem Win.apart (h : Win K w v n xs) {g : Nat} {t : TypeId} {cs : Array Value} (hb : Blk w g t cs) (hne : K.e ≠ t) : v.ownBlock ≠ some g := by
  rcases h.2 with ⟨rfl, _⟩ | ⟨g2, o, c, cur, rfl, hh, _⟩
  · simp [Value.ownBlock]
  · intro he
    have : g2 = g := by simpa [Value.ownBlock] using he
    subst this
    exact Blk.apart hh hb hne rfl
theorem add_off (g o j : Nat) : (⟨g, o, none⟩ : Addr).add j = ⟨g, o + j, none⟩ := by unfold Addr.add; split <;> simp_all
theorem Win.open_ (h : Win K w v n xs) : ∃ A c, v = .slice A n c ∧ n ≤ c ∧ c ≤ maxLen ∧ Rds w K.size A n xs := by
  rcases h.2 with ⟨rfl, rfl⟩ | ⟨g, o, c, cur, rfl, hb, h1, h2, h3, h4⟩
  · exact ⟨none, 0, rfl, Nat.le_refl _, by unfold maxLen; omega, h.1, fun h => absurd h (by omega)⟩
  · exact ⟨_, c, rfl, h1, h2, h.1, fun _ => ⟨_, rfl, fun j u hu => by rw [add_off, hb.cell]; exact h4 j u hu⟩⟩
theorem Win.rds {A : Option Addr} {c : Nat} (h : Win K w (.slice A n c) n xs) : Rds w K.size A n xs := by
  obtain ⟨A2, c2, e, _, _, hr⟩ := h.open_
  injection e with e1 e2 e3
  rw [e1]
  exact hr
/-- 's[:k]'. -/
theorem Win.hi {A : Option Addr} {c k : Nat} (h : Win K w (.slice A n c) n xs) (hk : k ≤ n) : Win K w (.slice A k c) k (xs.take (k * K.size)) := by
  refine ⟨by rw [List.length_take, h.1]; exact Nat.min_eq_left (Nat.mul_le_mul_right _ hk), ?_⟩
  rcases h.2 with ⟨e, rfl⟩ | ⟨g, o, c2, cur, e, hb, h1, h2, h3, h4⟩
  · obtain rfl : k = 0 := by omega
    injection e with e1 e2 e3
    subst e1 e3
    exact .inl ⟨rfl, rfl⟩
  · injection e with e1 e2 e3
    subst e1 e3
    refine .inr ⟨g, o, _, cur, rfl, hb, by omega, h2, h3, fun j u hu => h4 j u ?_⟩
    rw [List.getElem?_take] at hu
    split at hu
    · exact hu
    · cases hu
/-- 's[k:]'. -/
theorem Win.lo {A : Option Addr} {c k : Nat} (h : Win K w (.slice A n c) n xs) (hk : k ≤ n) : Win K w (.slice (cutA A c k K.size) (n - k) (c - k)) (n - k) (xs.drop (k * K.size)) := by
  refine ⟨by rw [List.length_drop, h.1, Nat.sub_mul], ?_⟩
  rcases h.2 with ⟨e, rfl⟩ | ⟨g, o, c2, cur, e, hb, h1, h2, h3, h4⟩
  · obtain rfl : k = 0 := by omega
    injection e with e1 e2 e3
    subst e1 e3
    exact .inl ⟨rfl, rfl⟩
  · injection e with e1 e2 e3
    subst e1 e3
    unfold cutA
    by_cases hc : c = k
    · rw [if_pos hc]
      refine .inr ⟨g, o, c - k, cur, rfl, hb, by omega, by omega, ?_, fun j u hu => ?_⟩
      · rw [show c - k = 0 by omega]; omega
      · have := (List.getElem?_eq_some_iff.1 hu).1
        rw [List.length_drop, h.1, show n = k by omega] at this
        omega
    · rw [if_neg hc]
      refine .inr ⟨g, o + k * K.size, c - k, cur, by rw [Option.map_some, add_off], hb, by omega, by omega, ?_, fun j u hu => ?_⟩
      · have h5 : c * K.size = k * K.size + (c - k) * K.size := by rw [← Nat.add_mul]; congr 1; omega
        omega
      · rw [Nat.add_assoc]
        exact h4 _ u (by rw [← hu, List.getElem?_drop])

/-- 'append(s, x...)' onto a window. -/
theorem run_appW (h : Win K w v n xs) {A : Option Addr} {m c : Nat} {news : List Value} (hr : Rds w K.size A m news) (h1 : ∀ u ∈ news, u.oneCell' = true) (hb : n + m ≤ 1099511627776) (ty : TypeId) :
    ∃ v2 w2, (Builtin.append_ #[K.t, K.t] ty #[v, .slice A m c]).run P w = .ok v2 w2 ∧ Win K w2 v2 (n + m) (xs ++ news) ∧ Chg (fun g => v.ownBlock = some g) w w2 ∧ ∀ b, v2.ownBlock = some b → v.ownBlock = some b ∨ w.heap.size ≤ b := by
  rcases h.2 with ⟨rfl, rfl⟩ | ⟨g, o, cap, cur, rfl, hblk, hn, hcap, hfit, hget⟩
  · have hx : xs = [] := List.eq_nil_of_length_eq_zero (by have := h.1; omega)
    subst hx
    obtain ⟨v2, w2, hrun, h2, h3, h4⟩ := run_appR (K := K) (OwnR.nil K w 0) (c := c) hr h1 hb (Nat.zero_le _) ty
    refine ⟨v2, w2, hrun, Win.of_own h2, h3, fun b e => ?_⟩
    rcases h4 with h4 | h4
    · exact .inl (h4 ▸ e)
    · rw [h4] at e
      exact .inr (Nat.le_of_eq (Option.some.inj e))
  · obtain ⟨i0, hi, hz0, hz1, hz2⟩ := info_parts K.info
    have hmul : (n + m) * K.bytes ≤ 140737488355328 := Nat.le_trans (Nat.mul_le_mul hb K.hb) (by omega)
    cases A with
    | none =>
      have hm : m = 0 := by
        rcases Nat.eq_zero_or_pos m with h0 | h0
        · exact h0
        · obtain ⟨_, e, _⟩ := hr.2 h0; cases e
      subst hm
      have hx : news = [] := List.eq_nil_of_length_eq_zero (by have := hr.1; omega)
      subst hx
      refine ⟨.slice (some ⟨g, o, none⟩) n cap, w, ?_, by simpa using h, Chg.refl _ _, fun b e => .inl e⟩
      simp [Builtin.append_, run_underlying K.ht, sizeOf, typeInfo, hi, Builtin.lenOf, Builtin.firstCells, hn, storeCells]
    | some ad =>
      have hnews : ∀ j u, news[j]? = some u → w.cell? (ad.add j) = some u := by
        intro j u hu
        rcases Nat.eq_zero_or_pos m with h0 | h0
        · subst h0
          have hx : news = [] := List.eq_nil_of_length_eq_zero (by have := hr.1; omega)
          subst hx
          simp at hu
        · obtain ⟨_, e, hc⟩ := hr.2 h0
          cases e
          exact hc j u hu
      by_cases hroom : n + m ≤ cap
      · have hin : n * K.size + m * K.size ≤ cap * K.size := by rw [← Nat.add_mul]; exact Nat.mul_le_mul_right _ hroom
        have hrun := run_append_room_cells (P := P) w K.t ty K.e i0 K.ht hi g o n cap ad m c news (by rw [hz1]; exact hr.1) hnews h1 hroom
          (fun j hj => by
            have := hr.1
            rw [hblk.cell, hz1, Array.getElem?_eq_getElem (by omega)]
            rfl)
          (fun j _ => hblk.frozen _)
        rw [hz1] at hrun
        refine ⟨_, _, hrun, ⟨by rw [List.length_append, h.1, hr.1, Nat.add_mul], .inr ⟨g, o, cap, _, rfl, hblk.puts _ _ _ _, hroom, hcap, by rw [putAll_size]; exact hfit, fun j u hu => ?_⟩⟩, (Chg.sets (S := fun b => b = g) (.inl rfl) news (o + n * K.size) w (Chg.refl _ _)).mono (fun b e => by rw [show b = g from e]; rfl), fun b e => .inl e⟩
        have hnl := hr.1
        rcases Nat.lt_or_ge j xs.length with hj | hj
        · rw [List.getElem?_append_left hj] at hu
          rw [putAll_out _ _ _ _ (by have := h.1; omega)]
          exact hget j u hu
        · rw [List.getElem?_append_right hj] at hu
          have hj2 := (List.getElem?_eq_some_iff.1 hu).1
          have e : o + j = o + n * K.size + (j - xs.length) := by have := h.1; omega
          rw [e, putAll_in _ _ _ _ hj2 (by have := h.1; omega)]
          exact hu
      · have holds : ∀ j u, xs[j]? = some u → w.cell? ((⟨g, o, none⟩ : Addr).add j) = some u := fun j u hu => by rw [add_off, hblk.cell]; exact hget j u hu
        obtain ⟨v2, w2, hrun, h2, h3⟩ := run_append_arg_grows (P := P) w K.t ty K.e i0 K.z K.size K.bytes K.ht hi hz0 hz1 hz2 K.hz K.hs ⟨g, o, none⟩ n cap xs h.1 holds ad m c news hr.1 hnews (by omega) (by unfold maxLen; omega) hmul
        exact ⟨v2, w2, hrun, Win.of_own (base := w.heap.size) h2, (Chg.of_grown h3).mono (fun b e => by cases e), fun b e => .inr (World.ownsRow.lt h2 b e).1⟩

theorem exec_appW {o : Oper} {a : Act} (s x : Operand) (ho : o.op = .call { callee := .builtin .append, args := #[s, x], argTypes := #[K.t, K.t] })
    (hown : Win K w v n xs) (hs : a.eval s = v) {A : Option Addr} {m c : Nat} {news : List Value} (hr : Rds w K.size A m news) (hx : a.eval x = .slice A m c) (h1 : ∀ u ∈ news, u.oneCell' = true) (hb : n + m ≤ 1099511627776) :
    ∃ v2 w2, (execOp a.eval o).run P w = .ok (.value v2) w2 ∧ Win K w2 v2 (n + m) (xs ++ news) ∧ Chg (fun g => v.ownBlock = some g) w w2 ∧ ∀ b, v2.ownBlock = some b → v.ownBlock = some b ∨ w.heap.size ≤ b := by
  obtain ⟨v2, w2, hrun, h2⟩ := run_appW hown (c := c) hr h1 hb o.type
  refine ⟨v2, w2, ?_, h2⟩
  unfold execOp
  simp only [ho, resolve, invoke, builtin, Sem.run_bind, Sem.run_pure, Result.andThen_ok, List.map_toArray, List.map_cons, List.map_nil, hs, hx, hrun]

theorem settle_appW {Kp : Value → World → Prop} {o : Oper} {a : Act} (s x : Operand) (ho : o.op = .call { callee := .builtin .append, args := #[s, x], argTypes := #[K.t, K.t] })
    (hown : Win K w v n xs) (hs : a.eval s = v) {A : Option Addr} {m c : Nat} {news : List Value} (hr : Rds w K.size A m news) (hx : a.eval x = .slice A m c) (h1 : ∀ u ∈ news, u.oneCell' = true) (hb : n + m ≤ 1099511627776)
    (h : ∀ v2 w2, Win K w2 v2 (n + m) (xs ++ news) → Chg (fun g => v.ownBlock = some g) w w2 → (∀ b, v2.ownBlock = some b → v.ownBlock = some b ∨ w.heap.size ≤ b) → Kp v2 w2) : settle P Kp ((execOp a.eval o).run P w) := by
  obtain ⟨v2, w2, hrun, h2, h3, h4⟩ := exec_appW s x ho hown hs hr hx h1 hb
  rw [hrun]
  exact h v2 w2 h2 h3 h4

theorem appW {ops : Array Oper} {rest : List Oper} {o : Oper} {a : Act} {Q : Exit → Act → World → Prop} (hgd : o.guard = none) (s x : Operand) (ho : o.op = .call { callee := .builtin .append, args := #[s, x], argTypes := #[K.t, K.t] })
    (hown : Win K w v n xs) (hs : a.eval s = v) {A : Option Addr} {m c : Nat} {news : List Value} (hr : Rds w K.size A m news) (hx : a.eval x = .slice A m c) (h1 : ∀ u ∈ news, u.oneCell' = true) (hb : n + m ≤ 1099511627776)
    (h : ∀ v2 w2, Win K w2 v2 (n + m) (xs ++ news) → Chg (fun g => v.ownBlock = some g) w w2 → (∀ b, v2.ownBlock = some b → v.ownBlock = some b ∨ w.heap.size ≤ b) → wpList P ops Q rest (a.put o.dst v2) w2) : wpList P ops Q (o :: rest) a w := by
  refine wpList_plain hgd fun K' hK' => ?_
  obtain ⟨v2, w2, hrun, h2, h3, h4⟩ := exec_appW s x ho hown hs hr hx h1 hb
  unfold Oper.wp
  rw [hrun]
  exact hK' _ _ (h v2 w2 h2 h3 h4)

/-- 'append(s, x)' onto a window: one element, just laid. -/
theorem appW1 {ops : Array Oper} {rest : List Oper} {o : Oper} {a : Act} {Q : Exit → Act → World → Prop} (hgd : o.guard = none) (s x : Operand) (ho : o.op = .call { callee := .builtin .append, args := #[s, x], argTypes := #[K.t, K.t] })
    (hown : Win K w v n xs) (hs : a.eval s = v) {c : Nat} {cs : Array Value} (hcs : cs.size = K.size) (hx : a.eval x = .slice (some ⟨w.heap.size, 0, none⟩) 1 c) (h1 : ∀ u ∈ cs.toList, u.oneCell' = true) (hb : n + 1 ≤ 1099511627776)
    (h : ∀ v2 w2, Win K w2 v2 (n + 1) (xs ++ cs.toList) → Chg (fun g => v.ownBlock = some g) w w2 → (∀ b, v2.ownBlock = some b → v.ownBlock = some b ∨ w.heap.size ≤ b) → wpList P ops Q rest (a.put o.dst v2) w2) : wpList P ops Q (o :: rest) a (w.alloc (.cells cs K.e)) :=
  appW hgd s x ho (hown.alloc _) hs (Rds.blockN (Blk.new w K.e cs) (by omega)) hx h1 hb fun v2 w2 h2 h3 h4 => h v2 w2 h2 (((Chg.refl _ w).alloc _).trans h3) (fun b e => (h4 b e).imp id (fun e => by simp at e; omega))
/-- 'append(s, x...)' where there is room: the same window, longer. -/
theorem run_appW_room {A : Option Addr} {cap : Nat} (h : Win K w (.slice A n cap) n xs) {B : Option Addr} {m c : Nat} {news : List Value} (hr : Rds w K.size B m news) (h1 : ∀ u ∈ news, u.oneCell' = true) (hroom : n + m ≤ cap) (ty : TypeId) :
    ∃ w2, (Builtin.append_ #[K.t, K.t] ty #[.slice A n cap, .slice B m c]).run P w = .ok (.slice A (n + m) cap) w2 ∧ Win K w2 (.slice A (n + m) cap) (n + m) (xs ++ news) ∧ Chg (fun g => (Value.slice A n cap).ownBlock = some g) w w2 := by
  obtain ⟨i0, hi, hz0, hz1, hz2⟩ := info_parts K.info
  rcases h.2 with ⟨e, rfl⟩ | ⟨g, o, cap2, cur, e, hblk, hn, hcap, hfit, hget⟩
  · injection e with e1 e2 e3
    subst e1 e3
    obtain rfl : m = 0 := by omega
    have hx : news = [] := List.eq_nil_of_length_eq_zero (by have := hr.1; omega)
    have hxs : xs = [] := List.eq_nil_of_length_eq_zero (by have := h.1; omega)
    subst hx hxs
    refine ⟨w, ?_, Win.nil K w, Chg.refl _ _⟩
    cases B <;> simp [Builtin.append_, run_underlying K.ht, sizeOf, typeInfo, hi, Builtin.lenOf, Builtin.firstCells, loadCells, loadCellsFrom]
  · injection e with e1 e2 e3
    subst e1 e3
    cases B with
    | none =>
      have hm : m = 0 := by
        rcases Nat.eq_zero_or_pos m with h0 | h0
        · exact h0
        · obtain ⟨_, e, _⟩ := hr.2 h0; cases e
      subst hm
      have hx : news = [] := List.eq_nil_of_length_eq_zero (by have := hr.1; omega)
      subst hx
      refine ⟨w, ?_, by simpa using h, Chg.refl _ _⟩
      simp [Builtin.append_, run_underlying K.ht, sizeOf, typeInfo, hi, Builtin.lenOf, Builtin.firstCells, hn, storeCells]
    | some ad =>
      have hnews : ∀ j u, news[j]? = some u → w.cell? (ad.add j) = some u := by
        intro j u hu
        rcases Nat.eq_zero_or_pos m with h0 | h0
        · subst h0
          have hx : news = [] := List.eq_nil_of_length_eq_zero (by have := hr.1; omega)
          subst hx
          simp at hu
        · obtain ⟨_, e, hc⟩ := hr.2 h0
          cases e
          exact hc j u hu
      have hin : n * K.size + m * K.size ≤ cap * K.size := by rw [← Nat.add_mul]; exact Nat.mul_le_mul_right _ hroom
      have hrun := run_append_room_cells (P := P) w K.t ty K.e i0 K.ht hi g o n cap ad m c news (by rw [hz1]; exact hr.1) hnews h1 hroom
        (fun j hj => by
          have := hr.1
          rw [hblk.cell, hz1, Array.getElem?_eq_getElem (by omega)]
          rfl)
        (fun j _ => hblk.frozen _)
      rw [hz1] at hrun
      refine ⟨_, hrun, ⟨by rw [List.length_append, h.1, hr.1, Nat.add_mul], .inr ⟨g, o, cap, _, rfl, hblk.puts _ _ _ _, hroom, hcap, by rw [putAll_size]; exact hfit, fun j u hu => ?_⟩⟩, (Chg.sets (S := fun b => b = g) (.inl rfl) news (o + n * K.size) w (Chg.refl _ _)).mono (fun b e => by rw [show b = g from e]; rfl)⟩
      have hnl := hr.1
      rcases Nat.lt_or_ge j xs.length with hj | hj
      · rw [List.getElem?_append_left hj] at hu
        rw [putAll_out _ _ _ _ (by have := h.1; omega)]
        exact hget j u hu
      · rw [List.getElem?_append_right hj] at hu
        have hj2 := (List.getElem?_eq_some_iff.1 hu).1
        have e : o + j = o + n * K.size + (j - xs.length) := by have := h.1; omega
        rw [e, putAll_in _ _ _ _ hj2 (by have := h.1; omega)]
        exact hu

theorem appW_room {ops : Array Oper} {rest : List Oper} {o : Oper} {a : Act} {Q : Exit → Act → World → Prop} (hgd : o.guard = none) (s x : Operand) (ho : o.op = .call { callee := .builtin .append, args := #[s, x], argTypes := #[K.t, K.t] })
    {A : Option Addr} {cap : Nat} (hown : Win K w (.slice A n cap) n xs) (hs : a.eval s = .slice A n cap) {B : Option Addr} {m c : Nat} {news : List Value} (hr : Rds w K.size B m news) (hx : a.eval x = .slice B m c) (h1 : ∀ u ∈ news, u.oneCell' = true) (hroom : n + m ≤ cap)
    (h : ∀ w2, Win K w2 (.slice A (n + m) cap) (n + m) (xs ++ news) → Chg (fun g => (Value.slice A n cap).ownBlock = some g) w w2 → wpList P ops Q rest (a.put o.dst (.slice A (n + m) cap)) w2) : wpList P ops Q (o :: rest) a w := by
  refine wpList_plain hgd fun K' hK' => ?_
  obtain ⟨w2, hrun, h2, h3⟩ := run_appW_room hown (c := c) hr h1 hroom o.type
  unfold Oper.wp
  have : (execOp a.eval o).run P w = .ok (.value (.slice A (n + m) cap)) w2 := by
    unfold execOp
    simp only [ho, resolve, invoke, builtin, Sem.run_bind, Sem.run_pure, Result.andThen_ok, List.map_toArray, List.map_cons, List.map_nil, hs, hx, hrun]
  rw [this]
  exact hK' _ _ (h w2 h2 h3)

/-- What stands behind a window's elements may be written. -/
theorem Win.beyond {A : Option Addr} {c : Nat} (h : Win K w (.slice A n c) n xs) {ad : Addr} (hA : A = some ad) {k : Nat} (hk : n * K.size ≤ k) (vs : List Value) : Win K (w.setCells ad.block (ad.off + k) vs) (.slice A n c) n xs := by
  refine ⟨h.1, ?_⟩
  rcases h.2 with ⟨e, _⟩ | ⟨g, o, c2, cur, e, hblk, hn, hcap, hfit, hget⟩
  · rw [hA] at e; cases e
  · rw [hA] at e
    injection e with e1 e2 e3
    injection e1 with e1
    subst e1 e3 hA
    refine .inr ⟨g, o, _, _, rfl, hblk.puts _ _ _ _, hn, hcap, by rw [putAll_size]; exact hfit, fun j u hu => ?_⟩
    have hj := (List.getElem?_eq_some_iff.1 hu).1
    rw [putAll_out _ _ _ _ (by have := h.1; simp only; omega)]
    exact hget j u hu
end
theorem Win.small {P : Program} {K : RowKind P} {w : World} {v : Value} {n : Nat} {xs : List Value} (h : Win K w v n xs) : n ≤ 9223372036854775807 := by
  obtain ⟨A, c, _, h1, h2, _⟩ := h.open_
  unfold maxLen at h2
  omega
end Go.Proofs.Yteinbdifncdaiaa
