/-
  Maps of the call's own, over any values: what stands at which key, as a function.
-/
import Derived.Test.YtflaliomkfbagaaBase
import Derived.Maps.OwnSet
namespace Go.Proofs.Ytflaliomkfbagaa
open Go.RowKit Go.Maps

def heldR : Value → Option (DataW Value × List MemPlace) := fun v => some (.held v, [])

/-- How keys of one kind are written, as values and as literals. -/
structure KeyKind (P : Program) (k : TypeId) (α : Type) where
  val : α → Value
  lit : α → Lit
  ok : α → Prop
  keyed : Keyed P k
  is : ∀ a, ok a → keyOf P k (val a) = some (lit a)
  inj : ∀ {a b}, lit a = lit b → a = b

noncomputable def strKey {P : Program} {k : TypeId} (hk : P.underlying k = some .string) : KeyKind P k ByteArray where
  val s := .string s
  lit s := .string s.data.toList
  ok s := s.size ≤ maxLen
  keyed := string_keyed hk
  is _ h := Go.WideMaps.keyOf_string_mk hk h
  inj h := by
    injection h with h
    obtain ⟨⟨a⟩⟩ := ‹ByteArray›
    rename_i b _
    obtain ⟨⟨b⟩⟩ := b
    simp at h
    simp [h]

noncomputable def intKey {P : Program} {k : TypeId} (hk : P.underlying k = some (.int .i64)) : KeyKind P k Int where
  val n := .int .i64 n
  lit n := .int .i64 n
  ok n := (Lit.int .i64 n).wf = true
  keyed := int_keyed hk
  is _ h := keyOf_int_mk hk h
  inj h := by injection h

/-- Block g is a map of n entries; f says what stands at a key. -/
def Mp {P : Program} {k : TypeId} {α : Type} (K : KeyKind P k α) (w : World) (g n : Nat) (f : α → Option Value) : Prop :=
  ∃ D : DataW Value, w.ownsMap P k heldR g n D ∧ Maps.size D = n ∧ ∀ a, Maps.has D (K.lit a) = (f a).isSome ∧ ∀ v, f a = some v → ∀ z, D.atKey (K.lit a) z = .held v

section
variable {P : Program} {k : TypeId} {α : Type} {K : KeyKind P k α} {w w2 : World} {g n : Nat} {f : α → Option Value}

theorem own_tight {b : Nat} {D : DataW Value} (h : w.ownsMap P k heldR g b D) : w.ownsMap P k heldR g (Maps.size D) D := by
  obtain ⟨es, clock, hb, F, _, rfl⟩ := h
  exact ⟨es, clock, hb, F, by simp [Maps.size, length_sorted], rfl⟩

theorem Mp.made (K : KeyKind P k α) (w : World) : Mp K (w.alloc (.map #[] 0)) w.heap.size 0 (fun _ => none) :=
  ⟨_, World.ownsMap_made w P k heldR, rfl, fun _ => ⟨rfl, fun _ h => by cases h⟩⟩
theorem Mp.lt (h : Mp K w g n f) : g < w.heap.size := let ⟨_, h, _⟩ := h; h.lt
theorem Mp.chg {S : Nat → Prop} (h : Mp K w g n f) (hc : Chg S w w2) (hn : ¬ S g) : Mp K w2 g n f := by
  obtain ⟨D, h1, h2, h3⟩ := h
  have hlt := h1.lt
  obtain ⟨es, clock, hb, F, hs, hD⟩ := h1
  exact ⟨D, ⟨es, clock, (hc.block g hlt hn).trans hb, F, hs, hD⟩, h2, h3⟩
theorem Mp.non (h : Mp K w g n f) (hc : Chg Non w w2) : Mp K w2 g n f := h.chg hc id
theorem Mp.alloc (h : Mp K w g n f) (o : Obj) : Mp K (w.alloc o) g n f := h.non ((Chg.refl _ _).alloc o)
theorem Mp.drew (h : Mp K w g n f) : Mp K w.drew g n f := h
theorem Mp.drewN (h : Mp K w g n f) (j : Nat) : Mp K (w.drewN j) g n f := h
theorem Mp.congr {f2 : α → Option Value} (h : Mp K w g n f) (he : ∀ a, f a = f2 a) : Mp K w g n f2 := by
  obtain rfl : f = f2 := funext he
  exact h
/-- A map lies apart from a row of cells. -/
theorem Mp.apart (h : Mp K w g n f) {g2 : Nat} {t : TypeId} {cs : Array Value} (h2 : Blk w g2 t cs) : g ≠ g2 := by
  rintro rfl
  obtain ⟨D, ⟨es, clock, hb, _⟩, _⟩ := h
  unfold Blk at h2
  rw [hb] at h2
  cases h2

theorem Mp.look_ok {t e : TypeId} (h : Mp K w g n f) (ht : P.underlying t = some (.map k e)) {z : Value} (hz : (zeroValue e).run P w = .ok z w) {a : α} (ha : K.ok a) :
    (Instr.lookup t (.map (some g)) (K.val a) true).run P w = .ok (.tuple #[(f a).getD z, .bool (f a).isSome]) w := by
  obtain ⟨D, h1, h2, h3⟩ := h
  obtain ⟨v, ps, hrun, hv⟩ := h1.look_ok K.keyed ht hz (zd := .held z) (zp := []) rfl (K.is a ha)
  rw [hrun, (h3 a).1]
  simp only [heldR, Option.some.injEq, Prod.mk.injEq] at hv
  cases hf : f a with
  | none =>
    have : Maps.has D (K.lit a) = false := by rw [(h3 a).1, hf]; rfl
    rw [Maps.atKey_of_not_has this] at hv
    rw [(DataW.held.inj hv.1)]
    rfl
  | some u =>
    rw [(h3 a).2 u hf] at hv
    rw [(DataW.held.inj hv.1)]
    rfl
theorem Mp.look {t e : TypeId} (h : Mp K w g n f) (ht : P.underlying t = some (.map k e)) {z : Value} (hz : (zeroValue e).run P w = .ok z w) {a : α} (ha : K.ok a) :
    (Instr.lookup t (.map (some g)) (K.val a) false).run P w = .ok ((f a).getD z) w := by
  obtain ⟨D, h1, h2, h3⟩ := h
  obtain ⟨v, ps, hrun, hv⟩ := h1.lookup K.keyed ht hz (zd := .held z) (zp := []) rfl (K.is a ha)
  rw [hrun]
  simp only [heldR, Option.some.injEq, Prod.mk.injEq] at hv
  cases hf : f a with
  | none =>
    have : Maps.has D (K.lit a) = false := by rw [(h3 a).1, hf]; rfl
    rw [Maps.atKey_of_not_has this] at hv
    rw [(DataW.held.inj hv.1)]
    rfl
  | some u =>
    rw [(h3 a).2 u hf] at hv
    rw [(DataW.held.inj hv.1)]
    rfl
theorem Mp.len {t e : TypeId} (h : Mp K w g n f) (ht : P.underlying t = some (.map k e)) (ty : TypeId) : (Builtin.len_ #[t] ty #[.map (some g)]).run P w = .ok (.int .i64 n) w := by
  obtain ⟨D, h1, h2, h3⟩ := h
  rw [h1.len ht ty, h2]

theorem Mp.look_okS {hk : P.underlying k = some .string} {f : ByteArray → Option Value} {t e : TypeId} (h : Mp (strKey hk) w g n f) (ht : P.underlying t = some (.map k e)) {z : Value} (hz : (zeroValue e).run P w = .ok z w) {a : ByteArray} (ha : a.size ≤ maxLen) {u : Option Value} (hu : f a = u) :
    (Instr.lookup t (.map (some g)) (.string a) true).run P w = .ok (.tuple #[u.getD z, .bool u.isSome]) w := hu ▸ h.look_ok ht hz ha
theorem Mp.lookS {hk : P.underlying k = some .string} {f : ByteArray → Option Value} {t e : TypeId} (h : Mp (strKey hk) w g n f) (ht : P.underlying t = some (.map k e)) {z : Value} (hz : (zeroValue e).run P w = .ok z w) {a : ByteArray} (ha : a.size ≤ maxLen) {u : Option Value} (hu : f a = u) :
    (Instr.lookup t (.map (some g)) (.string a) false).run P w = .ok (u.getD z) w := hu ▸ h.look ht hz ha
theorem Mp.look_okI {hk : P.underlying k = some (.int .i64)} {f : Int → Option Value} {t e : TypeId} (h : Mp (intKey hk) w g n f) (ht : P.underlying t = some (.map k e)) {z : Value} (hz : (zeroValue e).run P w = .ok z w) {a : Int} (ha : (Lit.int .i64 a).wf = true) {u : Option Value} (hu : f a = u) :
    (Instr.lookup t (.map (some g)) (.int .i64 a) true).run P w = .ok (.tuple #[u.getD z, .bool u.isSome]) w := hu ▸ h.look_ok ht hz ha
theorem Mp.lookI {hk : P.underlying k = some (.int .i64)} {f : Int → Option Value} {t e : TypeId} (h : Mp (intKey hk) w g n f) (ht : P.underlying t = some (.map k e)) {z : Value} (hz : (zeroValue e).run P w = .ok z w) {a : Int} (ha : (Lit.int .i64 a).wf = true) {u : Option Value} (hu : f a = u) :
    (Instr.lookup t (.map (some g)) (.int .i64 a) false).run P w = .ok (u.getD z) w := hu ▸ h.look ht hz ha

theorem Chg.of_turned (h : w.mapTurned w2 g) : Chg (fun b => b = g) w w2 := (Chg.of_grown h.grown).mono fun b e => by simpa using e.symm

theorem Mp.store [DecidableEq α] {t e : TypeId} (h : Mp K w g n f) (ht : P.underlying t = some (.map k e)) (hn : n < maxLen) {a : α} (ha : K.ok a) (v : Value) :
    ∃ w2, (Instr.mapUpdate t (.map (some g)) (K.val a) v).run P w = .ok () w2 ∧ Mp K w2 g (if (f a).isSome then n else n + 1) (fun b => if b = a then some v else f b) ∧ Chg (fun b => b = g) w w2 := by
  obtain ⟨D, h1, h2, h3⟩ := h
  have hT := h1.tidy K.keyed
  obtain ⟨w2, hrun, r1, r2⟩ := h1.store K.keyed ht hn (d := .held v) (ps := []) (K.is a ha) rfl
  have hsz := Maps.size_put (k := K.lit a) hT (.held v)
  rw [(h3 a).1, h2] at hsz
  refine ⟨w2, hrun, ⟨_, hsz ▸ own_tight r1, hsz, fun b => ?_⟩, Chg.of_turned r2⟩
  have hkey := K.keyed.key (K.is a ha)
  by_cases hb : b = a
  · subst hb
    dsimp only
    rw [if_pos rfl, Maps.has_put_same h1.isMap hkey]
    refine ⟨rfl, fun u hu z => ?_⟩
    obtain rfl := Option.some.inj hu
    exact Maps.atKey_put_same h1.isMap hkey _ z
  · have hne : K.lit b ≠ K.lit a := fun e => hb (K.inj e)
    dsimp only
    rw [if_neg hb, Maps.has_put_other hne]
    exact ⟨(h3 b).1, fun u hu z => by rw [Maps.atKey_put_other hne]; exact (h3 b).2 u hu z⟩

theorem Mp.drop [DecidableEq α] {t e : TypeId} (h : Mp K w g n f) (ht : P.underlying t = some (.map k e)) {a : α} (ha : K.ok a) (ty : TypeId) :
    ∃ w2, (Builtin.delete_ #[t, k] ty #[.map (some g), K.val a]).run P w = .ok (.tuple #[]) w2 ∧ Mp K w2 g (if (f a).isSome then n - 1 else n) (fun b => if b = a then none else f b) ∧ Chg (fun b => b = g) w w2 := by
  obtain ⟨D, h1, h2, h3⟩ := h
  have hT := h1.tidy K.keyed
  obtain ⟨w2, hrun, r1, r2⟩ := h1.drop K.keyed ht (K.is a ha) ty
  have hsz := Maps.size_del (k := K.lit a) hT
  rw [(h3 a).1, h2] at hsz
  have hsz2 : Maps.size (D.del (K.lit a)) = if (f a).isSome then n - 1 else n := by
    cases h : (f a).isSome <;> simp [h] at hsz ⊢ <;> omega
  refine ⟨w2, hrun, ⟨_, hsz2 ▸ own_tight r1, hsz2, fun b => ?_⟩, Chg.of_turned r2⟩
  by_cases hb : b = a
  · subst hb
    dsimp only
    rw [if_pos rfl, Maps.has_del_same]
    exact ⟨rfl, fun u hu => by cases hu⟩
  · have hne : K.lit b ≠ K.lit a := fun e => hb (K.inj e)
    dsimp only
    rw [if_neg hb, Maps.has_del_other hne]
    exact ⟨(h3 b).1, fun u hu z => by rw [Maps.atKey_del_other hne]; exact (h3 b).2 u hu z⟩
end

section
variable {P : Program} {k : TypeId} {α : Type} [DecidableEq α] {K : KeyKind P k α} {w : World} {g n : Nat} {f : α → Option Value} {ops : Array Oper} {rest : List Oper} {o : Oper} {a : Act} {Q : Exit → Act → World → Prop}

/-- 'm[k] = v' at the operation. -/
theorem wp_store_Mp (hg : o.guard = none) (m x v : Operand) (t : TypeId) (hop : o.op = Op.mapUpdate t m x v) {e : TypeId} (h : Mp K w g n f) (ht : P.underlying t = some (.map k e)) (hn : n < maxLen)
    (hm : a.eval m = .map (some g)) {b : α} (hb : K.ok b) (hx : a.eval x = K.val b) {u : Value} (hv : a.eval v = u)
    (hK : ∀ w2, Mp K w2 g (if (f b).isSome then n else n + 1) (fun c => if c = b then some u else f c) → Chg (fun j => j = g) w w2 → wpList P ops Q rest (a.put o.dst undef) w2) : wpList P ops Q (o :: rest) a w := by
  refine wpList_plain hg fun K' hK' => ?_
  obtain ⟨w2, hrun, r1, r2⟩ := h.store ht hn hb u
  unfold Oper.wp
  simp [execOp, hop, hm, hx, hv, hrun, Result.andThen]
  exact hK' _ _ (hK w2 r1 r2)
/-- 'delete(m, k)' at the operation. -/
theorem wp_delete_Mp (hg : o.guard = none) (m x : Operand) (t : TypeId) (hop : o.op = Op.call { callee := Callee.builtin Builtin.delete, args := #[m, x], argTypes := #[t, k] }) {e : TypeId} (h : Mp K w g n f) (ht : P.underlying t = some (.map k e))
    (hm : a.eval m = .map (some g)) {b : α} (hb : K.ok b) (hx : a.eval x = K.val b)
    (hK : ∀ w2, Mp K w2 g (if (f b).isSome then n - 1 else n) (fun c => if c = b then none else f c) → Chg (fun j => j = g) w w2 → wpList P ops Q rest (a.put o.dst (.tuple #[])) w2) : wpList P ops Q (o :: rest) a w := by
  refine wpList_plain hg fun K' hK' => ?_
  obtain ⟨w2, hrun, r1, r2⟩ := h.drop ht hb o.type
  unfold Oper.wp
  simp [execOp, hop, resolve, invoke, builtin, hm, hx, hrun, Result.andThen]
  exact hK' _ _ (hK w2 r1 r2)
end
end Go.Proofs.Ytflaliomkfbagaa
