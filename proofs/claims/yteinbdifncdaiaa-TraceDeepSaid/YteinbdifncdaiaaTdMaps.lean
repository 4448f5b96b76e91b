/-
  Maps of the call's own, over any values: what stands at which key, as a function.
  Maps of sets: to each key a map of its own whose values are 'true'.
-/
import Derived.Test.YteinbdifncdaiaaTdBase
import Derived.Maps.OwnSet
namespace Go.Proofs.Yteinbdifncdaiaa
open Go.RowKit
set_option linter.unusedVariables false
set_option linter.unusedSimpArgs false

open Go.RowKit Go.Maps

def heldR : Value → Option (DataW Value × List MemPlace) := fun v => some (.held v, [])

/-- How keys of one kind are written, as values and as literals. -/
structure KeyKind (P : Program) (k : TypeId) (α : Type) where
  val : α → Value
  lit : α → Lit
  ok : α → Prop
  keyed : Keyed P k
  is : ∀ a, ok a → keyOf P k (val a) = some (lit a)
  inj : ∀ {a b}, lit a = lit b → a = b

noncomputable def strKey {P : Program} {k : TypeId} (hk : P.underlying k = some .string) : KeyKind P k ByteArray where
  val s := .string s
  lit s := .string s.data.toList
  ok s := s.size ≤ maxLen
  keyed := string_keyed hk
  is _ h := Go.WideMaps.keyOf_string_mk hk h
  inj h := by
    injection h with h
    obtain ⟨⟨a⟩⟩ := ‹ByteArray›
    rename_i b _
    obtain ⟨⟨b⟩⟩ := b
    simp at h
    simp [h]

noncomputable def intKey {P : Program} {k : TypeId} (hk : P.underlying k = some (.int .i64)) : KeyKind P k Int where
  val n := .int .i64 n
  lit n := .int .i64 n
  ok n := (Lit.int .i64 n).wf = true
  keyed := int_keyed hk
  is _ h := keyOf_int_mk hk h
  inj h := by injection h

/-- Block g is a map of n entries; f says what stands at a key. -/
def Mp {P : Program} {k : TypeId} {α : Type} (K : KeyKind P k α) (w : World) (g n : Nat) (f : α → Option Value) : Prop :=
  ∃ D : DataW Value, w.ownsMap P k heldR g n D ∧ Maps.size D = n ∧ ∀ a, Maps.has D (K.lit a) = (f a).isSome ∧ ∀ v, f a = some v → ∀ z, D.atKey (K.lit a) z = .held v

section
variable {P : Program} {k : TypeId} {α : Type} {K : KeyKind P k α} {w w2 : World} {g n : Nat} {f : α → Option Value}

theorem own_tight {b : Nat} {D : DataW Value} (h : w.ownsMap P k heldR g b D) : w.ownsMap P k heldR g (Maps.size D) D := by
  obtain ⟨es, clock, hb, F, _, rfl⟩ := h
  exact ⟨es, clock, hb, F, by simp [Maps.size, length_sorted], rfl⟩

theorem Mp.made (K : KeyKind P k α) (w : World) : Mp K (w.alloc (.map #[] 0)) w.heap.size 0 (fun _ => none) :=
  ⟨_, World.ownsMap_made w P k heldR, rfl, fun _ => ⟨rfl, fun _ h => by cases h⟩⟩
theorem Mp.lt (h : Mp K w g n f) : g < w.heap.size := let ⟨_, h, _⟩ := h; h.lt
theorem Mp.chg {S : Nat → Prop} (h : Mp K w g n f) (hc : Chg S w w2) (hn : ¬ S g) : Mp K w2 g n f := by
  obtain ⟨D, h1, h2, h3⟩ := h
  have hlt := h1.lt
  obtain ⟨es, clock, hb, F, hs, hD⟩ := h1
  exact ⟨D, ⟨es, clock, (hc.block g hlt hn).trans hb, F, hs, hD⟩, h2, h3⟩
theorem Mp.non (h : Mp K w g n f) (hc : Chg Non w w2) : Mp K w2 g n f := h.chg hc id
theorem Mp.alloc (h : Mp K w g n f) (o : Obj) : Mp K (w.alloc o) g n f := h.non ((Chg.refl _ _).alloc o)
theorem Mp.drew (h : Mp K w g n f) : Mp K w.drew g n f := h
theorem Mp.drewN (h : Mp K w g n f) (j : Nat) : Mp K (w.drewN j) g n f := h
theorem Mp.congr {f2 : α → Option Value} (h : Mp K w g n f) (he : ∀ a, f a = f2 a) : Mp K w g n f2 := by
  obtain rfl : f = f2 := funext he
  exact h
/-- A map lies apart from a row of cells. -/
theorem Mp.apart (h : Mp K w g n f) {g2 : Nat} {t : TypeId} {cs : Array Value} (h2 : Blk w g2 t cs) : g ≠ g2 := by
  rintro rfl
  obtain ⟨D, ⟨es, clock, hb, _⟩, _⟩ := h
  unfold Blk at h2
  rw [hb] at h2
  cases h2

theorem Mp.look_ok {t e : TypeId} (h : Mp K w g n f) (ht : P.underlying t = some (.map k e)) {z : Value} (hz : (zeroValue e).run P w = .ok z w) {a : α} (ha : K.ok a) :
    (Instr.lookup t (.map (some g)) (K.val a) true).run P w = .ok (.tuple #[(f a).getD z, .bool (f a).isSome]) w := by
  obtain ⟨D, h1, h2, h3⟩ := h
  obtain ⟨v, ps, hrun, hv⟩ := h1.look_ok K.keyed ht hz (zd := .held z) (zp := []) rfl (K.is a ha)
  rw [hrun, (h3 a).1]
  simp only [heldR, Option.some.injEq, Prod.mk.injEq] at hv
  cases hf : f a with
  | none =>
    have : Maps.has D (K.lit a) = false := by rw [(h3 a).1, hf]; rfl
    rw [Maps.atKey_of_not_has this] at hv
    rw [(DataW.held.inj hv.1)]
    rfl
  | some u =>
    rw [(h3 a).2 u hf] at hv
    rw [(DataW.held.inj hv.1)]
    rfl
theorem Mp.look {t e : TypeId} (h : Mp K w g n f) (ht : P.underlying t = some (.map k e)) {z : Value} (hz : (zeroValue e).run P w = .ok z w) {a : α} (ha : K.ok a) :
    (Instr.lookup t (.map (some g)) (K.val a) false).run P w = .ok ((f a).getD z) w := by
  obtain ⟨D, h1, h2, h3⟩ := h
  obtain ⟨v, ps, hrun, hv⟩ := h1.lookup K.keyed ht hz (zd := .held z) (zp := []) rfl (K.is a ha)
  rw [hrun]
  simp only [heldR, Option.some.injEq, Prod.mk.injEq] at hv
  cases hf : f a with
  | none =>
    have : Maps.has D (K.lit a) = false := by rw [(h3 a).1, hf]; rfl
    rw [Maps.atKey_of_not_has this] at hv
    rw [(DataW.held.inj hv.1)]
    rfl
  | some u =>
    rw [(h3 a).2 u hf] at hv
    rw [(DataW.held.inj hv.1)]
    rfl
theorem Mp.len {t e : TypeId} (h : Mp K w g n f) (ht : P.underlying t = some (.map k e)) (ty : TypeId) : (Builtin.len_ #[t] ty #[.map (some g)]).run P w = .ok (.int .i64 n) w := by
  obtain ⟨D, h1, h2, h3⟩ := h
  rw [h1.len ht ty, h2]

theorem Mp.look_okS {hk : P.underlying k = some .string} {f : ByteArray → Option Value} {t e : TypeId} (h : Mp (strKey hk) w g n f) (ht : P.underlying t = some (.map k e)) {z : Value} (hz : (zeroValue e).run P w = .ok z w) {a : ByteArray} (ha : a.size ≤ maxLen) {u : Option Value} (hu : f a = u) :
    (Instr.lookup t (.map (some g)) (.string a) true).run P w = .ok (.tuple #[u.getD z, .bool u.isSome]) w := hu ▸ h.look_ok ht hz ha
theorem Mp.lookS {hk : P.underlying k = some .string} {f : ByteArray → Option Value} {t e : TypeId} (h : Mp (strKey hk) w g n f) (ht : P.underlying t = some (.map k e)) {z : Value} (hz : (zeroValue e).run P w = .ok z w) {a : ByteArray} (ha : a.size ≤ maxLen) {u : Option Value} (hu : f a = u) :
    (Instr.lookup t (.map (some g)) (.string a) false).run P w = .ok (u.getD z) w := hu ▸ h.look ht hz ha
theorem Mp.look_okI {hk : P.underlying k = some (.int .i64)} {f : Int → Option Value} {t e : TypeId} (h : Mp (intKey hk) w g n f) (ht : P.underlying t = some (.map k e)) {z : Value} (hz : (zeroValue e).run P w = .ok z w) {a : Int} (ha : (Lit.int .i64 a).wf = true) {u : Option Value} (hu : f a = u) :
    (Instr.lookup t (.map (some g)) (.int .i64 a) true).run P w = .ok (.tuple #[u.getD z, .bool u.isSome]) w := hu ▸ h.look_ok ht hz ha
theorem Mp.lookI {hk : P.underlying k = some (.int .i64)} {f : Int → Option Value} {t e : TypeId} (h : Mp (intKey hk) w g n f) (ht : P.underlying t = some (.map k e)) {z : Value} (hz : (zeroValue e).run P w = .ok z w) {a : Int} (ha : (Lit.int .i64 a).wf = true) {u : Option Value} (hu : f a = u) :
    (Instr.lookup t (.map (some g)) (.int .i64 a) false).run P w = .ok (u.getD z) w := hu ▸ h.look ht hz ha

theorem Chg.of_turned (h : w.mapTurned w2 g) : Chg (fun b => b = g) w w2 := (Chg.of_grown h.grown).mono fun b e => by simpa using e.symm

theorem Mp.store [DecidableEq α] {t e : TypeId} (h : Mp K w g n f) (ht : P.underlying t = some (.map k e)) (hn : n < maxLen) {a : α} (ha : K.ok a) (v : Value) :
    ∃ w2, (Instr.mapUpdate t (.map (some g)) (K.val a) v).run P w = .ok () w2 ∧ Mp K w2 g (if (f a).isSome then n else n + 1) (fun b => if b = a then some v else f b) ∧ Chg (fun b => b = g) w w2 := by
  obtain ⟨D, h1, h2, h3⟩ := h
  have hT := h1.tidy K.keyed
  obtain ⟨w2, hrun, r1, r2⟩ := h1.store K.keyed ht hn (d := .held v) (ps := []) (K.is a ha) rfl
  have hsz := Maps.size_put (k := K.lit a) hT (.held v)
  rw [(h3 a).1, h2] at hsz
  refine ⟨w2, hrun, ⟨_, hsz ▸ own_tight r1, hsz, fun b => ?_⟩, Chg.of_turned r2⟩
  have hkey := K.keyed.key (K.is a ha)
  by_cases hb : b = a
  · subst hb
    dsimp only
    rw [if_pos rfl, Maps.has_put_same h1.isMap hkey]
    refine ⟨rfl, fun u hu z => ?_⟩
    obtain rfl := Option.some.inj hu
    exact Maps.atKey_put_same h1.isMap hkey _ z
  · have hne : K.lit b ≠ K.lit a := fun e => hb (K.inj e)
    dsimp only
    rw [if_neg hb, Maps.has_put_other hne]
    exact ⟨(h3 b).1, fun u hu z => by rw [Maps.atKey_put_other hne]; exact (h3 b).2 u hu z⟩

theorem Mp.drop [DecidableEq α] {t e : TypeId} (h : Mp K w g n f) (ht : P.underlying t = some (.map k e)) {a : α} (ha : K.ok a) (ty : TypeId) :
    ∃ w2, (Builtin.delete_ #[t, k] ty #[.map (some g), K.val a]).run P w = .ok (.tuple #[]) w2 ∧ Mp K w2 g (if (f a).isSome then n - 1 else n) (fun b => if b = a then none else f b) ∧ Chg (fun b => b = g) w w2 := by
  obtain ⟨D, h1, h2, h3⟩ := h
  have hT := h1.tidy K.keyed
  obtain ⟨w2, hrun, r1, r2⟩ := h1.drop K.keyed ht (K.is a ha) ty
  have hsz := Maps.size_del (k := K.lit a) hT
  rw [(h3 a).1, h2] at hsz
  have hsz2 : Maps.size (D.del (K.lit a)) = if (f a).isSome then n - 1 else n := by
    cases h : (f a).isSome <;> simp [h] at hsz ⊢ <;> omega
  refine ⟨w2, hrun, ⟨_, hsz2 ▸ own_tight r1, hsz2, fun b => ?_⟩, Chg.of_turned r2⟩
  by_cases hb : b = a
  · subst hb
    dsimp only
    rw [if_pos rfl, Maps.has_del_same]
    exact ⟨rfl, fun u hu => by cases hu⟩
  · have hne : K.lit b ≠ K.lit a := fun e => hb (K.inj e)
    dsimp only
    rw [if_neg hb, Maps.has_del_other hne]
    exact ⟨(h3 b).1, fun u hu z => by rw [Maps.atKey_del_other hne]; exact (h3 b).2 u hu z⟩
end

section
variable {P : Program} {k : TypeId} {α : Type} [DecidableEq α] {K : KeyKind P k α} {w : World} {g n : Nat} {f : α → Option Value} {ops : Array Oper} {rest : List Oper} {o : Oper} {a : Act} {Q : Exit → Act → World → Prop}

/-- 'm[k] = v' at the operation. -/
theorem wp_store_Mp (hg : o.guard = none) (m x v : Operand) (t : TypeId) (hop : o.op = Op.mapUpdate t m x v) {e : TypeId} (h : Mp K w g n f) (ht : P.underlying t = some (.map k e)) (hn : n < maxLen)
    (hm : a.eval m = .map (some g)) {b : α} (hb : K.ok b) (hx : a.eval x = K.val b) {u : Value} (hv : a.eval v = u)
    (hK : ∀ w2, Mp K w2 g (if (f b).isSome then n else n + 1) (fun c => if c = b then some u else f c) → Chg (fun j => j = g) w w2 → wpList P ops Q rest (a.put o.dst undef) w2) : wpList P ops Q (o :: rest) a w := by
  refine wpList_plain hg fun K' hK' => ?_
  obtain ⟨w2, hrun, r1, r2⟩ := h.store ht hn hb u
  unfold Oper.wp
  simp [execOp, hop, hm, hx, hv, hrun, Result.andThen]
  exact hK' _ _ (hK w2 r1 r2)
/-- 'delete(m, k)' at the operation. -/
theorem wp_delete_Mp (hg : o.guard = none) (m x : Operand) (t : TypeId) (hop : o.op = Op.call { callee := Callee.builtin Builtin.delete, args := #[m, x], argTypes := #[t, k] }) {e : TypeId} (h : Mp K w g n f) (ht : P.underlying t = some (.map k e))
    (hm : a.eval m = .map (some g)) {b : α} (hb : K.ok b) (hx : a.eval x = K.val b)
    (hK : ∀ w2, Mp K w2 g (if (f b).isSome then n - 1 else n) (fun c => if c = b then none else f c) → Chg (fun j => j = g) w w2 → wpList P ops Q rest (a.put o.dst (.tuple #[])) w2) : wpList P ops Q (o :: rest) a w := by
  refine wpList_plain hg fun K' hK' => ?_
  obtain ⟨w2, hrun, r1, r2⟩ := h.drop ht hb o.type
  unfold Oper.wp
  simp [execOp, hop, resolve, invoke, builtin, hm, hx, hrun, Result.andThen]
  exact hK' _ _ (hK w2 r1 r2)
end

open Go.RowKit Go.Maps

def inF {β : Type} (p : β → Bool) (x : β) : Option Value := if p x then some (.bool true) else none
def toM {α : Type} (f : α → Option Nat) (a : α) : Option Value := (f a).map fun b => Value.map (some b)
theorem inF_some {β : Type} (p : β → Bool) (x : β) : (inF p x).isSome = p x := by
  unfold inF
  cases p x <;> rfl
theorem toM_some {α : Type} (f : α → Option Nat) (a : α) : (toM f a).isSome = (f a).isSome := by
  unfold toM
  cases f a <;> rfl

/-- Block m is a map of sets, n of them: f says where each lies, D what is in each (at most q things); F: the blocks that it uses. -/
structure Sets {P : Program} {k k2 : TypeId} {α β : Type} (K : KeyKind P k α) (K2 : KeyKind P k2 β) (w : World) (F : Nat → Prop) (m n : Nat) (f : α → Option Nat) (D : α → β → Bool) (q : Nat) : Prop where
  map : Mp K w m n (toM f)
  inn : ∀ a b, f a = some b → F b ∧ b ≠ m ∧ ∃ c, c ≤ q ∧ Mp K2 w b c (inF (D a))
  no : ∀ a, f a = none → ∀ x, D a x = false
  inj : ∀ a a2 b, f a = some b → f a2 = some b → a = a2
  Fm : F m
  lt : ∀ b, F b → b < w.heap.size

section
variable {P : Program} {k k2 : TypeId} {α β : Type} {K : KeyKind P k α} {K2 : KeyKind P k2 β} {w w2 : World} {F : Nat → Prop} {m n : Nat} {f : α → Option Nat} {D : α → β → Bool} {q : Nat}

theorem Sets.chg {S : Nat → Prop} (h : Sets K K2 w F m n f D q) (hc : Chg S w w2) (hs : ∀ b, F b → ¬ S b) : Sets K K2 w2 F m n f D q :=
  ⟨h.map.chg hc (hs _ h.Fm), fun a b e => ⟨(h.inn a b e).1, (h.inn a b e).2.1, (h.inn a b e).2.2.imp fun c hc2 => ⟨hc2.1, hc2.2.chg hc (hs _ (h.inn a b e).1)⟩⟩, h.no, h.inj, h.Fm, fun b hb => Nat.lt_of_lt_of_le (h.lt b hb) hc.size⟩
theorem Sets.non (h : Sets K K2 w F m n f D q) (hc : Chg Non w w2) : Sets K K2 w2 F m n f D q := h.chg hc fun _ _ => id
theorem Sets.made (h : Mp K w m 0 (fun _ => none)) : Sets K K2 w (fun b => b = m) m 0 (fun _ => none) (fun _ _ => false) 0 :=
  ⟨h, fun a b e => (by cases e), fun _ _ _ => rfl, fun a a2 b e => (by cases e), rfl, fun b e => (show b = m from e) ▸ h.lt⟩
theorem Sets.more {q2 : Nat} (h : Sets K K2 w F m n f D q) (hq : q ≤ q2) : Sets K K2 w F m n f D q2 :=
  ⟨h.map, fun a b e => ⟨(h.inn a b e).1, (h.inn a b e).2.1, (h.inn a b e).2.2.imp fun c hc => ⟨Nat.le_trans hc.1 hq, hc.2⟩⟩, h.no, h.inj, h.Fm, h.lt⟩
theorem Sets.wide {F2 : Nat → Prop} (h : Sets K K2 w F m n f D q) (hF : ∀ b, F b → F2 b) (hl : ∀ b, F2 b → b < w.heap.size) : Sets K K2 w F2 m n f D q :=
  ⟨h.map, fun a b e => ⟨hF _ (h.inn a b e).1, (h.inn a b e).2⟩, h.no, h.inj, hF _ h.Fm, hl⟩
theorem Sets.congr {D2 : α → β → Bool} (h : Sets K K2 w F m n f D q) (hD : ∀ a x, D a x = D2 a x) : Sets K K2 w F m n f D2 q := by
  obtain rfl : D = D2 := funext fun a => funext fun x => hD a x
  exact h
/-- The blocks that it uses, no others. -/
def tightF {α : Type} (m : Nat) (f : α → Option Nat) (b : Nat) : Prop := b = m ∨ ∃ a, f a = some b
theorem Sets.tight (h : Sets K K2 w F m n f D q) : Sets K K2 w (tightF m f) m n f D q :=
  ⟨h.map, fun a b e => ⟨.inr ⟨a, e⟩, (h.inn a b e).2⟩, h.no, h.inj, .inl rfl, fun b hb => hb.elim (fun e => h.lt b (e ▸ h.Fm)) (fun ⟨a, e⟩ => h.lt b (h.inn a b e).1)⟩
theorem Sets.tightF (h : Sets K K2 w F m n f D q) {b : Nat} (hb : tightF m f b) : F b := hb.elim (fun e => e ▸ h.Fm) (fun ⟨a, e⟩ => (h.inn a b e).1)
theorem Sets.notBlk (h : Sets K K2 w F m n f D q) {g : Nat} {t : TypeId} {cs : Array Value} (hb : Blk w g t cs) : ¬ Yteinbdifncdaiaa.tightF m f g := by
  rintro (e | ⟨a, e⟩)
  · exact h.map.apart hb e.symm
  · obtain ⟨_, _, c, _, hm⟩ := h.inn a g e
    exact hm.apart hb rfl
end
section
variable {P : Program} {k k2 : TypeId} {α β : Type} [DecidableEq α] [DecidableEq β] {K : KeyKind P k α} {K2 : KeyKind P k2 β} {w w1 w2 : World} {F : Nat → Prop} {m n : Nat} {f : α → Option Nat} {D : α → β → Bool} {q : Nat}
omit [DecidableEq β] in
/-- A new, empty set at a new key. -/
theorem Sets.add (h : Sets K K2 w F m n f D q) {a : α} (hf : f a = none) {n2 : Nat} (hm : Mp K w2 m n2 (fun b => if b = a then some (.map (some w.heap.size)) else toM f b)) (hc : Chg (fun b => b = m) (w.alloc (.map #[] 0)) w2) :
    Sets K K2 w2 (fun b => F b ∨ b = w.heap.size) m n2 (fun b => if b = a then some w.heap.size else f b) D q := by
  have hml := h.lt m h.Fm
  have hcA : Chg Non w (w.alloc (.map #[] 0)) := (Chg.refl _ _).alloc _
  have hs2 := hc.size
  refine ⟨hm.congr (fun b => ?_), fun b c e => ?_, fun b e => ?_, fun b b2 c e e2 => ?_, .inl h.Fm, fun b hb => ?_⟩
  · unfold toM
    dsimp only
    by_cases e : b = a
    · rw [if_pos e, if_pos e]; rfl
    · rw [if_neg e, if_neg e]
  · by_cases eb : b = a
    · subst eb
      rw [if_pos rfl] at e
      obtain rfl := Option.some.inj e
      refine ⟨.inr rfl, by omega, 0, Nat.zero_le _, ?_⟩
      refine ((Mp.made K2 w).chg hc (by omega)).congr (fun x => ?_)
      unfold inF
      rw [h.no _ hf x]
      rfl
    · rw [if_neg eb] at e
      obtain ⟨h1, h2, c2, h3, h4⟩ := h.inn b c e
      exact ⟨.inl h1, h2, c2, h3, (h4.non hcA).chg hc h2⟩
  · by_cases eb : b = a
    · rw [if_pos eb] at e; cases e
    · rw [if_neg eb] at e; exact h.no b e
  · have hlt : ∀ b c, f b = some c → c < w.heap.size := fun b c e => h.lt _ (h.inn b c e).1
    by_cases eb : b = a <;> by_cases eb2 : b2 = a
    · rw [eb, eb2]
    · rw [if_pos eb] at e; rw [if_neg eb2] at e2
      have := hlt _ _ e2
      have := Option.some.inj e
      omega
    · rw [if_neg eb] at e; rw [if_pos eb2] at e2
      have := hlt _ _ e
      have := Option.some.inj e2
      omega
    · rw [if_neg eb] at e; rw [if_neg eb2] at e2
      exact h.inj _ _ _ e e2
  · simp at hs2
    rcases hb with hb | hb
    · have := h.lt b hb; omega
    · omega
/-- One more in a set. -/
theorem Sets.put (h : Sets K K2 w F m n f D q) {a : α} {b : Nat} (hf : f a = some b) {x : β} {c : Nat} (hq : c ≤ q + 1) (hm : Mp K2 w2 b c (fun y => if y = x then some (.bool true) else inF (D a) y)) (hc : Chg (fun g => g = b) w w2) :
    Sets K K2 w2 F m n f (fun a2 y => D a2 y || (decide (a2 = a) && decide (y = x))) (q + 1) := by
  obtain ⟨h1, h2, _⟩ := h.inn a b hf
  refine ⟨h.map.chg hc (fun e => h2 e.symm), fun a2 b2 e => ?_, fun a2 e y => ?_, h.inj, h.Fm, fun b hb => Nat.lt_of_lt_of_le (h.lt b hb) hc.size⟩
  · by_cases ea : a2 = a
    · subst ea
      rw [hf] at e
      obtain rfl := Option.some.inj e
      refine ⟨h1, h2, c, hq, hm.congr (fun y => ?_)⟩
      unfold inF
      by_cases ey : y = x <;> simp [ey]
    · obtain ⟨g1, g2, c2, g3, g4⟩ := h.inn a2 b2 e
      refine ⟨g1, g2, c2, by omega, (g4.chg hc (fun e2 => ea (h.inj _ _ _ (by rw [e, show b2 = b from e2]) hf))).congr (fun y => ?_)⟩
      simp [inF, ea]
  · have ea : a2 ≠ a := fun e2 => by rw [e2, hf] at e; cases e
    simp [h.no a2 e y, ea]
omit [DecidableEq β] in
/-- A key goes, with its set. -/
theorem Sets.drop (h : Sets K K2 w F m n f D q) {a : α} {n2 : Nat} (hm : Mp K w2 m n2 (fun b => if b = a then none else toM f b)) (hc : Chg (fun b => b = m) w w2) :
    Sets K K2 w2 F m n2 (fun b => if b = a then none else f b) (fun a2 y => !decide (a2 = a) && D a2 y) q := by
  refine ⟨hm.congr (fun b => ?_), fun a2 b2 e => ?_, fun a2 e y => ?_, fun b b2 c e e2 => ?_, h.Fm, fun b hb => Nat.lt_of_lt_of_le (h.lt b hb) hc.size⟩
  · unfold toM
    dsimp only
    by_cases e : b = a
    · rw [if_pos e, if_pos e]; rfl
    · rw [if_neg e, if_neg e]
  · by_cases ea : a2 = a
    · rw [if_pos ea] at e; cases e
    · rw [if_neg ea] at e
      obtain ⟨g1, g2, c2, g3, g4⟩ := h.inn a2 b2 e
      exact ⟨g1, g2, c2, g3, (g4.chg hc g2).congr (fun y => by simp [inF, ea])⟩
  · by_cases ea : a2 = a
    · simp [ea]
    · rw [if_neg ea] at e
      simp [h.no a2 e y]
  · by_cases eb : b = a
    · rw [if_pos eb] at e; cases e
    · by_cases eb2 : b2 = a
      · rw [if_pos eb2] at e2; cases e2
      · rw [if_neg eb] at e; rw [if_neg eb2] at e2
        exact h.inj _ _ _ e e2
/-- One less in a set. -/
theorem Sets.out (h : Sets K K2 w F m n f D q) {a : α} {b : Nat} (hf : f a = some b) {x : β} {c : Nat} (hq : c ≤ q) (hm : Mp K2 w2 b c (fun y => if y = x then none else inF (D a) y)) (hc : Chg (fun g => g = b) w w2) :
    Sets K K2 w2 F m n f (fun a2 y => D a2 y && !(decide (a2 = a) && decide (y = x))) q := by
  obtain ⟨h1, h2, _⟩ := h.inn a b hf
  refine ⟨h.map.chg hc (fun e => h2 e.symm), fun a2 b2 e => ?_, fun a2 e y => ?_, h.inj, h.Fm, fun b hb => Nat.lt_of_lt_of_le (h.lt b hb) hc.size⟩
  · by_cases ea : a2 = a
    · subst ea
      rw [hf] at e
      obtain rfl := Option.some.inj e
      refine ⟨h1, h2, c, hq, hm.congr (fun y => ?_)⟩
      unfold inF
      by_cases ey : y = x <;> simp [ey]
    · obtain ⟨g1, g2, c2, g3, g4⟩ := h.inn a2 b2 e
      refine ⟨g1, g2, c2, g3, (g4.chg hc (fun e2 => ea (h.inj _ _ _ (by rw [e, show b2 = b from e2]) hf))).congr (fun y => ?_)⟩
      simp [inF, ea]
  · simp [h.no a2 e y]
end
theorem Rds.chgK {w w2 : World} {size n : Nat} {A : Option Addr} {xs : List Value} {S : Nat → Prop} (h : Rds w size A n xs) (hc : Chg S w w2) (hn : 0 < n → ∀ ad, A = some ad → ¬ S ad.block) : Rds w2 size A n xs :=
  ⟨h.1, fun h0 => by
    obtain ⟨ad, e, hx⟩ := h.2 h0
    exact ⟨ad, e, fun j u hu => hc.cell (hx j u hu) (by rw [block_add]; exact hn h0 ad e)⟩⟩
end Go.Proofs.Yteinbdifncdaiaa
