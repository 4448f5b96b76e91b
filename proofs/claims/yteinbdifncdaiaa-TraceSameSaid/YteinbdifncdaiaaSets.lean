/-
  Maps of sets: to each key a map of its own whose values are 'true'.
-/
import Derived.Test.YteinbdifncdaiaaMaps
namespace Go.Proofs.Yteinbdifncdaiaa
open Go.RowKit Go.Maps
set_option linter.unusedVariables false
set_option linter.unusedSimpArgs false

def inF {β : Type} (p : β → Bool) (x : β) : Option Value := if p x then some (.bool true) else none
def toM {α : Type} (f : α → Option Nat) (a : α) : Option Value := (f a).map fun b => Value.map (some b)
theorem inF_some {β : Type} (p : β → Bool) (x : β) : (inF p x).isSome = p x := by
  unfold inF
  cases p x <;> rfl
theorem toM_some {α : Type} (f : α → Option Nat) (a : α) : (toM f a).isSome = (f a).isSome := by
  unfold toM
  cases f a <;> rfl

/-- Block m is a map of sets, n of them: f says where each lies, D what is in each (at most q things); F: the blocks that it uses. -/
structure Sets {P : Program} {k k2 : TypeId} {α β : Type} (K : KeyKind P k α) (K2 : KeyKind P k2 β) (w : World) (F : Nat → Prop) (m n : Nat) (f : α → Option Nat) (D : α → β → Bool) (q : Nat) : Prop where
  map : Mp K w m n (toM f)
  inn : ∀ a b, f a = some b → F b ∧ b ≠ m ∧ ∃ c, c ≤ q ∧ Mp K2 w b c (inF (D a))
  no : ∀ a, f a = none → ∀ x, D a x = false
  inj : ∀ a a2 b, f a = some b → f a2 = some b → a = a2
  Fm : F m
  lt : ∀ b, F b → b < w.heap.size

section
variable {P : Program} {k k2 : TypeId} {α β : Type} {K : KeyKind P k α} {K2 : KeyKind P k2 β} {w w2 : World} {F : Nat → Prop} {m n : Nat} {f : α → Option Nat} {D : α → β → Bool} {q : Nat}

theorem Sets.chg {S : Nat → Prop} (h : Sets K K2 w F m n f D q) (hc : Chg S w w2) (hs : ∀ b, F b → ¬ S b) : Sets K K2 w2 F m n f D q :=
  ⟨h.map.chg hc (hs _ h.Fm), fun a b e => ⟨(h.inn a b e).1, (h.inn a b e).2.1, (h.inn a b e).2.2.imp fun c hc2 => ⟨hc2.1, hc2.2.chg hc (hs _ (h.inn a b e).1)⟩⟩, h.no, h.inj, h.Fm, fun b hb => Nat.lt_of_lt_of_le (h.lt b hb) hc.size⟩
theorem Sets.non (h : Sets K K2 w F m n f D q) (hc : Chg Non w w2) : Sets K K2 w2 F m n f D q := h.chg hc fun _ _ => id
theorem Sets.made (h : Mp K w m 0 (fun _ => none)) : Sets K K2 w (fun b => b = m) m 0 (fun _ => none) (fun _ _ => false) 0 :=
  ⟨h, fun a b e => (by cases e), fun _ _ _ => rfl, fun a a2 b e => (by cases e), rfl, fun b e => (show b = m from e) ▸ h.lt⟩
theorem Sets.more {q2 : Nat} (h : Sets K K2 w F m n f D q) (hq : q ≤ q2) : Sets K K2 w F m n f D q2 :=
  ⟨h.map, fun a b e => ⟨(h.inn a b e).1, (h.inn a b e).2.1, (h.inn a b e).2.2.imp fun c hc => ⟨Nat.le_trans hc.1 hq, hc.2⟩⟩, h.no, h.inj, h.Fm, h.lt⟩
theorem Sets.wide {F2 : Nat → Prop} (h : Sets K K2 w F m n f D q) (hF : ∀ b, F b → F2 b) (hl : ∀ b, F2 b → b < w.heap.size) : Sets K K2 w F2 m n f D q :=
  ⟨h.map, fun a b e => ⟨hF _ (h.inn a b e).1, (h.inn a b e).2⟩, h.no, h.inj, hF _ h.Fm, hl⟩
theorem Sets.congr {D2 : α → β → Bool} (h : Sets K K2 w F m n f D q) (hD : ∀ a x, D a x = D2 a x) : Sets K K2 w F m n f D2 q := by
  obtain rfl : D = D2 := funext fun a => funext fun x => hD a x
  exact h
/-- The blocks that it uses, no others. -/
def tightF {α : Type} (m : Nat) (f : α → Option Nat) (b : Nat) : Prop := b = m ∨ ∃ a, f a = some b
theorem Sets.tight (h : Sets K K2 w F m n f D q) : Sets K K2 w (tightF m f) m n f D q :=
  ⟨h.map, fun a b e => ⟨.inr ⟨a, e⟩, (h.inn a b e).2⟩, h.no, h.inj, .inl rfl, fun b hb => hb.elim (fun e => h.lt b (e ▸ h.Fm)) (fun ⟨a, e⟩ => h.lt b (h.inn a b e).1)⟩
theorem Sets.tightF (h : Sets K K2 w F m n f D q) {b : Nat} (hb : tightF m f b) : F b := hb.elim (fun e => e ▸ h.Fm) (fun ⟨a, e⟩ => (h.inn a b e).1)
theorem Sets.notBlk (h : Sets K K2 w F m n f D q) {g : Nat} {t : TypeId} {cs : Array Value} (hb : Blk w g t cs) : ¬ Yteinbdifncdaiaa.tightF m f g := by
  rintro (e | ⟨a, e⟩)
  · exact h.map.apart hb e.symm
  · obtain ⟨_, _, c, _, hm⟩ := h.inn a g e
    exact hm.apart hb rfl
end
section
variable {P : Program} {k k2 : TypeId} {α β : Type} [DecidableEq α] [DecidableEq β] {K : KeyKind P k α} {K2 : KeyKind P k2 β} {w w1 w2 : World} {F : Nat → Prop} {m n : Nat} {f : α → Option Nat} {D : α → β → Bool} {q : Nat}
omit [DecidableEq β] in
/-- A new, empty set at a new key. -/
theorem Sets.add (h : Sets K K2 w F m n f D q) {a : α} (hf : f a = none) {n2 : Nat} (hm : Mp K w2 m n2 (fun b => if b = a then some (.map (some w.heap.size)) else toM f b)) (hc : Chg (fun b => b = m) (w.alloc (.map #[] 0)) w2) :
    Sets K K2 w2 (fun b => F b ∨ b = w.heap.size) m n2 (fun b => if b = a then some w.heap.size else f b) D q := by
  have hml := h.lt m h.Fm
  have hcA : Chg Non w (w.alloc (.map #[] 0)) := (Chg.refl _ _).alloc _
  have hs2 := hc.size
  refine ⟨hm.congr (fun b => ?_), fun b c e => ?_, fun b e => ?_, fun b b2 c e e2 => ?_, .inl h.Fm, fun b hb => ?_⟩
  · unfold toM
    dsimp only
    by_cases e : b = a
    · rw [if_pos e, if_pos e]; rfl
    · rw [if_neg e, if_neg e]
  · by_cases eb : b = a
    · subst eb
      rw [if_pos rfl] at e
      obtain rfl := Option.some.inj e
      refine ⟨.inr rfl, by omega, 0, Nat.zero_le _, ?_⟩
      refine ((Mp.made K2 w).chg hc (by omega)).congr (fun x => ?_)
      unfold inF
      rw [h.no _ hf x]
      rfl
    · rw [if_neg eb] at e
      obtain ⟨h1, h2, c2, h3, h4⟩ := h.inn b c e
      exact ⟨.inl h1, h2, c2, h3, (h4.non hcA).chg hc h2⟩
  · by_cases eb : b = a
    · rw [if_pos eb] at e; cases e
    · rw [if_neg eb] at e; exact h.no b e
  · have hlt : ∀ b c, f b = some c → c < w.heap.size := fun b c e => h.lt _ (h.inn b c e).1
    by_cases eb : b = a <;> by_cases eb2 : b2 = a
    · rw [eb, eb2]
    · rw [if_pos eb] at e; rw [if_neg eb2] at e2
      have := hlt _ _ e2
      have := Option.some.inj e
      omega
    · rw [if_neg eb] at e; rw [if_pos eb2] at e2
      have := hlt _ _ e
      have := Option.some.inj e2
      omega
    · rw [if_neg eb] at e; rw [if_neg eb2] at e2
      exact h.inj _ _ _ e e2
  · simp at hs2
    rcases hb with hb | hb
    · have := h.lt b hb; omega
    · omega
/-- One more in a set. -/
theorem Sets.put (h : Sets K K2 w F m n f D q) {a : α} {b : Nat} (hf : f a = some b) {x : β} {c : Nat} (hq : c ≤ q + 1) (hm : Mp K2 w2 b c (fun y => if y = x then some (.bool true) else inF (D a) y)) (hc : Chg (fun g => g = b) w w2) :
    Sets K K2 w2 F m n f (fun a2 y => D a2 y || (decide (a2 = a) && decide (y = x))) (q + 1) := by
  obtain ⟨h1, h2, _⟩ := h.inn a b hf
  refine ⟨h.map.chg hc (fun e => h2 e.symm), fun a2 b2 e => ?_, fun a2 e y => ?_, h.inj, h.Fm, fun b hb => Nat.lt_of_lt_of_le (h.lt b hb) hc.size⟩
  · by_cases ea : a2 = a
    · subst ea
      rw [hf] at e
      obtain rfl := Option.some.inj e
      refine ⟨h1, h2, c, hq, hm.congr (fun y => ?_)⟩
      unfold inF
      by_cases ey : y = x <;> simp [ey]
    · obtain ⟨g1, g2, c2, g3, g4⟩ := h.inn a2 b2 e
      refine ⟨g1, g2, c2, by omega, (g4.chg hc (fun e2 => ea (h.inj _ _ _ (by rw [e, show b2 = b from e2]) hf))).congr (fun y => ?_)⟩
      simp [inF, ea]
  · have ea : a2 ≠ a := fun e2 => by rw [e2, hf] at e; cases e
    simp [h.no a2 e y, ea]
omit [DecidableEq β] in
/-- A key goes, with its set. -/
theorem Sets.drop (h : Sets K K2 w F m n f D q) {a : α} {n2 : Nat} (hm : Mp K w2 m n2 (fun b => if b = a then none else toM f b)) (hc : Chg (fun b => b = m) w w2) :
    Sets K K2 w2 F m n2 (fun b => if b = a then none else f b) (fun a2 y => !decide (a2 = a) && D a2 y) q := by
  refine ⟨hm.congr (fun b => ?_), fun a2 b2 e => ?_, fun a2 e y => ?_, fun b b2 c e e2 => ?_, h.Fm, fun b hb => Nat.lt_of_lt_of_le (h.lt b hb) hc.size⟩
  · unfold toM
    dsimp only
    by_cases e : b = a
    · rw [if_pos e, if_pos e]; rfl
    · rw [if_neg e, if_neg e]
  · by_cases ea : a2 = a
    · rw [if_pos ea] at e; cases e
    · rw [if_neg ea] at e
      obtain ⟨g1, g2, c2, g3, g4⟩ := h.inn a2 b2 e
      exact ⟨g1, g2, c2, g3, (g4.chg hc g2).congr (fun y => by simp [inF, ea])⟩
  · by_cases ea : a2 = a
    · simp [ea]
    · rw [if_neg ea] at e
      simp [h.no a2 e y]
  · by_cases eb : b = a
    · rw [if_pos eb] at e; cases e
    · by_cases eb2 : b2 = a
      · rw [if_pos eb2] at e2; cases e2
      · rw [if_neg eb] at e; rw [if_neg eb2] at e2
        exact h.inj _ _ _ e e2
/-- One less in a set. -/
theorem Sets.out (h : Sets K K2 w F m n f D q) {a : α} {b : Nat} (hf : f a = some b) {x : β} {c : Nat} (hq : c ≤ q) (hm : Mp K2 w2 b c (fun y => if y = x then none else inF (D a) y)) (hc : Chg (fun g => g = b) w w2) :
    Sets K K2 w2 F m n f (fun a2 y => D a2 y && !(decide (a2 = a) && decide (y = x))) q := by
  obtain ⟨h1, h2, _⟩ := h.inn a b hf
  refine ⟨h.map.chg hc (fun e => h2 e.symm), fun a2 b2 e => ?_, fun a2 e y => ?_, h.inj, h.Fm, fun b hb => Nat.lt_of_lt_of_le (h.lt b hb) hc.size⟩
  · by_cases ea : a2 = a
    · subst ea
      rw [hf] at e
      obtain rfl := Option.some.inj e
      refine ⟨h1, h2, c, hq, hm.congr (fun y => ?_)⟩
      unfold inF
      by_cases ey : y = x <;> simp [ey]
    · obtain ⟨g1, g2, c2, g3, g4⟩ := h.inn a2 b2 e
      refine ⟨g1, g2, c2, g3, (g4.chg hc (fun e2 => ea (h.inj _ _ _ (by rw [e, show b2 = b from e2]) hf))).congr (fun y => ?_)⟩
      simp [inF, ea]
  · simp [h.no a2 e y]
end
theorem Rds.chgK {w w2 : World} {size n : Nat} {A : Option Addr} {xs : List Value} {S : Nat → Prop} (h : Rds w size A n xs) (hc : Chg S w w2) (hn : 0 < n → ∀ ad, A = some ad → ¬ S ad.block) : Rds w2 size A n xs :=
  ⟨h.1, fun h0 => by
    obtain ⟨ad, e, hx⟩ := h.2 h0
    exact ⟨ad, e, fun j u hu => hc.cell (hx j u hu) (by rw [block_add]; exact hn h0 ad e)⟩⟩
end Go.Proofs.Yteinbdifncdaiaa
