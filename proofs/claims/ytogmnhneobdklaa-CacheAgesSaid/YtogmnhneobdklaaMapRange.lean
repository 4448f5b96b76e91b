/-
  Ranging over a map of the call's own whose keys are names, over any values, while entries are deleted.
-/
import Derived.Test.YtogmnhneobdklaaMaps
import Derived.Test.YtogmnhneobdklaaRiseS
import Derived.Maps.RangeWalk
import Derived.Sort.KeysCollected
namespace Go.Proofs.Ytogmnhneobdklaa
open Go.RowKit Go.Maps
set_option linter.unusedVariables false
set_option linter.unusedSimpArgs false

/-- Block g is a map of n entries, f says what stands at a name; block r ranges over it: 'left' says which are still to come, cnt how many. -/
def MpR {P : Program} {k : TypeId} (hk : P.underlying k = some .string) (w : World) (g r n : Nat) (f : ByteArray → Option Value) (left : ByteArray → Bool) (cnt : Nat) : Prop :=
  ∃ (N : Nat) (D : DataW Value) (L : Lit → Bool), w.ranges P k heldR g r N D L cnt ∧ Maps.size D = n ∧ (∀ a, left a = L ((strKey hk).lit a)) ∧ ∀ a, Maps.has D ((strKey hk).lit a) = (f a).isSome ∧ ∀ v, f a = some v → ∀ z, D.atKey ((strKey hk).lit a) z = .held v

theorem same_lit {P : Program} {k : TypeId} (hk : P.underlying k = some .string) (a b : ByteArray) : ((strKey hk).lit a).sameKey ((strKey hk).lit b) = decide (a = b) := by
  show (Lit.string a.data.toList).sameKey (.string b.data.toList) = _
  by_cases h : a = b
  · subst h; simp [Lit.sameKey]
  · have : a.data.toList ≠ b.data.toList := fun e => h ((strKey hk).inj (show Lit.string _ = Lit.string _ by rw [e]))
    show (a.data.toList == b.data.toList) = _
    rw [beq_eq_false_iff_ne.2 this, decide_eq_false h]

section
variable {P : Program} {k : TypeId} {hk : P.underlying k = some .string} {w w2 : World} {g r n cnt : Nat} {f : ByteArray → Option Value} {left : ByteArray → Bool}
theorem MpR.mp (h : MpR hk w g r n f left cnt) : Mp (strKey hk) w g n f := by
  obtain ⟨N, D, L, h1, h2, h3, h4⟩ := h
  exact ⟨D, h2 ▸ own_tight h1.owns, h2, h4⟩
theorem MpR.lt (h : MpR hk w g r n f left cnt) : r < w.heap.size := by obtain ⟨N, D, L, h1, _⟩ := h; exact h1.lt
theorem MpR.ne (h : MpR hk w g r n f left cnt) : r ≠ g := by obtain ⟨N, D, L, h1, _⟩ := h; exact h1.ne
theorem MpR.left_eq (h : MpR hk w g r n f left cnt) : w.rangeLeft g r = cnt := by obtain ⟨N, D, L, h1, _⟩ := h; exact h1.left_eq
theorem MpR.chg {S : Nat → Prop} (h : MpR hk w g r n f left cnt) (hc : Chg S w w2) (hg : ¬ S g) (hr : ¬ S r) : MpR hk w2 g r n f left cnt := by
  have hgl := h.mp.lt
  have hrl := h.lt
  obtain ⟨N, D, L, h1, h2, h3, h4⟩ := h
  refine ⟨N, D, L, ?_, h2, h3, h4⟩
  obtain ⟨es, clock, since, seen, c0, a1, a2, a3, a4, a5, a6⟩ := h1
  exact ⟨es, clock, since, seen, c0, (hc.block g hgl hg).trans a1, a2, a3, a4, (hc.block r hrl hr).trans a5, a6⟩
end
section
variable {P : Program} {k : TypeId} {hk : P.underlying k = some .string} {w : World} {g n : Nat} {f : ByteArray → Option Value} {ops : Array Oper} {rest : List Oper} {o : Oper} {a : Act} {Q : Exit → Act → World → Prop}
/-- 'range m'. -/
theorem wp_range_Mp (hg : o.guard = none) (m : Operand) (t : TypeId) (hop : o.op = Op.range t m) {e : TypeId} (h : Mp (strKey hk) w g n f) (ht : P.underlying t = some (.map k e)) (hm : a.eval m = .map (some g))
    (hK : ∀ w2, MpR hk w2 g w.heap.size n f (fun b => (f b).isSome) n → Chg Non w w2 → w2.heap.size = w.heap.size + 1 → wpList P ops Q rest (a.put o.dst (.pointer (some ⟨w.heap.size, 0, none⟩))) w2) : wpList P ops Q (o :: rest) a w := by
  obtain ⟨D, h1, h2, h3⟩ := h
  refine wpList_range_own _ hg m t hop k e (string_keyed hk) ht _ g n D hm h1 (fun w2 hr hgr hs => hK w2 ⟨n, D, _, by rw [h2] at hr; exact hr, h2, fun b => (h3 b).1.symm, h3⟩ ?_ hs)
  exact (Chg.of_grown hgr).mono fun b e => by cases e
/-- The loop's step. -/
theorem wp_next_Mp (hg : o.guard = none) (it : Operand) (hop : o.op = Op.next it false) {r cnt : Nat} {left : ByteArray → Bool} (hit : a.eval it = .pointer (some ⟨r, 0, none⟩)) (h : MpR hk w g r n f left cnt)
    (hDone : cnt = 0 → (∀ b, left b = false) → wpList P ops Q rest (a.put o.dst (.tuple #[.bool false])) w)
    (hMore : ∀ (x : ByteArray) (c : Value) (w2 : World) (cnt2 : Nat), x.size ≤ maxLen → left x = true → f x = some c → MpR hk w2 g r n f (fun b => left b && !decide (b = x)) cnt2 → cnt2 < cnt → Chg (fun b => b = r) w w2 → w2.heap.size = w.heap.size →
      (Instr.entry (.pointer (some ⟨r, 0, none⟩))).run P w2 = .ok (.tuple #[.string x, c]) w2 → wpList P ops Q rest (a.put o.dst (.tuple #[.bool true, .string x, c])) w2) : wpList P ops Q (o :: rest) a w := by
  obtain ⟨N, D, L, h1, h2, h3, h4⟩ := h
  refine wpList_next_ranges w hg it hop k (string_keyed hk) heldR Value.string (id : Value → Value) (fun key kl hkey => ?_) (fun v y hv => ⟨v, rfl⟩) g r N D L cnt hit h1 (fun hc hl => hDone hc fun b => by rw [h3]; exact hl _) (fun x c kl y w2 cnt2 hkey hlk hv hat hrg hlt hgr hsz hen => ?_)
  · obtain ⟨x, hx, _, _⟩ := Maps.keyOf_str hk hkey
    exact ⟨⟨x.toArray⟩, by simpa [mkB] using hx⟩
  · obtain ⟨xl, hx1, hx2, hx3⟩ := Maps.keyOf_str hk hkey
    have hxl : xl = x.data.toList := by
      injection hx1 with e
      rw [e]
    subst hxl
    have hy : y = (.held c, []) := by simpa [heldR] using hv.symm
    subst hy
    subst hx2
    have hfx : f x = some c := by
      cases hf : f x with
      | none =>
        have hno : Maps.has D (.string x.data.toList) = false := by have := (h4 x).1; rw [hf] at this; exact this
        have e1 := hat .nil
        rw [Maps.atKey_of_not_has hno] at e1
        cases e1
      | some u =>
        have e1 := (h4 x).2 u hf .nil
        have e2 := hat .nil
        have : DataW.held u = .held c := e1.symm.trans e2
        rw [DataW.held.inj this]
    refine hMore x c w2 cnt2 (by simpa using hx3) (by rw [h3]; exact hlk) hfx ⟨N, D, _, hrg, h2, fun b => ?_, h4⟩ hlt ((Chg.of_grown hgr).mono fun b e => by simpa using e.symm) hsz hen
    show (left b && !decide (b = x)) = (L _ && !((strKey hk).lit b).sameKey ((strKey hk).lit x))
    rw [same_lit, h3]
/-- 'delete(m, k)' in the round. -/
theorem wp_delete_MpR (hg : o.guard = none) (m x : Operand) (t : TypeId) (hop : o.op = Op.call { callee := Callee.builtin Builtin.delete, args := #[m, x], argTypes := #[t, k] }) {e : TypeId} {r cnt : Nat} {left : ByteArray → Bool} (h : MpR hk w g r n f left cnt) (ht : P.underlying t = some (.map k e))
    (hm : a.eval m = .map (some g)) {b : ByteArray} (hb : b.size ≤ maxLen) (hx : a.eval x = .string b)
    (hK : ∀ w2 cnt2, MpR hk w2 g r (if (f b).isSome then n - 1 else n) (fun c => if c = b then none else f c) (fun c => left c && !decide (c = b)) cnt2 → cnt2 ≤ cnt → Chg (fun j => j = g) w w2 → wpList P ops Q rest (a.put o.dst (.tuple #[])) w2) : wpList P ops Q (o :: rest) a w := by
  obtain ⟨N, D, L, h1, h2, h3, h4⟩ := h
  have hT := h1.owns.tidy (string_keyed hk)
  refine wpList_delete_ranges w hg m x t k hop e (string_keyed hk) ht heldR g r N D L cnt hm h1 (.string b) ((strKey hk).lit b) hx ((strKey hk).is b hb) (fun w2 cnt2 hrg hle hturn => hK w2 cnt2 ⟨N, _, _, hrg, ?_, fun c => ?_, fun c => ?_⟩ hle (Chg.of_turned hturn))
  · have hsz := Maps.size_del (k := (strKey hk).lit b) hT
    rw [(h4 b).1, h2] at hsz
    cases hf : (f b).isSome <;> simp [hf] at hsz ⊢ <;> omega
  · show (left c && !decide (c = b)) = (L _ && !((strKey hk).lit c).sameKey ((strKey hk).lit b))
    rw [same_lit, h3]
  · by_cases hc : c = b
    · subst hc
      dsimp only
      rw [if_pos rfl, Maps.has_del_same]
      exact ⟨rfl, fun u hu => by cases hu⟩
    · have hne : (strKey hk).lit c ≠ (strKey hk).lit b := fun e => hc ((strKey hk).inj e)
      dsimp only
      rw [if_neg hc, Maps.has_del_other hne]
      exact ⟨(h4 c).1, fun u hu z => by rw [Maps.atKey_del_other hne]; exact (h4 c).2 u hu z⟩
end
end Go.Proofs.Ytogmnhneobdklaa
