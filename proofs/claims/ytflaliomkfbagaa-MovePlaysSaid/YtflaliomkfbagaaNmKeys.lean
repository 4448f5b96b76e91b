/-
  The keys of a map of the call's own that are names, as a list: which they are.
-/
import Derived.Test.YtflaliomkfbagaaKeys
import Derived.Test.YtflaliomkfbagaaMaps
import Derived.Test.YtflaliomkfbagaaNmPlain
import Derived.Test.YtflaliomkfbagaaRiseS
namespace Go.Proofs.Ytflaliomkfbagaa
open Go.RowKit Go.Maps
set_option linter.unusedVariables false
set_option linter.unusedSimpArgs false

theorem strKeys_mem {H : Type} {P : Program} {k : TypeId} {R : Value → Option (DataW H × List MemPlace)} {w : World} {b n : Nat} {D : DataW H} (hk : P.underlying k = some .string) (K : Keyed P k) (h : w.ownsMap P k R b n D) :
    (strKeys D).Nodup ∧ (∀ x, x ∈ strKeys D ↔ Maps.has D (.string x) = true) ∧ ∀ x ∈ strKeys D, x.length ≤ maxLen := by
  obtain ⟨es, hD, hpw, _⟩ := h.entries K
  obtain ⟨es', hD', hko⟩ := h.keysOf
  obtain rfl : es = es' := by rw [hD] at hD'; simpa using hD'
  subst hD
  have hk2 : ∀ p ∈ es, ∃ x, p.1 = .string x ∧ x.length ≤ maxLen := fun p hp => by
    obtain ⟨v, hv⟩ := hko p hp
    obtain ⟨x, _, hx, hl⟩ := Maps.keyOf_str hk hv
    exact ⟨x, hx, hl⟩
  refine ⟨?_, fun x => ?_, fun x hx => ?_⟩
  · show (es.map fun p => strOf p.1).Nodup
    refine List.pairwise_map.2 (hpw.imp_of_mem fun {p q} hp' hq' hne e => hne ?_)
    obtain ⟨a, ha, _⟩ := hk2 p hp'
    obtain ⟨b, hb, _⟩ := hk2 q hq'
    rw [ha, hb] at e ⊢
    exact congrArg _ e
  · rw [Maps.has_eq, List.any_eq_true]
    show x ∈ es.map (fun p => strOf p.1) ↔ _
    rw [List.mem_map]
    constructor
    · rintro ⟨p, hp', rfl⟩
      obtain ⟨a, ha, _⟩ := hk2 p hp'
      exact ⟨p, hp', by rw [ha]; simp [Lit.sameKey, strOf]⟩
    · rintro ⟨p, hp', hs⟩
      obtain ⟨a, ha, _⟩ := hk2 p hp'
      rw [ha] at hs
      exact ⟨p, hp', by rw [ha]; simpa [Lit.sameKey, strOf] using hs⟩
  · obtain ⟨p, hp, rfl⟩ := List.mem_map.1 (show x ∈ es.map (fun p => strOf p.1) from hx)
    obtain ⟨a, ha, hl⟩ := hk2 p hp
    rw [ha]; exact hl
theorem strKeys_len {H : Type} (D : DataW H) : (strKeys D).length = Maps.size D := by
  cases D <;> simp [strKeys, Maps.size]

/-- What slices.Sorted(maps.Keys(m)) answers: the keys, rising, each once. -/
def KeysPostS {P : Program} (K : RowKind P) (w : World) (cnt : Nat) (f : ByteArray → Option Value) (e : Ending) (w2 : World) : Prop :=
  ∃ v n L, e = .returned v ∧ n = cnt ∧ n = L.length ∧ RisesS L ∧ (∀ x, x ∈ L ↔ (f x).isSome = true) ∧ (∀ x ∈ L, x.size ≤ maxLen) ∧ OwnR K w2 w.heap.size v n (sv L) ∧ Chg Non w w2
end Go.Proofs.Ytflaliomkfbagaa
