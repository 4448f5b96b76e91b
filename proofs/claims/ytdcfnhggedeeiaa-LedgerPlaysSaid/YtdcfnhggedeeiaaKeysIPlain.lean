/-
  The keys of a map of the call's own, as a list: which they are.
-/
import Derived.Test.YtdcfnhggedeeiaaKeys
import Derived.Test.YtdcfnhggedeeiaaMaps
import Derived.Test.YtdcfnhggedeeiaaRow
import Derived.Test.YtdcfnhggedeeiaaRise
namespace Go.Proofs.Ytdcfnhggedeeiaa
open Go.RowKit Go.Maps
set_option linter.unusedVariables false
set_option linter.unusedSimpArgs false

theorem intKeys_mem {H : Type} {P : Program} {k : TypeId} {R : Value → Option (DataW H × List MemPlace)} {w : World} {b n : Nat} {D : DataW H} (hk : P.underlying k = some (.int .i64)) (K : Keyed P k) (h : w.ownsMap P k R b n D) :
    (intKeys D).Nodup ∧ ∀ x, x ∈ intKeys D ↔ Maps.has D (.int .i64 x) = true := by
  obtain ⟨es, hD, hpw, _⟩ := h.entries K
  obtain ⟨es', hD', hko⟩ := h.keysOf
  obtain rfl : es = es' := by rw [hD] at hD'; simpa using hD'
  subst hD
  have hk2 : ∀ p ∈ es, ∃ x, p.1 = .int .i64 x := fun p hp => by
    obtain ⟨v, hv⟩ := hko p hp
    obtain ⟨x, _, hx, _⟩ := Maps.keyOf_i64 hk hv
    exact ⟨x, hx⟩
  refine ⟨?_, fun x => ?_⟩
  · show (es.map fun p => Go.intOf p.1).Nodup
    refine List.pairwise_map.2 (hpw.imp_of_mem fun {p q} hp' hq' hne e => hne ?_)
    obtain ⟨a, ha⟩ := hk2 p hp'
    obtain ⟨b, hb⟩ := hk2 q hq'
    rw [ha, hb] at e ⊢
    exact congrArg _ e
  · rw [Maps.has_eq, List.any_eq_true]
    show x ∈ es.map (fun p => Go.intOf p.1) ↔ _
    rw [List.mem_map]
    constructor
    · rintro ⟨p, hp', rfl⟩
      obtain ⟨a, ha⟩ := hk2 p hp'
      exact ⟨p, hp', by rw [ha]; simp [Lit.sameKey, Go.intOf]⟩
    · rintro ⟨p, hp', hs⟩
      obtain ⟨a, ha⟩ := hk2 p hp'
      rw [ha] at hs
      exact ⟨p, hp', by rw [ha]; simpa [Lit.sameKey, Go.intOf] using hs⟩

theorem intKeys_len {H : Type} (D : DataW H) : (intKeys D).length = Maps.size D := by
  cases D <;> simp [intKeys, Maps.size]

/-- What slices.Sorted(maps.Keys(m)) answers: the keys, rising, each once. -/
def KeysPost {P : Program} (K : RowKind P) (w : World) (cnt : Nat) (f : Int → Option Value) (e : Ending) (w2 : World) : Prop :=
  ∃ v n L, e = .returned v ∧ n = cnt ∧ n = L.length ∧ RisesI L ∧ (∀ x, x ∈ L ↔ (f x).isSome = true) ∧ OwnR K w2 w.heap.size v n (iv L) ∧ Chg Non w w2
end Go.Proofs.Ytdcfnhggedeeiaa
