/-
  gleanerlaw24.LineageLost: the plain law.
-/
import Derived.Test.YtbkjpeelabdkfaaLinLaw
import Derived.Test.YtbkjpeelabdkfaaLinNames
namespace Go.Proofs.Ytbkjpeelabdkfaa
open Go.RowKit
set_option linter.unusedVariables false
set_option linter.unusedSimpArgs false

/-- The node of the j-th task. -/
def yv (l : List Int) (j : Nat) : Int := bits .and .i64 (l.getD j 0) 7
def lostR (l : List Int) (ended : Int) (j : Nat) : Rc := ⟨yv l j, 1, 1, decide ((j : Int) = ended)⟩
def lostS (l : List Int) (ended : Int) : Nat → LS
  | 0 => s0
  | k + 1 => setR (lostS l ended k) (id1 k) (lostR l ended k)
theorem lostS_at (l : List Int) (ended : Int) : ∀ {k j : Nat}, j < k → k ≤ 256 → lostS l ended k (id1 j) = some (lostR l ended j)
  | 0, j, h, _ => by omega
  | k + 1, j, h, h2 => by
    unfold lostS
    by_cases e : j = k
    · subst e; exact setR_self _ _ _
    · rw [setR_other _ _ (fun e2 => e (id1_inj (by omega) (by omega) e2))]
      exact lostS_at l ended (by omega) (by omega)
theorem lostS_some (l : List Int) (ended : Int) : ∀ {k : Nat} {a : ByteArray} {r : Rc}, lostS l ended k a = some r → ∃ j, j < k ∧ a = id1 j ∧ r = lostR l ended j
  | 0, a, r, h => by cases h
  | k + 1, a, r, h => by
    unfold lostS at h
    by_cases e : a = id1 k
    · subst e
      rw [setR_self] at h
      exact ⟨k, by omega, rfl, (Option.some.inj h).symm⟩
    · rw [setR_other _ _ e] at h
      obtain ⟨j, h1, h2, h3⟩ := lostS_some l ended h
      exact ⟨j, by omega, h2, h3⟩
theorem lostS_new (l : List Int) (ended : Int) {k : Nat} (h : k < 256) : lostS l ended k (id1 k) = none := by
  cases hx : lostS l ended k (id1 k) with
  | none => rfl
  | some r =>
    obtain ⟨j, h1, h2, _⟩ := lostS_some l ended hx
    have := id1_inj h (by omega) h2
    omega
def lostB (l : List Int) (gone ended : Int) (j : Nat) : Bool := !decide ((j : Int) = ended) && (yv l j == gone)
def wantL (l : List Int) (gone ended : Int) (k : Nat) : List ByteArray := ((List.range k).filter (lostB l gone ended)).map id1
theorem want_step (l : List Int) (gone ended : Int) (k : Nat) : wantL l gone ended (k + 1) = wantL l gone ended k ++ (if lostB l gone ended k then [id1 k] else []) := by
  unfold wantL
  rw [List.range_succ, List.filter_append, List.map_append]
  cases h : lostB l gone ended k <;> simp [h]
theorem want_mem {l : List Int} {gone ended : Int} {k : Nat} {a : ByteArray} : a ∈ wantL l gone ended k ↔ ∃ j, j < k ∧ lostB l gone ended j = true ∧ a = id1 j := by
  unfold wantL
  rw [List.mem_map]
  constructor
  · rintro ⟨j, h, rfl⟩
    obtain ⟨h1, h2⟩ := List.mem_filter.1 h
    exact ⟨j, List.mem_range.1 h1, h2, rfl⟩
  · rintro ⟨j, h1, h2, rfl⟩
    exact ⟨j, List.mem_filter.2 ⟨List.mem_range.2 h1, h2⟩, rfl⟩
theorem want_le (l : List Int) (gone ended : Int) (k : Nat) : (wantL l gone ended k).length ≤ k := by
  unfold wantL
  rw [List.length_map]
  exact Nat.le_trans (List.length_filter_le _ _) (by simp)
theorem want_rises (l : List Int) (gone ended : Int) {k : Nat} (h : k ≤ 256) : RisesS (wantL l gone ended k) := by
  unfold wantL RisesS
  rw [List.pairwise_map]
  refine (List.Pairwise.filter _ List.pairwise_lt_range).imp_of_mem fun {a b} ha hb hab => ?_
  have := List.mem_range.1 (List.mem_filter.1 hb).1
  exact id1_lt (by omega) hab
/-- Who has a task that goes on and lies where nobody is. -/
theorem want_such {l : List Int} {gone ended : Int} {k : Nat} (hk : k ≤ 256) {p : Rc → Bool} (hp : ∀ j, j < k → p (lostR l ended j) = (yv l j == gone)) (a : ByteArray) : a ∈ wantL l gone ended k ↔ suchP (lostS l ended k) p a = true := by
  rw [want_mem]
  unfold suchP
  constructor
  · rintro ⟨j, h1, h2, rfl⟩
    rw [lostS_at l ended h1 hk]
    dsimp only
    rw [hp j h1]
    exact h2
  · intro h
    cases hs : lostS l ended k a with
    | none => rw [hs] at h; cases h
    | some r =>
      obtain ⟨j, h1, h2, rfl⟩ := lostS_some l ended hs
      rw [hs] at h
      dsimp only at h
      rw [hp j h1] at h
      exact ⟨j, h1, h, h2⟩
def agS (s : LS) (L : List ByteArray) : LS := L.foldl (fun s a => setR s a ⟨0, 2, 2, false⟩) s
theorem agS_snoc (s : LS) (L : List ByteArray) (a : ByteArray) : agS s (L ++ [a]) = setR (agS s L) a ⟨0, 2, 2, false⟩ := by unfold agS; rw [List.foldl_append]; rfl
theorem agS_out {a : ByteArray} : ∀ {L : List ByteArray} {s : LS}, a ∉ L → agS s L a = s a
  | [], _, _ => rfl
  | b :: L, s, h => by
    show agS (setR s b ⟨0, 2, 2, false⟩) L a = _
    rw [agS_out (fun h2 => h (by simp [h2])), setR_other _ _ (fun e => h (by simp [e]))]
theorem agS_in {a : ByteArray} : ∀ {L : List ByteArray} {s : LS}, a ∈ L → agS s L a = some ⟨0, 2, 2, false⟩
  | [], _, h => by simp at h
  | b :: L, s, h => by
    show agS (setR s b ⟨0, 2, 2, false⟩) L a = _
    by_cases hL : a ∈ L
    · exact agS_in hL
    · rw [agS_out hL]
      have e : a = b := by simpa [hL] using h
      rw [e, setR_self]
/-- Behind all that is begun again nobody is lost. -/
theorem again_none {l : List Int} {gone ended : Int} {k : Nat} (hk : k ≤ 256) {p : Rc → Bool} (hp : ∀ j, j < k → p (lostR l ended j) = (yv l j == gone)) (h0 : p ⟨0, 2, 2, false⟩ = false) (a : ByteArray) : suchP (agS (lostS l ended k) (wantL l gone ended k)) p a = false := by
  by_cases h : a ∈ wantL l gone ended k
  · unfold suchP
    rw [agS_in h]
    exact h0
  · unfold suchP
    rw [agS_out h]
    have h2 := h
    rw [want_such hk hp] at h2
    unfold suchP at h2
    cases hs : lostS l ended k a with
    | none => rfl
    | some r =>
      rw [hs] at h2
      dsimp only at h2 ⊢
      simpa using h2
theorem yv_small (l : List Int) (j : Nat) : ∃ y : Fin 8, yv l j = (y.val : Int) := by
  obtain ⟨y, h1, h2⟩ := and7 (l.getD j 0)
  exact ⟨⟨y, h1⟩, h2⟩
theorem first8 : ∀ y : Fin 8, ((firstM 8).any fun m => m.1 == (y.val : Int)) = true := by decide
theorem lost_may : ∀ g : Fin 8, 0 < g.val → withoutE 1 (firstM 8) [(g.val : Int)] = 0 := by decide
theorem lost_any : ∀ g : Fin 8, 0 < g.val → ∀ y : Fin 8, ((kept (fun m => inI [(g.val : Int)] m.1) (firstM 8)).any fun m => m.1 == (y.val : Int)) = !((y.val : Int) == (g.val : Int)) := by decide
theorem lost_v (g : Fin 8) (h : 0 < g.val) : withoutV 1 (firstM 8) [(g.val : Int)] = (2, kept (fun m => inI [(g.val : Int)] m.1) (firstM 8)) := by
  unfold withoutV
  rw [if_pos (lost_may g h)]
  rfl
theorem orphan_all (l : List Int) (ended : Int) (j : Nat) : orphanP (firstM 8) (lostR l ended j) = false := by
  obtain ⟨y, h⟩ := yv_small l j
  unfold orphanP lostR
  dsimp only
  rw [h, first8 y]
  rfl
theorem orphan_gone (l : List Int) (ended : Int) (g : Fin 8) (hg : 0 < g.val) (j : Nat) : orphanP (kept (fun m => inI [(g.val : Int)] m.1) (firstM 8)) (lostR l ended j) = (yv l j == (g.val : Int)) := by
  obtain ⟨y, h⟩ := yv_small l j
  unfold orphanP lostR
  dsimp only
  rw [h, lost_any g hg y, Bool.not_not]
theorem orphan_zero (g : Fin 8) (hg : 0 < g.val) : orphanP (kept (fun m => inI [(g.val : Int)] m.1) (firstM 8)) ⟨0, 2, 2, false⟩ = false := by
  unfold orphanP
  have := lost_any g hg 0
  rw [show ((0 : Fin 8).val : Int) = 0 from rfl] at this
  dsimp only
  rw [this]
  simp
  omega
theorem lost_none {l : List Int} {ended : Int} {k : Nat} (hk : k ≤ 256) (a : ByteArray) : suchP (lostS l ended k) (orphanP (firstM 8)) a = false := by
  unfold suchP
  cases hs : lostS l ended k a with
  | none => rfl
  | some r =>
    obtain ⟨j, _, _, rfl⟩ := lostS_some l ended hs
    dsimp only
    rw [orphan_all]
    simp
theorem lost_spawn (l : List Int) (ended : Int) {k : Nat} (hk : k < 16) (y : Int) (hy : y = yv l k) : spawnN (lostS l ended k) y 1 [id1 k] = (setR (lostS l ended k) (id1 k) ⟨yv l k, 1, 1, false⟩, 1) := by
  rw [hy]
  exact spawn_one _ (id1_vid hk) (lostS_new l ended (by omega)) _ _
theorem lost_next (l : List Int) (ended : Int) (k : Nat) (h : (k : Int) ≠ ended) : setR (lostS l ended k) (id1 k) ⟨yv l k, 1, 1, false⟩ = lostS l ended (k + 1) := by
  show _ = setR _ _ (lostR l ended k)
  unfold lostR
  rw [decide_eq_false h]
theorem lost_end (l : List Int) (ended : Int) (k : Nat) (h : (k : Int) = ended) : setR (setR (lostS l ended k) (id1 k) ⟨yv l k, 1, 1, false⟩) (id1 k) ⟨yv l k, 1, 1, true⟩ = lostS l ended (k + 1) := by
  rw [setR_set]
  show _ = setR _ _ (lostR l ended k)
  unfold lostR
  rw [decide_eq_true h]
theorem lost_times (l : List Int) (ended : Int) (k : Nat) : ∀ a r, lostS l ended k a = some r → 0 ≤ r.times ∧ r.times ≤ 1000000 := by
  intro a r h
  obtain ⟨j, _, _, rfl⟩ := lostS_some l ended h
  exact ⟨by show (0 : Int) ≤ 1; decide, by show (1 : Int) ≤ 1000000; decide⟩
theorem ag_times (l : List Int) (ended : Int) (k : Nat) (L : List ByteArray) : ∀ a r, agS (lostS l ended k) L a = some r → 0 ≤ r.times ∧ r.times ≤ 1000000 := by
  intro a r h
  by_cases hm : a ∈ L
  · rw [agS_in hm] at h
    obtain rfl := Option.some.inj h
    exact ⟨by show (0 : Int) ≤ 2; decide, by show (2 : Int) ≤ 1000000; decide⟩
  · rw [agS_out hm] at h
    exact lost_times l ended k a r h
/-- The next one that is lost: as it was spawned. -/
theorem want_at {l : List Int} {gone ended : Int} {k i : Nat} (hk : k ≤ 256) {a : ByteArray} (ha : (wantL l gone ended k)[i]? = some a) : agS (lostS l ended k) ((wantL l gone ended k).take i) a = some ⟨gone, 1, 1, false⟩ ∧ a.size ≤ 1 := by
  have hnd := rises_nodupS (want_rises l gone ended hk)
  obtain ⟨hi, he⟩ := List.getElem?_eq_some_iff.1 ha
  have hout : a ∉ (wantL l gone ended k).take i := by
    intro h
    obtain ⟨j, hj, hje⟩ := List.getElem_of_mem h
    rw [List.getElem_take] at hje
    have hji : j < i := by rw [List.length_take] at hj; omega
    have := (List.getElem_inj hnd).1 (hje.trans he.symm)
    omega
  rw [agS_out hout]
  obtain ⟨j, h1, h2, rfl⟩ := want_mem.1 (List.mem_of_getElem? ha)
  rw [lostS_at l ended h1 hk]
  unfold lostB at h2
  simp only [Bool.and_eq_true, Bool.not_eq_true', decide_eq_false_iff_not, beq_iff_eq] at h2
  unfold lostR
  rw [decide_eq_false h2.1, h2.2]
  exact ⟨rfl, by show 1 ≤ 1; decide⟩
end Go.Proofs.Ytbkjpeelabdkfaa
