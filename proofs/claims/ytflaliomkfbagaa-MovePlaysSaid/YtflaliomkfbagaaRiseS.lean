/-
  Rising lists of names (texts, byte by byte): put in one by one, or sorted at once: plain Lean.
-/
import Derived.Sort.EncStr
import Derived.Sort.KeysCollected
namespace Go.Proofs.Ytflaliomkfbagaa
set_option linter.unusedVariables false
set_option linter.unusedSimpArgs false

abbrev bl (a : ByteArray) : List UInt8 := a.data.toList
theorem bl_inj {a b : ByteArray} (h : bl a = bl b) : a = b := by
  obtain ⟨⟨a⟩⟩ := a
  obtain ⟨⟨b⟩⟩ := b
  simp [bl] at h
  simp [h]
def mkB (l : List UInt8) : ByteArray := ⟨l.toArray⟩
theorem bl_mkB (l : List UInt8) : bl (mkB l) = l := rfl
theorem mkB_bl (a : ByteArray) : mkB (bl a) = a := bl_inj rfl
def ltS (a b : ByteArray) : Prop := bl a < bl b
instance (a b : ByteArray) : Decidable (ltS a b) := inferInstanceAs (Decidable (bl a < bl b))
theorem ltS_irrefl (a : ByteArray) : ¬ ltS a a := List.lt_irrefl _
theorem ltS_trans {a b c : ByteArray} (h : ltS a b) (g : ltS b c) : ltS a c := List.lt_trans h g
theorem ltS_tri (a b : ByteArray) : ltS a b ∨ a = b ∨ ltS b a := by
  by_cases h : ltS a b
  · exact .inl h
  · by_cases g : ltS b a
    · exact .inr (.inr g)
    · exact .inr (.inl (bl_inj (List.le_antisymm (List.not_lt.1 g) (List.not_lt.1 h))))
theorem ltS_ne {a b : ByteArray} (h : ltS a b) : a ≠ b := fun e => ltS_irrefl b (e ▸ h)
theorem ltS_asym {a b : ByteArray} (h : ltS a b) : ¬ ltS b a := fun g => ltS_irrefl a (ltS_trans h g)

/-- A name into a rising list, once. -/
def riseS (x : ByteArray) : List ByteArray → List ByteArray
  | [] => [x]
  | y :: l => if ltS y x then y :: riseS x l else if y = x then y :: l else x :: y :: l
abbrev RisesS (l : List ByteArray) : Prop := l.Pairwise ltS
theorem mem_riseS {x z : ByteArray} : ∀ {l : List ByteArray}, z ∈ riseS x l ↔ z = x ∨ z ∈ l
  | [] => by simp [riseS]
  | y :: l => by
    unfold riseS
    split
    · simp only [List.mem_cons, mem_riseS (l := l)]; constructor
      · rintro (h | h | h)
        · exact .inr (.inl h)
        · exact .inl h
        · exact .inr (.inr h)
      · rintro (h | h | h)
        · exact .inr (.inl h)
        · exact .inl h
        · exact .inr (.inr h)
    · split
      · rename_i h1 h2; subst h2; simp
      · simp
theorem rises_riseS {x : ByteArray} : ∀ {l : List ByteArray}, RisesS l → RisesS (riseS x l)
  | [], _ => by simp [riseS]
  | y :: l, h => by
    obtain ⟨h1, h2⟩ := List.pairwise_cons.1 h
    unfold riseS
    split
    · rename_i hyx
      refine List.pairwise_cons.2 ⟨fun z hz => ?_, rises_riseS h2⟩
      rcases mem_riseS.1 hz with rfl | hz
      · exact hyx
      · exact h1 z hz
    · split
      · exact h
      · rename_i h3 h4
        have hxy : ltS x y := by
          rcases ltS_tri x y with h | h | h
          · exact h
          · exact absurd h.symm h4
          · exact absurd h h3
        refine List.pairwise_cons.2 ⟨fun z hz => ?_, h⟩
        rcases List.mem_cons.1 hz with rfl | hz
        · exact hxy
        · exact ltS_trans hxy (h1 z hz)
/-- Two rising lists with the same members are one. -/
theorem rises_eqS : ∀ {l m : List ByteArray}, RisesS l → RisesS m → (∀ z, z ∈ l ↔ z ∈ m) → l = m
  | [], [], _, _, _ => rfl
  | [], y :: m, _, _, h => by have := (h y).2 (by simp); simp at this
  | x :: l, [], _, _, h => by have := (h x).1 (by simp); simp at this
  | x :: l, y :: m, hl, hm, h => by
    obtain ⟨a1, a2⟩ := List.pairwise_cons.1 hl
    obtain ⟨b1, b2⟩ := List.pairwise_cons.1 hm
    have hxy : x = y := by
      have h1 := (h x).1 (by simp)
      have h2 := (h y).2 (by simp)
      rcases List.mem_cons.1 h1 with e | e
      · exact e
      · rcases List.mem_cons.1 h2 with e2 | e2
        · exact e2.symm
        · exact absurd (b1 x e) (ltS_asym (a1 y e2))
    subst hxy
    rw [rises_eqS a2 b2 fun z => ?_]
    constructor
    · intro hz
      rcases List.mem_cons.1 ((h z).1 (List.mem_cons_of_mem _ hz)) with e | e
      · exact absurd (a1 z hz) (e ▸ ltS_irrefl _)
      · exact e
    · intro hz
      rcases List.mem_cons.1 ((h z).2 (List.mem_cons_of_mem _ hz)) with e | e
      · exact absurd (b1 z hz) (e ▸ ltS_irrefl _)
      · exact e
/-- All of a list, put in one by one. -/
def risenS (l : List ByteArray) : List ByteArray := l.foldl (fun a x => riseS x a) []
theorem risenS_snoc (l : List ByteArray) (x : ByteArray) : risenS (l ++ [x]) = riseS x (risenS l) := by simp [risenS, List.foldl_append]
theorem risenS_spec (l : List ByteArray) : RisesS (risenS l) ∧ ∀ z, z ∈ risenS l ↔ z ∈ l := by
  have : ∀ (l a : List ByteArray), RisesS a → RisesS (l.foldl (fun a x => riseS x a) a) ∧ ∀ z, z ∈ l.foldl (fun a x => riseS x a) a ↔ z ∈ a ∨ z ∈ l := by
    intro l
    induction l with
    | nil => intro a h; exact ⟨h, fun z => by simp⟩
    | cons x l ih =>
      intro a h
      obtain ⟨h1, h2⟩ := ih (riseS x a) (rises_riseS h)
      refine ⟨h1, fun z => ?_⟩
      rw [List.foldl_cons, h2, mem_riseS, List.mem_cons]
      constructor
      · rintro ((h | h) | h)
        · exact .inr (.inl h)
        · exact .inl h
        · exact .inr (.inr h)
      · rintro (h | h | h)
        · exact .inl (.inr h)
        · exact .inl (.inl h)
        · exact .inr h
  obtain ⟨h1, h2⟩ := this l [] List.Pairwise.nil
  exact ⟨h1, fun z => by rw [risenS, h2]; simp⟩
theorem risenS_le (l : List ByteArray) : (risenS l).length ≤ l.length := by
  have h2 : ∀ (x : ByteArray) (a : List ByteArray), (riseS x a).length ≤ a.length + 1 := by
    intro x a
    induction a with
    | nil => simp [riseS]
    | cons y a ih2 =>
      unfold riseS
      split
      · simp; exact ih2
      · split <;> simp
  have : ∀ (l a : List ByteArray), (l.foldl (fun a x => riseS x a) a).length ≤ a.length + l.length := by
    intro l
    induction l with
    | nil => intro a; simp
    | cons x l ih =>
      intro a
      have h1 := ih (riseS x a)
      have h3 := h2 x a
      rw [List.foldl_cons, List.length_cons]
      omega
  have := this l []
  simpa [risenS] using this
theorem rises_nodupS {l : List ByteArray} (h : RisesS l) : l.Nodup := h.imp fun h => ltS_ne h
theorem leB_tr (a b c : List UInt8) (h1 : leB a b = true) (h2 : leB b c = true) : leB a c = true := by simp only [leB, decide_eq_true_eq] at *; exact List.le_trans h1 h2
theorem leB_to (a b : List UInt8) : (leB a b || leB b a) = true := by simp only [leB, Bool.or_eq_true, decide_eq_true_eq]; exact List.le_total a b
/-- Of names of which none stands twice, sorting makes the same. -/
theorem sort_eqS {ss : List (List UInt8)} (h : ss.Nodup) : (ss.mergeSort leB).map mkB = risenS (ss.map mkB) := by
  obtain ⟨r1, r2⟩ := risenS_spec (ss.map mkB)
  have hs : (ss.mergeSort leB).Pairwise (fun a b => leB a b = true) := List.pairwise_mergeSort leB_tr leB_to ss
  have hp := List.mergeSort_perm ss leB
  have hn : (ss.mergeSort leB).Nodup := hp.nodup_iff.2 h
  refine rises_eqS ?_ r1 fun z => ?_
  · rw [RisesS, List.pairwise_map]
    refine List.Pairwise.imp₂ (fun a b h1 h2 => ?_) hs hn
    simp only [leB, decide_eq_true_eq] at h1
    show bl (mkB a) < bl (mkB b)
    rw [bl_mkB, bl_mkB]
    rcases ltS_tri (mkB a) (mkB b) with h | h | h
    · exact h
    · exact absurd (by rw [← bl_mkB a, h, bl_mkB]) h2
    · exact absurd (List.not_lt.2 h1) (fun k => k h)
  · rw [r2, List.mem_map, List.mem_map]
    exact ⟨fun ⟨a, h1, h2⟩ => ⟨a, hp.mem_iff.1 h1, h2⟩, fun ⟨a, h1, h2⟩ => ⟨a, hp.mem_iff.2 h1, h2⟩⟩
theorem risenS_id {l : List ByteArray} (h : RisesS l) : risenS l = l := rises_eqS (risenS_spec l).1 h (risenS_spec l).2
end Go.Proofs.Ytflaliomkfbagaa
