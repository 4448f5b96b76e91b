/-
  Rising lists of numbers: put in one by one, or sorted at once: plain Lean.
-/
namespace Go.Proofs.Ytdcfnhggedeeiaa
set_option linter.unusedVariables false
set_option linter.unusedSimpArgs false

/-- A number into a rising list, once. -/
def riseI (x : Int) : List Int → List Int
  | [] => [x]
  | y :: l => if y < x then y :: riseI x l else if y = x then y :: l else x :: y :: l
abbrev RisesI (l : List Int) : Prop := l.Pairwise (· < ·)
theorem mem_riseI {x z : Int} : ∀ {l : List Int}, z ∈ riseI x l ↔ z = x ∨ z ∈ l
  | [] => by simp [riseI]
  | y :: l => by
    unfold riseI
    split
    · simp only [List.mem_cons, mem_riseI (l := l)]; constructor
      · rintro (h | h | h)
        · exact .inr (.inl h)
        · exact .inl h
        · exact .inr (.inr h)
      · rintro (h | h | h)
        · exact .inr (.inl h)
        · exact .inl h
        · exact .inr (.inr h)
    · split
      · rename_i h1 h2; subst h2; simp
      · simp
theorem rises_riseI {x : Int} : ∀ {l : List Int}, RisesI l → RisesI (riseI x l)
  | [], _ => by simp [riseI]
  | y :: l, h => by
    obtain ⟨h1, h2⟩ := List.pairwise_cons.1 h
    unfold riseI
    split
    · rename_i hyx
      refine List.pairwise_cons.2 ⟨fun z hz => ?_, rises_riseI h2⟩
      rcases mem_riseI.1 hz with rfl | hz
      · exact hyx
      · exact h1 z hz
    · split
      · exact h
      · rename_i h3 h4
        refine List.pairwise_cons.2 ⟨fun z hz => ?_, h⟩
        rcases List.mem_cons.1 hz with rfl | hz
        · omega
        · have := h1 z hz; omega
/-- Two rising lists with the same members are one. -/
theorem rises_eq : ∀ {l m : List Int}, RisesI l → RisesI m → (∀ z, z ∈ l ↔ z ∈ m) → l = m
  | [], [], _, _, _ => rfl
  | [], y :: m, _, _, h => by have := (h y).2 (by simp); simp at this
  | x :: l, [], _, _, h => by have := (h x).1 (by simp); simp at this
  | x :: l, y :: m, hl, hm, h => by
    obtain ⟨a1, a2⟩ := List.pairwise_cons.1 hl
    obtain ⟨b1, b2⟩ := List.pairwise_cons.1 hm
    have hxy : x = y := by
      have h1 := (h x).1 (by simp)
      have h2 := (h y).2 (by simp)
      rcases List.mem_cons.1 h1 with e | e
      · exact e
      · rcases List.mem_cons.1 h2 with e2 | e2
        · exact e2.symm
        · have := b1 x e; have := a1 y e2; omega
    subst hxy
    rw [rises_eq a2 b2 fun z => ?_]
    constructor
    · intro hz
      rcases List.mem_cons.1 ((h z).1 (List.mem_cons_of_mem _ hz)) with e | e
      · have := a1 z hz; omega
      · exact e
    · intro hz
      rcases List.mem_cons.1 ((h z).2 (List.mem_cons_of_mem _ hz)) with e | e
      · have := b1 z hz; omega
      · exact e
/-- All of a list, put in one by one. -/
def risen (l : List Int) : List Int := l.foldl (fun a x => riseI x a) []
theorem risen_snoc (l : List Int) (x : Int) : risen (l ++ [x]) = riseI x (risen l) := by simp [risen, List.foldl_append]
theorem risen_spec (l : List Int) : RisesI (risen l) ∧ ∀ z, z ∈ risen l ↔ z ∈ l := by
  have : ∀ (l a : List Int), RisesI a → RisesI (l.foldl (fun a x => riseI x a) a) ∧ ∀ z, z ∈ l.foldl (fun a x => riseI x a) a ↔ z ∈ a ∨ z ∈ l := by
    intro l
    induction l with
    | nil => intro a h; exact ⟨h, fun z => by simp⟩
    | cons x l ih =>
      intro a h
      obtain ⟨h1, h2⟩ := ih (riseI x a) (rises_riseI h)
      refine ⟨h1, fun z => ?_⟩
      rw [List.foldl_cons, h2, mem_riseI, List.mem_cons]
      constructor
      · rintro ((h | h) | h)
        · exact .inr (.inl h)
        · exact .inl h
        · exact .inr (.inr h)
      · rintro (h | h | h)
        · exact .inl (.inr h)
        · exact .inl (.inl h)
        · exact .inr h
  obtain ⟨h1, h2⟩ := this l [] List.Pairwise.nil
  exact ⟨h1, fun z => by rw [risen, h2]; simp⟩
abbrev leI : Int → Int → Bool := fun x y => decide (x ≤ y)
/-- Of numbers of which none stands twice, sorting makes the same. -/
theorem sort_eq {l : List Int} (h : l.Nodup) : l.mergeSort leI = risen l := by
  obtain ⟨r1, r2⟩ := risen_spec l
  have hs : (l.mergeSort leI).Pairwise (fun a b => leI a b = true) := List.pairwise_mergeSort (fun a b c h1 h2 => by simp only [leI, decide_eq_true_eq] at *; omega) (fun a b => by simp only [leI, Bool.or_eq_true, decide_eq_true_eq]; omega) l
  have hp := List.mergeSort_perm l leI
  have hn : (l.mergeSort leI).Nodup := hp.nodup_iff.2 h
  refine rises_eq ?_ r1 fun z => by rw [r2, hp.mem_iff]
  refine List.Pairwise.imp₂ (fun a b h1 h2 => ?_) hs hn
  simp only [leI, decide_eq_true_eq] at h1
  omega
theorem sort_len (l : List Int) : (l.mergeSort leI).length = l.length := (List.mergeSort_perm l leI).length_eq
theorem riseI_le (x : Int) : ∀ a : List Int, (riseI x a).length ≤ a.length + 1
  | [] => by simp [riseI]
  | y :: a => by
    unfold riseI
    split
    · simp; exact riseI_le x a
    · split <;> simp
theorem risen_le (l : List Int) : (risen l).length ≤ l.length := by
  have : ∀ (l a : List Int), (l.foldl (fun a x => riseI x a) a).length ≤ a.length + l.length := by
    intro l
    induction l with
    | nil => intro a; simp
    | cons x l ih =>
      intro a
      have h1 := ih (riseI x a)
      have h3 := riseI_le x a
      rw [List.foldl_cons, List.length_cons]
      omega
  have := this l []
  simpa [risen] using this
end Go.Proofs.Ytdcfnhggedeeiaa
