/-
  The document's table: what it holds, as lists; what each call makes of it, and that the program's table holds the same: plain.
-/
import Derived.Test.YtfglikgifkpfpaaTableMore
namespace Go.Proofs.Ytfglikgifkpfpaa
open Go.RowKit
set_option linter.unusedVariables false
set_option linter.unusedSimpArgs false

/-- What the document's table holds: ready, going (rising), those that wait, with what each waits for. -/
structure TrS where
  R : List ByteArray
  G : List ByteArray
  P : List (ByteArray × ByteArray)
  mx : Int
def TrS.names (t : TrS) : List ByteArray := t.P.map (·.1)
def lookP (P : List (ByteArray × ByteArray)) (a : ByteArray) : Option ByteArray := (P.find? (fun p => decide (p.1 = a))).map (·.2)
def TrS.tb (t : TrS) : TbS := ⟨t.R, hasB t.G, t.G.length, lookP t.P, t.P.length, if t.mx ≤ 1 then 1 else t.mx⟩
structure TrS.ok (t : TrS) : Prop where
  nd : (t.R ++ (t.G ++ t.names)).Nodup
  rise : RisesS t.G
  small : ∀ x ∈ t.R ++ (t.G ++ t.names), x.size ≤ 100
def TrS.len (t : TrS) : Nat := t.R.length + t.G.length + t.P.length
def TrS.top (t : TrS) : Int := if t.mx ≤ 1 then 1 else t.mx
def remS (L : List ByteArray) (a : ByteArray) : List ByteArray := L.filter (fun y => !decide (y = a))
def TrS.has (t : TrS) (a : ByteArray) : Bool := hasB t.R a || hasB t.G a || hasB (risenS t.names) a
def TrS.add (t : TrS) (a : ByteArray) : TrS := { t with R := t.R ++ [a] }
def TrS.ends (t : TrS) (a : ByteArray) : TrS := { t with G := remS t.G a }
def TrS.back (t : TrS) (a : ByteArray) : TrS := { t with R := t.R ++ [a], G := remS t.G a }
def TrS.parks (t : TrS) (a o : ByteArray) : TrS := { t with G := remS t.G a, P := t.P ++ [(a, o)] }
def TrS.wakes (t : TrS) (on : List ByteArray) : List ByteArray := risenS ((t.P.filter (fun p => hasB on p.2)).map (·.1))
def TrS.woken (t : TrS) (on : List ByteArray) : TrS := { t with R := t.R ++ t.wakes on, P := t.P.filter (fun p => !hasB on p.2) }

theorem hasB_congr {L M : List ByteArray} {a b : ByteArray} (h : a ∈ L ↔ b ∈ M) : hasB L a = hasB M b := by
  rw [Bool.eq_iff_iff, hasB_true, hasB_true]
  exact h
theorem lookP_none {P : List (ByteArray × ByteArray)} {a : ByteArray} : lookP P a = none ↔ a ∉ P.map (·.1) := by
  unfold lookP
  rw [Option.map_eq_none_iff, List.find?_eq_none]
  simp only [decide_eq_true_eq, List.mem_map, not_exists, not_and]
theorem lookP_some {P : List (ByteArray × ByteArray)} {a : ByteArray} : (lookP P a).isSome = hasB (P.map (·.1)) a := by
  by_cases h : a ∈ P.map (·.1)
  · rw [hasB_true.2 h]
    cases h2 : lookP P a with
    | some v => rfl
    | none => exact absurd h (lookP_none.1 h2)
  · rw [hasB_false.2 h, lookP_none.2 h]
    rfl
theorem lookP_mem {P : List (ByteArray × ByteArray)} (hn : (P.map (·.1)).Nodup) {a o : ByteArray} : lookP P a = some o ↔ (a, o) ∈ P := by
  induction P with
  | nil => simp [lookP]
  | cons p P ih =>
    obtain ⟨b, q⟩ := p
    rw [List.map_cons, List.nodup_cons] at hn
    unfold lookP at ih ⊢
    rw [List.find?_cons]
    by_cases h : b = a
    · subst h
      have h9 : (b, o) ∉ P := fun hm => hn.1 (List.mem_map.2 ⟨_, hm, rfl⟩)
      simp [h9]
      exact ⟨fun h => h.symm, fun h => h.symm⟩
    · simp only [decide_eq_false h]
      rw [ih hn.2]
      simp [Ne.symm h]
theorem rem_mem {L : List ByteArray} {a b : ByteArray} : b ∈ remS L a ↔ b ∈ L ∧ b ≠ a := by simp [remS]
theorem rem_has {L : List ByteArray} {a b : ByteArray} : hasB (remS L a) b = (!decide (b = a) && hasB L b) := by
  rw [Bool.eq_iff_iff, hasB_true, rem_mem, Bool.and_eq_true, hasB_true]
  simp
  exact And.comm
theorem rem_len : ∀ {L : List ByteArray} {a : ByteArray}, L.Nodup → (remS L a).length = cntD (hasB L a) L.length
  | [], a, _ => by simp [remS, cntD]
  | x :: L, a, h => by
    rw [List.nodup_cons] at h
    have ih := rem_len (a := a) h.2
    unfold remS at ih ⊢
    rw [List.filter_cons]
    by_cases e : x = a
    · subst e
      have e1 : hasB (x :: L) x = true := hasB_true.2 (by simp)
      have e2 : hasB L x = false := hasB_false.2 h.1
      rw [e2] at ih
      rw [e1]
      simp only [decide_true, Bool.not_true, Bool.false_eq_true, if_false, cntD, if_true, List.length_cons, Nat.add_sub_cancel] at ih ⊢
      exact ih
    · have e1 : hasB (x :: L) a = hasB L a := hasB_congr (by simp [Ne.symm e])
      rw [e1]
      simp only [decide_eq_false e, Bool.not_false, if_true, List.length_cons, ih]
      unfold cntD
      cases hb : hasB L a with
      | false => simp
      | true =>
        have : 0 < L.length := List.length_pos_of_mem (hasB_true.1 hb)
        simp
        omega
theorem rem_rises {L : List ByteArray} {a : ByteArray} (h : RisesS L) : RisesS (remS L a) := List.Pairwise.filter _ h
theorem rise_has {L : List ByteArray} {x b : ByteArray} : hasB (riseS x L) b = (decide (b = x) || hasB L b) := by
  rw [Bool.eq_iff_iff, hasB_true, mem_riseS, Bool.or_eq_true, hasB_true]
  simp
theorem rise_len : ∀ {L : List ByteArray} {x : ByteArray}, x ∉ L → (riseS x L).length = L.length + 1
  | [], x, _ => rfl
  | y :: L, x, h => by
    rw [List.mem_cons] at h
    unfold riseS
    split
    · rw [List.length_cons, rise_len (fun h2 => h (.inr h2)), List.length_cons]
    · split
      · rename_i h3 h4
        exact absurd (.inl h4.symm) h
      · simp
theorem TrS.tb_has (t : TrS) (a : ByteArray) : t.tb.has a = t.has a := by
  have h1 := (risenS_spec t.names).2
  have h2 : hasB (risenS t.names) a = hasB t.names a := hasB_congr (h1 a)
  unfold TrS.has TbS.has
  rw [h2]
  show ((lookP t.P a).isSome || hasB t.G a || hasB t.R a) = _
  rw [lookP_some]
  show (hasB t.names a || hasB t.G a || hasB t.R a) = _
  cases hasB t.names a <;> cases hasB t.G a <;> cases hasB t.R a <;> rfl

section
variable {t : TrS} (h : t.ok)
include h
theorem TrS.ok.ndR : t.R.Nodup := (List.nodup_append.1 h.nd).1
theorem TrS.ok.ndG : t.G.Nodup := (List.nodup_append.1 (List.nodup_append.1 h.nd).2.1).1
theorem TrS.ok.ndP : t.names.Nodup := (List.nodup_append.1 (List.nodup_append.1 h.nd).2.1).2.1
theorem TrS.ok.RG {x : ByteArray} (hx : x ∈ t.R) : x ∉ t.G := fun hg => (List.nodup_append.1 h.nd).2.2 x hx x (List.mem_append_left _ hg) rfl
theorem TrS.ok.RP {x : ByteArray} (hx : x ∈ t.R) : x ∉ t.names := fun hg => (List.nodup_append.1 h.nd).2.2 x hx x (List.mem_append_right _ hg) rfl
theorem TrS.ok.GP {x : ByteArray} (hx : x ∈ t.G) : x ∉ t.names := fun hg => (List.nodup_append.1 (List.nodup_append.1 h.nd).2.1).2.2 x hx x hg rfl
end
theorem nodup3 {R G P : List ByteArray} (h1 : R.Nodup) (h2 : G.Nodup) (h3 : P.Nodup) (h4 : ∀ x, x ∈ R → x ∉ G) (h5 : ∀ x, x ∈ R → x ∉ P) (h6 : ∀ x, x ∈ G → x ∉ P) : (R ++ (G ++ P)).Nodup := by
  refine List.nodup_append.2 ⟨h1, List.nodup_append.2 ⟨h2, h3, fun x hx y hy e => h6 x hx (e ▸ hy)⟩, fun x hx y hy e => ?_⟩
  subst e
  rcases List.mem_append.1 hy with hy | hy
  · exact h4 x hx hy
  · exact h5 x hx hy

theorem TrS.add_tb (t : TrS) (a : ByteArray) : (t.add a).tb = { t.tb with R := t.tb.R ++ [a] } := rfl
theorem TrS.ok.add {t : TrS} (h : t.ok) {a : ByteArray} (ha : t.has a = false) (hs : a.size ≤ 100) : (t.add a).ok := by
  have hn : a ∉ t.R ∧ a ∉ t.G ∧ a ∉ t.names := by
    unfold TrS.has at ha
    simp only [Bool.or_eq_false_iff, hasB_false] at ha
    exact ⟨ha.1.1, ha.1.2, fun hm => ha.2 (((risenS_spec t.names).2 a).2 hm)⟩
  refine ⟨nodup3 (R := t.R ++ [a]) ?_ h.ndG h.ndP ?_ ?_ (fun x hx => h.GP hx), h.rise, ?_⟩
  · exact List.nodup_append.2 ⟨h.ndR, by simp, fun x hx y hy e => hn.1 (by simp at hy; rw [← hy, ← e]; exact hx)⟩
  · intro x hx
    rcases List.mem_append.1 hx with hx | hx
    · exact h.RG hx
    · simp at hx; subst hx; exact hn.2.1
  · intro x hx
    rcases List.mem_append.1 hx with hx | hx
    · exact h.RP hx
    · simp at hx; subst hx; exact hn.2.2
  · intro x hx
    show x.size ≤ 100
    have hx : x ∈ (t.R ++ [a]) ++ (t.G ++ t.names) := hx
    simp only [List.mem_append, List.mem_singleton] at hx
    rcases hx with (hx | rfl) | hx
    · exact h.small x (by simp [hx])
    · exact hs
    · exact h.small x (by simp only [List.mem_append]; exact .inr hx)

theorem TrS.next_tb {t : TrS} (h : t.ok) {R : List ByteArray} {x : ByteArray} (hR : t.R = R ++ [x]) : ({ t with R := R, G := riseS x t.G } : TrS).tb = { t.tb with R := R, G := fun b => decide (b = x) || t.tb.G b, ng := cntP (t.tb.G x) t.tb.ng } := by
  have hx : x ∉ t.G := h.RG (by rw [hR]; simp)
  unfold TrS.tb
  dsimp only
  rw [rise_len hx]
  unfold cntP
  rw [hasB_false.2 hx, if_neg Bool.false_ne_true]
  congr 1
  funext b
  exact rise_has
theorem TrS.ok.next {t : TrS} (h : t.ok) {R : List ByteArray} {x : ByteArray} (hR : t.R = R ++ [x]) : ({ t with R := R, G := riseS x t.G } : TrS).ok := by
  have hx : x ∈ t.R := by rw [hR]; simp
  have hsub : ∀ y, y ∈ R → y ∈ t.R := fun y hy => by rw [hR]; simp [hy]
  have hRn := h.ndR
  rw [hR, List.nodup_append] at hRn
  refine ⟨nodup3 (G := riseS x t.G) hRn.1 (rises_nodupS (rises_riseS h.rise)) h.ndP ?_ ?_ ?_, rises_riseS h.rise, ?_⟩
  · intro y hy hm
    rcases mem_riseS.1 hm with rfl | hm
    · exact hRn.2.2 y hy y (by simp) rfl
    · exact h.RG (hsub y hy) hm
  · exact fun y hy => h.RP (hsub y hy)
  · intro y hy
    rcases mem_riseS.1 hy with rfl | hy
    · exact h.RP hx
    · exact h.GP hy
  · intro y hy
    have hy : y ∈ R ++ (riseS x t.G ++ t.names) := hy
    simp only [List.mem_append, mem_riseS] at hy
    refine h.small y ?_
    simp only [List.mem_append]
    rcases hy with hy | (rfl | hy) | hy
    · exact .inl (hsub y hy)
    · exact .inl hx
    · exact .inr (.inl hy)
    · exact .inr (.inr hy)

theorem TrS.steal_tb {t : TrS} {R : List ByteArray} : ({ t with R := R } : TrS).tb = { t.tb with R := R } := rfl
theorem TrS.ok.steal {t : TrS} (h : t.ok) {R : List ByteArray} {x : ByteArray} (hR : t.R = x :: R) : ({ t with R := R } : TrS).ok := by
  have hsub : ∀ y, y ∈ R → y ∈ t.R := fun y hy => by rw [hR]; simp [hy]
  have hRn := h.ndR
  rw [hR, List.nodup_cons] at hRn
  refine ⟨nodup3 (R := R) hRn.2 h.ndG h.ndP (fun y hy => h.RG (hsub y hy)) (fun y hy => h.RP (hsub y hy)) (fun y hy => h.GP hy), h.rise, ?_⟩
  intro y hy
  have hy : y ∈ R ++ (t.G ++ t.names) := hy
  refine h.small y ?_
  rw [List.mem_append] at hy ⊢
  exact hy.imp (hsub y) id

theorem TrS.ends_tb {t : TrS} (h : t.ok) (a : ByteArray) : (t.ends a).tb = t.tb.ends a := by
  unfold TrS.tb TrS.ends TbS.ends
  dsimp only
  rw [rem_len h.ndG]
  congr 1
  funext b
  exact rem_has
theorem TrS.ok.ends {t : TrS} (h : t.ok) (a : ByteArray) : (t.ends a).ok := by
  have hsub : ∀ y, y ∈ remS t.G a → y ∈ t.G := fun y hy => (rem_mem.1 hy).1
  refine ⟨nodup3 (G := remS t.G a) h.ndR (rises_nodupS (rem_rises h.rise)) h.ndP (fun y hy hg => h.RG hy (hsub y hg)) (fun y hy => h.RP hy) (fun y hy => h.GP (hsub y hy)), rem_rises h.rise, ?_⟩
  intro y hy
  have hy : y ∈ t.R ++ (remS t.G a ++ t.names) := hy
  refine h.small y ?_
  simp only [List.mem_append] at hy ⊢
  exact hy.imp id (fun h => h.imp (hsub y) id)

theorem TrS.back_tb {t : TrS} (h : t.ok) (a : ByteArray) : (t.back a).tb = { t.tb.ends a with R := t.tb.R ++ [a] } := by
  rw [← TrS.ends_tb h]
  rfl
theorem TrS.ok.back {t : TrS} (h : t.ok) {a : ByteArray} (ha : hasB t.G a = true) : (t.back a).ok := by
  have hg := hasB_true.1 ha
  have h2 := h.ends a
  have hn : (t.ends a).has a = false := by
    have e1 : hasB t.R a = false := hasB_false.2 fun hm => h.RG hm hg
    have e2 : hasB (remS t.G a) a = false := hasB_false.2 fun hm => (rem_mem.1 hm).2 rfl
    have e3 : hasB (risenS t.names) a = false := hasB_false.2 fun hm => h.GP hg (((risenS_spec t.names).2 a).1 hm)
    show (hasB t.R a || hasB (remS t.G a) a || hasB (risenS t.names) a) = false
    rw [e1, e2, e3]
    rfl
  exact h2.add hn (h.small a (by simp [hg]))

theorem lookP_snoc (P : List (ByteArray × ByteArray)) (a o b : ByteArray) (h : a ∉ P.map (·.1)) : lookP (P ++ [(a, o)]) b = if b = a then some o else lookP P b := by
  unfold lookP
  rw [List.find?_append]
  by_cases e : b = a
  · subst e
    rw [if_pos rfl]
    have h2 : P.find? (fun p => decide (p.1 = b)) = none := by
      have := lookP_none.2 h
      unfold lookP at this
      rwa [Option.map_eq_none_iff] at this
    rw [h2]
    simp
  · rw [if_neg e]
    cases P.find? (fun p => decide (p.1 = b)) with
    | some v => rfl
    | none => simp [Ne.symm e]
theorem TrS.parks_tb {t : TrS} (h : t.ok) {a o : ByteArray} (ha : hasB t.G a = true) : (t.parks a o).tb = t.tb.parks a o := by
  have hg := hasB_true.1 ha
  have hn : a ∉ t.P.map (·.1) := h.GP hg
  unfold TbS.parks
  rw [← TrS.ends_tb h]
  unfold TrS.tb TrS.parks TrS.ends
  dsimp only
  rw [lookP_none.2 hn]
  unfold cntP
  simp only [Option.isSome_none, Bool.false_eq_true, if_false, List.length_append, List.length_singleton]
  congr 1
  funext b
  exact lookP_snoc _ _ _ _ hn
theorem TrS.ok.parks {t : TrS} (h : t.ok) {a o : ByteArray} (ha : hasB t.G a = true) : (t.parks a o).ok := by
  have hg := hasB_true.1 ha
  have hsub : ∀ y, y ∈ remS t.G a → y ∈ t.G := fun y hy => (rem_mem.1 hy).1
  have hnm : (t.parks a o).names = t.names ++ [a] := by simp [TrS.names, TrS.parks]
  refine ⟨?_, rem_rises h.rise, ?_⟩
  · rw [hnm]
    refine nodup3 (G := remS t.G a) h.ndR (rises_nodupS (rem_rises h.rise)) ?_ (fun y hy hg => h.RG hy (hsub y hg)) ?_ ?_
    · exact List.nodup_append.2 ⟨h.ndP, by simp, fun x hx y hy e => h.GP hg (by simp at hy; rw [← hy, ← e]; exact hx)⟩
    · intro y hy hm
      rcases List.mem_append.1 hm with hm | hm
      · exact h.RP hy hm
      · simp at hm; subst hm; exact h.RG hy hg
    · intro y hy hm
      rcases List.mem_append.1 hm with hm | hm
      · exact h.GP (hsub y hy) hm
      · simp at hm; subst hm; exact (rem_mem.1 hy).2 rfl
  · intro y hy
    rw [hnm] at hy
    have hy : y ∈ t.R ++ (remS t.G a ++ (t.names ++ [a])) := hy
    refine h.small y ?_
    simp only [List.mem_append, List.mem_singleton] at hy ⊢
    rcases hy with hy | hy | hy | rfl
    · exact .inl hy
    · exact .inr (.inl (hsub y hy))
    · exact .inr (.inr hy)
    · exact .inr (.inl hg)

theorem nodup_filter_map {P : List (ByteArray × ByteArray)} (h : (P.map (·.1)).Nodup) (p : ByteArray × ByteArray → Bool) : ((P.filter p).map (·.1)).Nodup :=
  h.sublist ((List.filter_sublist).map _)
theorem wakes_mem (t : TrS) (on : List ByteArray) (x : ByteArray) : x ∈ t.wakes on ↔ ∃ o, (x, o) ∈ t.P ∧ hasB on o = true := by
  unfold TrS.wakes
  rw [(risenS_spec _).2]
  simp only [List.mem_map, List.mem_filter, Prod.exists]
  constructor
  · rintro ⟨a, b, ⟨h1, h2⟩, rfl⟩
    exact ⟨b, h1, h2⟩
  · rintro ⟨o, h1, h2⟩
    exact ⟨x, o, ⟨h1, h2⟩, rfl⟩
theorem risenS_len {l : List ByteArray} (h : l.Nodup) : (risenS l).length = l.length := by
  have hp : (risenS l).Perm l := (List.perm_ext_iff_of_nodup (rises_nodupS (risenS_spec l).1) h).2 (risenS_spec l).2
  exact hp.length_eq
/-- Those that wake are the program's. -/
theorem TrS.ok.wakes_eq {t : TrS} (h : t.ok) {on W : List ByteArray} (hW : RisesS W) (hm : ∀ x, x ∈ W ↔ t.tb.wakes on x = true) : W = t.wakes on := by
  refine rises_eqS hW (risenS_spec _).1 fun z => ?_
  rw [hm, wakes_mem]
  unfold TbS.wakes
  show (match lookP t.P z with | some o => hasB on o | none => false) = true ↔ _
  cases hl : lookP t.P z with
  | none =>
    refine ⟨(fun h => by cases h), fun ⟨o, h1, _⟩ => ?_⟩
    rw [(lookP_mem h.ndP).2 h1] at hl
    cases hl
  | some o =>
    refine ⟨fun h2 => ⟨o, (lookP_mem h.ndP).1 hl, h2⟩, fun ⟨o2, h1, h2⟩ => ?_⟩
    rw [(lookP_mem h.ndP).2 h1] at hl
    obtain rfl := Option.some.inj hl
    exact h2
theorem TrS.ok.parked_eq {t : TrS} (h : t.ok) {L : List ByteArray} (hL : RisesS L) (hm : ∀ x, x ∈ L ↔ (t.tb.K x).isSome = true) : L = risenS t.names := by
  refine rises_eqS hL (risenS_spec _).1 fun z => ?_
  rw [hm, (risenS_spec _).2]
  show (lookP t.P z).isSome = true ↔ _
  rw [lookP_some, hasB_true]
  exact Iff.rfl
theorem TrS.ok.going_eq {t : TrS} (h : t.ok) {L : List ByteArray} (hL : RisesS L) (hm : ∀ x, x ∈ L ↔ t.tb.G x = true) : L = t.G := by
  refine rises_eqS hL h.rise fun z => ?_
  rw [hm]
  exact hasB_true
theorem filter_len2 {α : Type} (p : α → Bool) (l : List α) : (l.filter p).length + (l.filter (fun x => !p x)).length = l.length := by
  induction l with
  | nil => rfl
  | cons x l ih =>
    rw [List.filter_cons, List.filter_cons]
    cases p x <;> simp <;> omega
theorem TrS.ok.wakes_len {t : TrS} (h : t.ok) (on : List ByteArray) : (t.wakes on).length + (t.P.filter (fun p => !hasB on p.2)).length = t.P.length := by
  unfold TrS.wakes
  rw [risenS_len (nodup_filter_map h.ndP _), List.length_map]
  exact filter_len2 (fun p => hasB on p.2) t.P
theorem TrS.woken_tb {t : TrS} (h : t.ok) (on : List ByteArray) : (t.woken on).tb = t.tb.woken (t.wakes on) := by
  have hl := h.wakes_len on
  unfold TrS.tb TrS.woken TbS.woken
  dsimp only
  have e1 : t.P.length - (t.wakes on).length = (t.P.filter (fun p => !hasB on p.2)).length := by omega
  have e2 : lookP (t.P.filter (fun p => !hasB on p.2)) = fun b => if hasB (t.wakes on) b = true then none else lookP t.P b := by
    funext b
    have hn2 := nodup_filter_map h.ndP (fun p => !hasB on p.2)
    by_cases hb : b ∈ t.wakes on
    · rw [hasB_true.2 hb, if_pos rfl, lookP_none]
      obtain ⟨o, h1, h2⟩ := (wakes_mem t on b).1 hb
      intro hm
      obtain ⟨⟨b2, o2⟩, h3, rfl⟩ := List.mem_map.1 hm
      rw [List.mem_filter] at h3
      have := (lookP_mem h.ndP).2 h1
      have e := (lookP_mem h.ndP).2 h3.1
      rw [this] at e
      obtain rfl := Option.some.inj e
      rw [h2] at h3
      simp at h3
    · rw [hasB_false.2 hb, if_neg Bool.false_ne_true]
      cases hl2 : lookP t.P b with
      | none =>
        rw [lookP_none] at hl2 ⊢
        exact fun hm => hl2 (((List.filter_sublist).map _).subset hm)
      | some o =>
        have h1 := (lookP_mem h.ndP).1 hl2
        rw [lookP_mem hn2, List.mem_filter]
        refine ⟨h1, ?_⟩
        cases h2 : hasB on o with
        | false => rfl
        | true => exact absurd ((wakes_mem t on b).2 ⟨o, h1, h2⟩) hb
  rw [e1, e2]
theorem TrS.ok.woken {t : TrS} (h : t.ok) (on : List ByteArray) : (t.woken on).ok := by
  have hsub : ∀ y, y ∈ t.wakes on → y ∈ t.names := fun y hy => by
    obtain ⟨o, h1, _⟩ := (wakes_mem t on y).1 hy
    exact List.mem_map.2 ⟨_, h1, rfl⟩
  have hn2 : (t.woken on).names.Nodup := nodup_filter_map h.ndP (fun p => !hasB on p.2)
  have hsub2 : ∀ y, y ∈ (t.woken on).names → y ∈ t.names := fun y hy => ((List.filter_sublist).map _).subset hy
  have hWn : (t.wakes on).Nodup := rises_nodupS (risenS_spec _).1
  refine ⟨nodup3 (R := t.R ++ t.wakes on) ?_ h.ndG hn2 ?_ ?_ (fun y hy hm => h.GP hy (hsub2 y hm)), h.rise, ?_⟩
  · exact List.nodup_append.2 ⟨h.ndR, hWn, fun x hx y hy e => h.RP hx (e ▸ hsub y hy)⟩
  · intro y hy hg
    rcases List.mem_append.1 hy with hy | hy
    · exact h.RG hy hg
    · exact h.GP hg (hsub y hy)
  · intro y hy hm
    rcases List.mem_append.1 hy with hy | hy
    · exact h.RP hy (hsub2 y hm)
    · obtain ⟨o, h1, h2⟩ := (wakes_mem t on y).1 hy
      obtain ⟨⟨b2, o2⟩, h3, rfl⟩ := List.mem_map.1 hm
      have h3 : (b2, o2) ∈ t.P.filter (fun p => !hasB on p.2) := h3
      rw [List.mem_filter] at h3
      have e1 := (lookP_mem h.ndP).2 h1
      have e := (lookP_mem h.ndP).2 h3.1
      rw [e1] at e
      obtain rfl := Option.some.inj e
      rw [h2] at h3
      simp at h3
  · intro y hy
    have hy : y ∈ (t.R ++ t.wakes on) ++ (t.G ++ (t.woken on).names) := hy
    refine h.small y ?_
    simp only [List.mem_append] at hy ⊢
    rcases hy with (hy | hy) | hy | hy
    · exact .inl hy
    · exact .inr (.inr (hsub y hy))
    · exact .inr (.inl hy)
    · exact .inr (.inr (hsub2 y hy))
theorem TrS.new_ok (mx : Int) : (⟨[], [], [], mx⟩ : TrS).ok := ⟨by simp [TrS.names], List.Pairwise.nil, by simp [TrS.names]⟩
theorem TrS.new_tb (mx : Int) : (⟨[], [], [], mx⟩ : TrS).tb = ⟨[], fun _ => false, 0, fun _ => none, 0, if mx ≤ 1 then 1 else mx⟩ := rfl
end Go.Proofs.Ytfglikgifkpfpaa
