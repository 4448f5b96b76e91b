/-
  move.Taker.In in all ways; gleanerlaw21.MoveAll: who has which name, as plain Lean.
-/
import Derived.Test.YtflaliomkfbagaaMvTkTake2
import Derived.Test.YtflaliomkfbagaaMvTkFull
import Derived.Test.YtflaliomkfbagaaMvGone
namespace Go.Proofs.Ytflaliomkfbagaa
open Go.RowKit
set_option linter.unusedVariables false
set_option linter.unusedSimpArgs false

theorem tkIn_offer (w : World) (F : Nat → Prop) (g sm tm ns nt : Nat) (s : TkS) (h : Tk w F g sm tm ns nt s) (n : Nt) (A : Option Addr) (k c : Nat) (B : Option Addr) (m d : Nat) (hN : NtAt w n A k c B m d) (hk : k ≤ 1099511627776) (hm : m ≤ 1099511627776) (hmay : n.clear.may = true) (hkind : n.kind = 4) (hns : ns ≤ 1000000) (hnt : nt ≤ 1000000) :
    Calls Try.prog 17 #[.pointer (some ⟨g, 0, none⟩), .agg (NtC n A k c B m d)] w (TkInPost w F g sm tm ns nt s n hN.ok) := by
  cases ht : s.told (keyN n hN.ok) with
  | some v0 => exact tkIn_told w F g sm tm ns nt s h n A k c B m d hN hk hm hmay hkind v0 ht hns hnt
  | none =>
    by_cases h2 : (ns : Int) < s.room
    · cases h3 : s.has n.id with
      | false => exact tkIn_take2 w F g sm tm ns nt s h n A k c B m d hN hk hm hmay hkind ht h2 h3 hns hnt
      | true => exact tkIn_had w F g sm tm ns nt s h n A k c B m d hN hk hm hmay hkind ht h2 h3 hns hnt
    · exact tkIn_full w F g sm tm ns nt s h n A k c B m d hN hk hm hmay hkind ht h2 hns hnt

/-- The offer of a name as a note: it may be one. -/
theorem offN_ok {o : Of} {a : ByteArray} (h1 : i64 o.num) (h2 : i64 o.epoch) (ha : vid a = true) : (offN o a).ok := by
  have := id_small ha
  refine ⟨?_, ?_, ?_, ?_, ?_, ?_, ?_, ?_, ?_, ?_, ?_⟩
  all_goals first | exact h1 | exact h2 | exact this | exact (show i64 0 from ⟨by decide, by decide⟩) | exact (show i64 4 from ⟨by decide, by decide⟩) | (intro x hx; cases hx) | decide
theorem offN_may {o : Of} {a : ByteArray} (h1 : 0 ≤ o.num) (h2 : o.num ≤ 1000000) (he : o.epoch = 1) (ha : vid a = true) : (offN o a).clear.may = true := by
  have e : (offN o a).clear = { Nt.ofKind 4 with life := o.num, epoch := 1, id := a } := by
    unfold Nt.clear offN
    rw [he]
    rfl
  rw [e]
  show (isK 4 && upto 15 0 && (upto great o.num && upto great 1 && upto great 0) && vid a && upto 31 0 && decide (([] : List Int).length ≤ 8) && endB 0 0 && viewB []) = true
  rw [upto_iff.2 ⟨h1, by unfold great; omega⟩, ha]
  rfl

def ofA (i : Nat) : Of := ⟨1, 1, (i : Int) + 1⟩
def ntA (i : Nat) : Nt := offN (ofA i) (id1 i)
theorem ntA_ok {i : Nat} (h : i < 16) : (ntA i).ok := offN_ok (show i64 ((i : Int) + 1) by unfold i64; omega) (show i64 1 by unfold i64; omega) (id1_vid h)
theorem ntA_may {i : Nat} (h : i < 16) : (ntA i).clear.may = true := offN_may (show (0 : Int) ≤ (i : Int) + 1 by omega) (show (i : Int) + 1 ≤ 1000000 by omega) rfl (id1_vid h)
def kdA (room i : Nat) : Int := if i < room then 5 else 6
def hasT (room j : Nat) : ByteArray → Bool := hasL ((List.range (min j room)).map id1)

/-- The taker has answered the offers of the first j names. -/
structure TkB (room j : Nat) (s : TkS) (ns : Nat) : Prop where
  node : s.node = 1
  rm : s.room = room
  has : s.has = hasT room j
  ns_ : ns = min j room
  told : ∀ x v, s.told x = some v → x.1.2.2 ≤ (j : Int)
theorem tkB_zero (room : Nat) : TkB room 0 ⟨1, room, fun _ => false, fun _ => none⟩ 0 := by
  refine ⟨rfl, rfl, ?_, by omega, fun x v h => nomatch h⟩
  unfold hasT
  rw [Nat.zero_min]
  rfl
theorem hasT_new (room : Nat) {i : Nat} (h : i < 256) : hasT room i (id1 i) = false := by
  rw [← Bool.not_eq_true]
  unfold hasT
  rw [hasL_true, List.mem_map]
  rintro ⟨j, h1, h2⟩
  rw [List.mem_range] at h1
  have := id1_inj (by omega) h h2
  omega
theorem hasT_step (room i : Nat) : hasT room (i + 1) = if i < room then fun c => decide (c = id1 i) || hasT room i c else hasT room i := by
  by_cases h : i < room
  · rw [if_pos h]
    funext c
    unfold hasT
    rw [show min (i + 1) room = i + 1 by omega, show min i room = i by omega, List.range_succ, List.map_append]
    show hasL (_ ++ [id1 i]) c = _
    rw [hasL_snoc, Bool.or_comm]
  · rw [if_neg h]
    unfold hasT
    rw [show min (i + 1) room = min i room by omega]
theorem tkB_take {room i : Nat} {s : TkS} {ns : Nat} (h : TkB room i s ns) (hi : i < 16) :
    tkKd s ns (ntA i) (ntA_ok hi) = kdA room i ∧ TkB room (i + 1) (tkS2 s ns (ntA i) (ntA_ok hi)) (tkNs s ns (ntA i) (ntA_ok hi)) ∧ (tkS2 s ns (ntA i) (ntA_ok hi)).told (keyN (ntA i) (ntA_ok hi)) = some (kdA room i) := by
  have hn : s.told (keyN (ntA i) (ntA_ok hi)) = none := by
    cases ht : s.told (keyN (ntA i) (ntA_ok hi)) with
    | none => rfl
    | some v =>
      have := h.told _ v ht
      have h2 : (i : Int) + 1 ≤ i := this
      omega
  have hy : tkYes s ns (ntA i) = decide (i < room) := by
    unfold tkYes
    rw [h.has, show (ntA i).id = id1 i from rfl, hasT_new room (by omega), h.rm, h.ns_]
    by_cases hr : i < room
    · rw [decide_eq_true hr, decide_eq_true (by omega)]; rfl
    · rw [decide_eq_false hr, decide_eq_false (by omega)]; rfl
  have hk : (if tkYes s ns (ntA i) = true then (5 : Int) else 6) = kdA room i := by
    unfold kdA
    rw [hy]
    simp
  have h1 : tkKd s ns (ntA i) (ntA_ok hi) = kdA room i := by unfold tkKd; rw [hn]; exact hk
  have h2 : tkS2 s ns (ntA i) (ntA_ok hi) = takeS s (ntA i) (ntA_ok hi) (kdA room i) := by unfold tkS2; rw [hn]; show takeS _ _ _ _ = _; rw [hk]
  have h3 : tkNs s ns (ntA i) (ntA_ok hi) = if i < room then ns + 1 else ns := by unfold tkNs; rw [hn]; show (if tkYes s ns (ntA i) = true then _ else _) = _; rw [hy]; simp
  refine ⟨h1, ?_, by rw [h2]; unfold takeS; simp⟩
  rw [h2, h3]
  refine ⟨h.node, h.rm, ?_, ?_, ?_⟩
  · rw [hasT_step]
    show (if kdA room i = 5 then fun c => decide (c = id1 i) || s.has c else s.has) = _
    rw [h.has]
    unfold kdA
    by_cases hr : i < room
    · rw [if_pos hr, if_pos rfl, if_pos hr]
    · rw [if_neg hr, if_neg (by decide), if_neg hr]
  · have := h.ns_
    by_cases hr : i < room
    · rw [if_pos hr]; omega
    · rw [if_neg hr]; omega
  · intro x v hx
    have hx : (if x = keyN (ntA i) (ntA_ok hi) then some (kdA room i) else s.told x) = some v := hx
    by_cases e : x = keyN (ntA i) (ntA_ok hi)
    · subst e
      show (i : Int) + 1 ≤ ((i + 1 : Nat) : Int)
      omega
    · rw [if_neg e] at hx
      have := h.told x v hx
      omega
theorem tkB_again {s : TkS} {ns : Nat} {n : Nt} {hn : n.ok} {v : Int} (h : s.told (keyN n hn) = some v) : tkKd s ns n hn = v ∧ tkS2 s ns n hn = s ∧ tkNs s ns n hn = ns := by
  unfold tkKd tkS2 tkNs
  rw [h]
  exact ⟨rfl, rfl, rfl⟩
/-- One offer stands, and is answered or not. -/
def Ask (room i : Nat) (s : TkS) (ns : Nat) : Prop := TkB room i s ns ∨ (TkB room (i + 1) s ns ∧ ∀ h : (ntA i).ok, s.told (keyN (ntA i) h) = some (kdA room i))
theorem ask_in {room i : Nat} {s : TkS} {ns : Nat} (h : Ask room i s ns) (hi : i < 16) :
    tkKd s ns (ntA i) (ntA_ok hi) = kdA room i ∧ TkB room (i + 1) (tkS2 s ns (ntA i) (ntA_ok hi)) (tkNs s ns (ntA i) (ntA_ok hi)) ∧ Ask room i (tkS2 s ns (ntA i) (ntA_ok hi)) (tkNs s ns (ntA i) (ntA_ok hi)) := by
  rcases h with h | ⟨h, ht⟩
  · obtain ⟨h1, h2, h3⟩ := tkB_take h hi
    exact ⟨h1, h2, .inr ⟨h2, fun _ => h3⟩⟩
  · obtain ⟨h1, h2, h3⟩ := tkB_again (ns := ns) (ht (ntA_ok hi))
    rw [h2, h3]
    exact ⟨h1, h, .inr ⟨h, ht⟩⟩

def gvL (T room i : Nat) : List ByteArray := ((List.range T).filter fun j => decide (i ≤ j) || decide (room ≤ j)).map id1
def gA (T room i : Nat) : GvS := ⟨0, hasL (gvL T room i), fun _ => none, i⟩
def gO (T room i : Nat) : GvS := offerS (gA T room i) (id1 i) (ofA i)
theorem gvL_mem (T room i : Nat) (x : ByteArray) : x ∈ gvL T room i ↔ ∃ j, j < T ∧ (i ≤ j ∨ room ≤ j) ∧ x = id1 j := by
  unfold gvL
  simp only [List.mem_map, List.mem_filter, List.mem_range, Bool.or_eq_true, decide_eq_true_eq]
  constructor
  · rintro ⟨j, ⟨h1, h2⟩, rfl⟩; exact ⟨j, h1, h2, rfl⟩
  · rintro ⟨j, h1, h2, rfl⟩; exact ⟨j, ⟨h1, h2⟩, rfl⟩
theorem gvL_rises (T room i : Nat) (hT : T ≤ 256) : RisesS (gvL T room i) := by
  unfold gvL RisesS
  rw [List.pairwise_map]
  refine List.Pairwise.filter _ ?_
  have : (List.range T).Pairwise (fun a b => a < b ∧ b < 256) := List.pairwise_lt_range.imp_of_mem (fun {a b} ha hb h => ⟨h, by have := List.mem_range.1 hb; omega⟩)
  exact this.imp fun h => id1_lt h.2 h.1
theorem fil_len (T room : Nat) {m : Nat} (h : m ≤ T) : ((List.range m).filter fun j => decide (T ≤ j) || decide (room ≤ j)).length = m - min m room := by
  induction m with
  | zero => rfl
  | succ m ih =>
    rw [List.range_succ, List.filter_append, List.length_append, ih (by omega)]
    by_cases hr : room ≤ m
    · rw [List.filter_cons_of_pos (by simp [hr])]
      simp
      omega
    · rw [List.filter_cons_of_neg (by simp; omega)]
      simp
      omega
theorem gvL_len (T room : Nat) : (gvL T room T).length = T - min T room := by
  unfold gvL
  rw [List.length_map]
  exact fil_len T room (Nat.le_refl _)
theorem all_gone (T room : Nat) {L : List ByteArray} (hL : RisesS L) (hm : ∀ x, x ∈ L ↔ (gA T room T).has x = true) (hT : T ≤ 256) : L.length = T - min T room := by
  rw [← gvL_len]
  congr 1
  exact one_list hL hm (gvL_rises T room T hT) (fun x => (hasL_true (W := gvL T room T) (c := x)).symm)
theorem gA_has {T room i : Nat} (h : i < T) : (gA T room i).has (id1 i) = true := by
  show hasL _ _ = true
  rw [hasL_true, gvL_mem]
  exact ⟨i, h, .inl (Nat.le_refl _), rfl⟩
theorem gO_again (T room i : Nat) : againV (gO T room i) (id1 i) = .tuple #[offV (ofA i) (id1 i), .bool true] := by
  unfold againV gO offerS setO
  simp
theorem gA_again (T room i : Nat) (a : ByteArray) : againV (gA T room i) a = .tuple #[noneV, .bool false] := rfl
theorem kd_or (room i : Nat) : kdA room i = 5 ∨ kdA room i = 6 := by
  unfold kdA
  by_cases h : i < room
  · rw [if_pos h]; exact .inl rfl
  · rw [if_neg h]; exact .inr rfl
theorem gO_inOk (T room i : Nat) : inOk (gO T room i) (ansN (kdA room i) 1 (ntA i)) = true := by
  unfold inOk
  rw [show (ansN (kdA room i) 1 (ntA i)).id = id1 i from rfl, show (gO T room i).off (id1 i) = some (ofA i) from if_pos rfl]
  show ((kdA room i == 5 || kdA room i == 6) && ((1 : Int) == 1 && (1 : Int) == 1 && ((i : Int) + 1 == (i : Int) + 1))) = true
  rcases kd_or room i with h | h <;> rw [h] <;> simp
theorem gO_in {T room i : Nat} (hi : i < T) (hT : T ≤ 16) : inS (gO T room i) (ansN (kdA room i) 1 (ntA i)) = gA T room (i + 1) := by
  have h1 : (inS (gO T room i) (ansN (kdA room i) 1 (ntA i))).has = (gA T room (i + 1)).has := by
    funext c
    show (if kdA room i = 6 then fun c => decide (c = id1 i) || (!decide (c = id1 i) && hasL (gvL T room i) c) else fun c => !decide (c = id1 i) && hasL (gvL T room i) c) c = hasL (gvL T room (i + 1)) c
    have key : hasL (gvL T room (i + 1)) c = true ↔ (if c = id1 i then room ≤ i else hasL (gvL T room i) c = true) := by
      rw [hasL_true, gvL_mem]
      by_cases hc : c = id1 i
      · rw [if_pos hc]
        constructor
        · rintro ⟨j, h1, h2, h3⟩
          have := id1_inj (by omega) (by omega) (hc.symm.trans h3)
          omega
        · intro h
          exact ⟨i, hi, .inr h, hc⟩
      · rw [if_neg hc, hasL_true, gvL_mem]
        constructor
        · rintro ⟨j, h1, h2, h3⟩
          exact ⟨j, h1, by omega, h3⟩
        · rintro ⟨j, h1, h2, h3⟩
          have : j ≠ i := fun e => hc (by rw [h3, e])
          exact ⟨j, h1, by omega, h3⟩
    rw [Bool.eq_iff_iff, key]
    unfold kdA
    by_cases hr : i < room
    · rw [if_pos hr, if_neg (by decide)]
      by_cases hc : c = id1 i
      · rw [if_pos hc]; simp [hc]; omega
      · rw [if_neg hc]; simp [hc]
    · rw [if_neg hr, if_pos rfl]
      by_cases hc : c = id1 i
      · rw [if_pos hc]; simp [hc]; omega
      · rw [if_neg hc]; simp [hc]
  have h2 : (inS (gO T room i) (ansN (kdA room i) 1 (ntA i))).off = (gA T room (i + 1)).off := by
    funext c
    show setO (setO (fun _ => none) (id1 i) (some (ofA i))) (id1 i) none c = none
    unfold setO
    by_cases h : c = id1 i <;> simp [h]
  have h3 : (inS (gO T room i) (ansN (kdA room i) 1 (ntA i))).num = (gA T room (i + 1)).num := by
    show (i : Int) + 1 = ((i + 1 : Nat) : Int)
    omega
  have h4 : (inS (gO T room i) (ansN (kdA room i) 1 (ntA i))).node = (gA T room (i + 1)).node := rfl
  revert h1 h2 h3 h4
  generalize inS (gO T room i) (ansN (kdA room i) 1 (ntA i)) = x
  generalize gA T room (i + 1) = y
  cases x; cases y
  rintro rfl rfl rfl rfl
  rfl
theorem own_all (room : Nat) {k : Nat} (hk : k ≤ 16) : ownN (g0 0) ((List.range k).map id1) = (⟨0, hasL ((List.range k).map id1), fun _ => none, 0⟩, (k : Int)) := by
  induction k with
  | zero => rfl
  | succ k ih =>
    rw [List.range_succ, List.map_append]
    show ownN (g0 0) (_ ++ [id1 k]) = _
    unfold ownN at ih ⊢
    rw [List.foldl_append, ih (by omega)]
    show own1 _ (id1 k) = _
    have hno : hasL ((List.range k).map id1) (id1 k) = false := by
      rw [← Bool.not_eq_true, hasL_true, List.mem_map]
      rintro ⟨j, h1, h2⟩
      rw [List.mem_range] at h1
      have := id1_inj (by omega) (by omega) h2
      omega
    unfold own1
    rw [if_pos (by simp [id1_vid (show k < 16 by omega), hno])]
    show (({ node := 0, has := fun c => decide (c = id1 k) || hasL ((List.range k).map id1) c, off := fun _ => none, num := 0 } : GvS), (k : Int) + 1) = _
    have e : (fun c => decide (c = id1 k) || hasL ((List.range k).map id1) c) = hasL ((List.range k).map id1 ++ List.map id1 [k]) := by
      funext c
      show _ = hasL (_ ++ [id1 k]) c
      rw [hasL_snoc, Bool.or_comm]
    rw [e]
    rfl
theorem gA_zero (T room : Nat) : (⟨0, hasL ((List.range T).map id1), fun _ => none, 0⟩ : GvS) = gA T room 0 := by
  unfold gA gvL
  rw [List.filter_eq_self.2 (fun j _ => by simp)]
  rfl
end Go.Proofs.Ytflaliomkfbagaa
