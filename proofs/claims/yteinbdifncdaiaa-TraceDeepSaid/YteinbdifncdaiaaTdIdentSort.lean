/-
  ident.Sort: slices.Clone, slices.Sort, slices.Compact of names: the names, rising, each once.
-/
import Derived.Test.YteinbdifncdaiaaKeys
import Derived.Test.YteinbdifncdaiaaTdOwn
import Derived.Test.YteinbdifncdaiaaTdDeepCode
import Derived.Sort.OwnSorted
namespace Go.Proofs.Yteinbdifncdaiaa
open Go.RowKit Go.Shelf Go.Sort
set_option linter.unusedVariables false
set_option linter.unusedSimpArgs false

theorem compact_risen {zs : List (List UInt8)} (h : zs.Pairwise (fun a b => a ≤ b)) : (Lib.compact zs).map mkB = risenS (zs.map mkB) := by
  have key : ∀ m, m ≤ zs.length → (Lib.compactUpTo zs.toArray m).map mkB = risenS ((zs.take m).map mkB) := by
    intro m
    induction m with
    | zero => intro _; simp [Lib.compactUpTo, risenS]
    | succ m ih =>
      intro hm
      have hm1 : m < zs.length := by omega
      have hget : ∀ j, j < zs.length → zs.toArray[j]! = zs[j]! := fun j hj => by simp
      have hg2 : ∀ j (hj : j < zs.length), zs[j]! = zs[j] := fun j hj => getElem!_pos zs j hj
      rw [Lib.compactUpTo_succ, List.map_append, ih (by omega), List.take_succ_eq_append_getElem hm1, List.map_append, List.map_singleton, risenS_snoc]
      obtain ⟨s1, s2⟩ := risenS_spec ((zs.take m).map mkB)
      have hmem : ∀ a, a ∈ (zs.take m).map mkB → ∃ j, ∃ hj : j < m, a = mkB (zs[j]'(by omega)) := fun a ha => by
        obtain ⟨y, hy, rfl⟩ := List.mem_map.1 ha
        obtain ⟨j, hj, rfl⟩ := List.mem_iff_getElem.1 hy
        simp only [List.length_take] at hj
        exact ⟨j, by omega, by rw [List.getElem_take]⟩
      have hle : ∀ i j (hi : i < j) (hj : j < zs.length), zs[i]'(by omega) ≤ zs[j] := fun i j hi hj => List.pairwise_iff_getElem.1 h i j (by omega) hj hi
      by_cases hk : Lib.keeps zs.toArray m = true
      · rw [if_pos hk]
        have hk2 : m = 0 ∨ zs[m] ≠ zs[m - 1]'(by omega) := by
          have := hk
          unfold Lib.keeps at this
          rw [decide_eq_true_eq, hget m hm1, hget (m - 1) (by omega), hg2 m hm1, hg2 (m - 1) (by omega)] at this
          exact this
        rw [hget m hm1, hg2 m hm1]
        refine rises_eqS ?_ (rises_riseS s1) fun z => ?_
        · refine List.pairwise_append.2 ⟨s1, List.pairwise_singleton _ _, fun a ha b hb => ?_⟩
          rw [List.map_singleton, List.mem_singleton] at hb
          subst hb
          obtain ⟨j, hj, rfl⟩ := hmem a ((s2 a).1 ha)
          rcases hk2 with h0 | hne
          · omega
          · show zs[j]'(by omega) < zs[m]
            have l1 : zs[m - 1]'(by omega) ≤ zs[m] := hle _ _ (by omega) hm1
            have l2 : zs[m - 1]'(by omega) < zs[m] := by
              rcases Classical.em (zs[m - 1]'(by omega) < zs[m]) with h | h
              · exact h
              · exact (hne (List.le_antisymm (List.not_lt.1 h) l1)).elim
            rcases Nat.lt_or_ge j (m - 1) with h | h
            · exact List.lt_of_le_of_lt (hle _ _ h (by omega)) l2
            · have : j = m - 1 := by omega
              subst this
              exact l2
        · rw [mem_riseS, List.mem_append, List.map_singleton, List.mem_singleton]
          exact Or.comm
      · rw [if_neg hk]
        have hk2 : 0 < m ∧ zs[m] = zs[m - 1]'(by omega) := by
          have := hk
          unfold Lib.keeps at this
          rw [decide_eq_true_eq, hget m hm1, hget (m - 1) (by omega), hg2 m hm1, hg2 (m - 1) (by omega)] at this
          refine ⟨by omega, ?_⟩
          rcases Classical.em (zs[m] = zs[m - 1]'(by omega)) with h | h
          · exact h
          · exact (this (.inr h)).elim
        rw [List.map_nil, List.append_nil]
        refine rises_eqS s1 (rises_riseS s1) fun z => ?_
        rw [mem_riseS]
        refine ⟨.inr, fun h => h.elim (fun e => ?_) id⟩
        rw [e, s2]
        refine List.mem_map.2 ⟨zs[m], ?_, rfl⟩
        rw [hk2.2]
        refine List.mem_iff_getElem.2 ⟨m - 1, by simp only [List.length_take]; omega, by rw [List.getElem_take]⟩
  have := key zs.length (Nat.le_refl _)
  rw [List.take_length] at this
  exact this

theorem sort_risen (L : List ByteArray) : (Lib.compact ((L.map bl).mergeSort fun x y => decide (x ≤ y))).map mkB = risenS L := by
  have h1 : ((L.map bl).mergeSort fun x y => decide (x ≤ y)).Pairwise (fun a b => a ≤ b) :=
    (List.pairwise_mergeSort (le := fun x y => decide (x ≤ y)) (fun a b c h1 h2 => by simp only [decide_eq_true_eq] at *; exact List.le_trans h1 h2) (fun a b => by simp only [Bool.or_eq_true, decide_eq_true_eq]; exact List.le_total a b) (L.map bl)).imp (fun h => by simpa using h)
  rw [compact_risen h1]
  obtain ⟨a1, a2⟩ := risenS_spec ((((L.map bl).mergeSort fun x y => decide (x ≤ y))).map mkB)
  obtain ⟨b1, b2⟩ := risenS_spec L
  refine rises_eqS a1 b1 fun z => ?_
  rw [a2, b2, List.mem_map]
  constructor
  · rintro ⟨y, hy, rfl⟩
    obtain ⟨x, hx, rfl⟩ := List.mem_map.1 (List.mem_mergeSort.1 hy)
    rw [mkB_bl]
    exact hx
  · exact fun hz => ⟨bl z, List.mem_mergeSort.2 (List.mem_map.2 ⟨z, hz, rfl⟩), mkB_bl z⟩

theorem sv_enc (L : List ByteArray) : sv L = (L.map bl).map encStr := by
  rw [List.map_map]
  rfl
theorem enc_sv (zs : List (List UInt8)) : zs.map encStr = sv (zs.map mkB) := by
  rw [sv, List.map_map]
  rfl
theorem sortS_own (w : World) (base : Nat) (v : Value) (n : Nat) (zs : List (List UInt8)) (h : OwnR rkI w base v n (zs.map encStr)) (hn : n ≤ 1099511627776) :
    Calls Try.prog 36 #[v] w fun e w2 => e = .returned (.tuple #[]) ∧ OwnR rkI w2 base v n ((zs.mergeSort fun x y => decide (x ≤ y)).map encStr) ∧ Chg (fun g => v.ownBlock = some g) w w2 := by
  have hl : zs.length = n := by have := h.len; simpa using this
  rcases h.2 with ⟨rfl, rfl⟩ | ⟨g, cap, cur, rfl, hbase, hb, h1, h2, h3, h4⟩
  · have hl0 : zs = [] := List.eq_nil_of_length_eq_zero hl
    subst hl0
    refine (AnyM.slices_Sort_string_none Try.sort36 none 0 w).mono ?_
    rintro e w2 ⟨rfl, rfl⟩
    exact ⟨rfl, by simpa using h, Chg.refl _ _⟩
  · subst hl
    have h4 : cur.toList.take zs.length = zs.map encStr := by have h5 : cur.toList.take (zs.length * 1) = zs.map encStr := h4; rw [Nat.mul_one] at h5; exact h5
    refine (AnyM.slices_Sort_string Try.sort36 g 0 cap zs w (holds_of_block hb h4) (Array.getElem?_eq_some_iff.1 hb).1 (by omega)).mono ?_
    rintro e w2 ⟨rfl, n, os, rfl⟩
    exact ⟨rfl, ownsRow_sorted (List.length_mergeSort zs) hbase hb h1 h2 h3, Chg.of_grown (grownBy_sorted _) |>.mono (fun b e => e)⟩
theorem OwnR.less {P : Program} {K : RowKind P} {w : World} {base g n m cap : Nat} {xs ys : List Value} (h : OwnR K w base (.slice (some ⟨g, 0, none⟩) n cap) n (xs ++ ys)) (hx : xs.length = m * K.size) (hm : m ≤ n) : OwnR K w base (.slice (some ⟨g, 0, none⟩) m cap) m xs := by
  rcases h.2 with ⟨h0, _⟩ | ⟨g2, cap2, cur, e, hbase, hb, h1, h2, h3, h4⟩
  · cases h0
  · cases e
    refine ⟨hx, .inr ⟨g, cap, cur, rfl, hbase, hb, by omega, h2, h3, ?_⟩⟩
    have h5 : m * K.size ≤ n * K.size := Nat.mul_le_mul_right _ hm
    have h6 : cur.toList.take (m * K.size) = (cur.toList.take (n * K.size)).take (m * K.size) := by rw [List.take_take, Nat.min_eq_left h5]
    rw [h6, h4, ← hx, List.take_left']
    rfl
theorem compactS_own (w : World) (base : Nat) (v : Value) (n : Nat) (zs : List (List UInt8)) (h : OwnR rkI w base v n (zs.map encStr)) (hn : n ≤ 1099511627776) :
    Calls Try.prog 37 #[v] w fun e w2 => ∃ v2 m, e = .returned v2 ∧ m = (Lib.compact zs).length ∧ OwnR rkI w2 base v2 m ((Lib.compact zs).map encStr) ∧ Chg (fun g => v.ownBlock = some g) w w2 := by
  have hl : zs.length = n := by have := h.len; simpa using this
  rcases h.2 with ⟨rfl, rfl⟩ | ⟨g, cap, cur, rfl, hbase, hb, h1, h2, h3, h4⟩
  · have hl0 : zs = [] := List.eq_nil_of_length_eq_zero hl
    subst hl0
    refine (AnyG.slices_Compact_string_empty Try.compact37 none 0 w).mono ?_
    rintro e w2 ⟨rfl, rfl⟩
    exact ⟨_, 0, rfl, rfl, by simpa [Lib.compact, Lib.compactUpTo] using h, Chg.refl _ _⟩
  · subst hl
    have h4 : cur.toList.take zs.length = zs.map encStr := by have h5 : cur.toList.take (zs.length * 1) = zs.map encStr := h4; rw [Nat.mul_one] at h5; exact h5
    refine (AnyG.slices_Compact_string Try.compact37 g 0 cap zs w (holds_of_block hb h4) (by omega) h1).mono ?_
    rintro e w2 ⟨rfl, q, rfl⟩
    have hle := Lib.compact_length_le zs
    have hg : grow (putRow encStr (Sort.ahead w q) g 0 (Lib.compact zs ++ List.replicate (zs.length - (Lib.compact zs).length) []).toArray) #[] = putRow encStr (Sort.ahead w q) g 0 (Lib.compact zs ++ List.replicate (zs.length - (Lib.compact zs).length) []).toArray := grow_empty _
    have hO : OwnR rkI _ base _ _ _ := ownsRow_sorted (n := q) (os := #[]) (ts := Lib.compact zs ++ List.replicate (zs.length - (Lib.compact zs).length) []) (ss := zs) (by simp; omega) hbase hb h1 h2 h3
    have hG := Chg.of_grown (grownBy_sorted (w := w) (g := g) (n := q) (os := #[]) (Lib.compact zs ++ List.replicate (zs.length - (Lib.compact zs).length) []).toArray)
    rw [hg] at hO hG
    rw [List.map_append] at hO
    exact ⟨_, _, rfl, rfl, hO.less (by simp) hle, hG.mono (fun b e => e)⟩
theorem identSort_any (w : World) (A : Option Addr) (n c : Nat) (L : List ByteArray) (hr : Rds w 1 A n (sv L)) (hn : n ≤ 1000000) :
    Calls Try.prog 22 #[.slice A n c] w fun e w2 => ∃ v m, e = .returned v ∧ m = (risenS L).length ∧ OwnR rkI w2 w.heap.size v m (sv (risenS L)) ∧ Chg Non w w2 := by
  go_enter Try.func22, Try.ntmps22
  go_wp2_with fail
  refine (cloneI_any A n c (sv L) _ hr (svI_one L) (by omega)).mono ?_
  rintro e w1 ⟨v, rfl, hO, hc1⟩
  rw [sv_enc] at hO
  go_wp2_with fail
  refine (sortS_own w1 _ v n (L.map bl) hO (by omega)).mono ?_
  rintro e w2 ⟨rfl, hO2, hc2⟩
  have hc2 : Chg Non w w2 := hO.chgApp hc1 (Nat.le_refl _) hc2
  clear hO hc1
  go_wp2_with fail
  refine (compactS_own w2 _ v n _ hO2 (by omega)).mono ?_
  rintro e w3 ⟨v2, m, rfl, hm, hO3, hc3⟩
  have hc3 : Chg Non w w3 := hO2.chgApp hc2 (Nat.le_refl _) hc3
  go_wp2_with fail
  go_ret
  rw [enc_sv, sort_risen] at hO3
  refine ⟨v2, m, rfl, ?_, hO3, hc3⟩
  rw [hm, ← sort_risen, List.length_map]
end Go.Proofs.Yteinbdifncdaiaa
