/-
  slices.Sorted(maps.Keys(m)) of a map of the call's own, its keys numbers (map[int]beat.heard).
-/
import Derived.Test.YtfpkhpdbfkclgaaKeysIPlain
import Derived.Test.YtfpkhpdbfkclgaaSortInts
namespace Go.Proofs.Ytfpkhpdbfkclgaa
open Go.RowKit Go.Maps Go.Sort Go.Shelf
set_option linter.unusedVariables false
set_option linter.unusedSimpArgs false

theorem beatSorts (m : Nat) : AnyZI.SortsIn Try.prog Try.sorted21_ren Fence.wide m :=
  ⟨fun blk off cap ss W hH hblk hsz => callsIn_wide.2 (AnyM.slices_Sort_int Try.sort29 blk off cap ss W hH hblk hsz),
   fun p cap W => callsIn_wide.2 (AnyM.slices_Sort_int_none Try.sort29 p cap W)⟩

theorem beatKeys (w : World) (g : Nat) : Calls Try.prog 22 #[.map (some g)] w fun e w2 => e = .returned (.func (.func 30) #[] #[.pointer (some ⟨w.heap.size, 0, none⟩)]) ∧ w.alloc (.cells #[.map (some g)] 40) = w2 := by
  have h := (callsIn_wide (n := 5)).1 (AnyZI.keys_in Try.keys22 Fence.wide 5 trivial rfl (some g) w)
  change Calls Try.prog 22 _ _ _ at h
  refine h.mono ?_
  rintro e w2 ⟨rfl, rfl⟩
  exact ⟨rfl, rfl⟩

set_option maxHeartbeats 1000000 in
theorem beatSorted (w : World) (g n : Nat) (f : Int → Option Value) (h : Mp (intKey Try.underlying3) w g n f) (hn : n ≤ 1000000000) :
    Calls Try.prog 21 #[.func (.func 30) #[] #[.pointer (some ⟨w.heap.size, 0, none⟩)]] (w.alloc (.cells #[.map (some g)] 40)) (KeysPost rkN w n f) := by
  obtain ⟨D, h1, h2, h3⟩ := h
  obtain ⟨k1, k2⟩ := intKeys_mem Try.underlying3 (intKey Try.underlying3).keyed h1
  have hbl := h1.lt
  have hseq : SeqGives Fence.wide 2 Try.prog 30 #[.pointer (some ⟨w.heap.size, 0, none⟩)] encZ (fun ss => ss.Perm (intKeys D)) (Maps.size D) (w.alloc (.cells #[.map (some g)] 40)) :=
    AnyZI.keys_gives (ρ := Try.keys22_ren) { Try.keys22 with } Fence.wide _ trivial rfl (by omega) w.heap.size g n D _ (by simp) (by simp) (by
      obtain ⟨es, clock, hb, Ft, hs, hD⟩ := h1
      exact ⟨es, clock, (Below.heap_alloc _ _ g hbl).trans hb, Ft, hs, hD⟩)
  have cS := AnyZI.sorted_in Try.sorted21 Fence.wide 5 trivial trivial trivial trivial rfl (by omega) (beatSorts _) (enters_of Try.func29 (by kernel_rfl) rfl) 30 #[.pointer (some ⟨w.heap.size, 0, none⟩)] trivial (enters_of Try.func30 (by kernel_rfl) rfl) _ _ (by unfold maxLen; omega) (by omega) _ hseq
  change CallsIn _ _ Try.prog 21 _ _ _ at cS
  refine ((callsIn_wide (n := 5)).1 cS).mono ?_
  rintro e w2 ⟨v, ss, rfl, hS, hrow, hnil, hb⟩
  have hnd : ss.Nodup := hS.nodup_iff.2 k1
  have hse : ss.mergeSort (fun x y => decide (x ≤ y)) = risen ss := sort_eq hnd
  rw [hse] at hrow
  have hlen : (risen ss).length = ss.length := by rw [← sort_eq hnd, List.length_mergeSort]
  refine ⟨v, (risen ss).length, risen ss, rfl, by rw [hlen, hS.length_eq, intKeys_len, h2], rfl, (risen_spec ss).1, fun x => ?_, ?_, ?_⟩
  · rw [(risen_spec ss).2, hS.mem_iff, k2]
    exact (h3 x).1 ▸ Iff.rfl
  · rw [hlen]
    exact ownsRow_base_a hrow (by simp)
  · exact (((Chg.refl Non w).alloc _).non (Chg.of_below hb))
end Go.Proofs.Ytfpkhpdbfkclgaa
