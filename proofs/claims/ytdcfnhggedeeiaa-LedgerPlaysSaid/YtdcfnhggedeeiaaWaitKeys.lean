/-
  slices.Sorted(maps.Keys(m)) of a map of the call's own, its keys numbers (map[int]bool).
-/
import Derived.Test.YtdcfnhggedeeiaaKeysIPlain
import Derived.Test.YtdcfnhggedeeiaaSortInts
namespace Go.Proofs.Ytdcfnhggedeeiaa
open Go.RowKit Go.Maps Go.Sort Go.Shelf
set_option linter.unusedVariables false
set_option linter.unusedSimpArgs false

theorem waitSorts (m : Nat) : AnyZI.SortsIn Try.prog Try.sorted24_ren Fence.wide m :=
  ⟨fun blk off cap ss W hH hblk hsz => callsIn_wide.2 (AnyM.slices_Sort_int Try.sort28 blk off cap ss W hH hblk hsz),
   fun p cap W => callsIn_wide.2 (AnyM.slices_Sort_int_none Try.sort28 p cap W)⟩

theorem waitKeys (w : World) (g : Nat) : Calls Try.prog 25 #[.map (some g)] w fun e w2 => e = .returned (.func (.func 29) #[] #[.pointer (some ⟨w.heap.size, 0, none⟩)]) ∧ w.alloc (.cells #[.map (some g)] 65) = w2 := by
  have h := (callsIn_wide (n := 5)).1 (AnyZI.keys_in Try.keys25 Fence.wide 5 trivial rfl (some g) w)
  change Calls Try.prog 25 _ _ _ at h
  refine h.mono ?_
  rintro e w2 ⟨rfl, rfl⟩
  exact ⟨rfl, rfl⟩

set_option maxHeartbeats 1000000 in
theorem waitSorted (w : World) (g n : Nat) (f : Int → Option Value) (h : Mp (intKey Try.underlying3) w g n f) (hn : n ≤ 1000000000) :
    Calls Try.prog 24 #[.func (.func 29) #[] #[.pointer (some ⟨w.heap.size, 0, none⟩)]] (w.alloc (.cells #[.map (some g)] 65)) (KeysPost rkN w n f) := by
  obtain ⟨D, h1, h2, h3⟩ := h
  obtain ⟨k1, k2⟩ := intKeys_mem Try.underlying3 (intKey Try.underlying3).keyed h1
  have hbl := h1.lt
  have hseq : SeqGives Fence.wide 2 Try.prog 29 #[.pointer (some ⟨w.heap.size, 0, none⟩)] encZ (fun ss => ss.Perm (intKeys D)) (Maps.size D) (w.alloc (.cells #[.map (some g)] 65)) :=
    AnyZI.keys_gives (ρ := Try.keys25_ren) { Try.keys25 with } Fence.wide _ trivial rfl (by omega) w.heap.size g n D _ (by simp) (by simp) (by
      obtain ⟨es, clock, hb, Ft, hs, hD⟩ := h1
      exact ⟨es, clock, (Below.heap_alloc _ _ g hbl).trans hb, Ft, hs, hD⟩)
  have cS := AnyZI.sorted_in Try.sorted24 Fence.wide 5 trivial trivial trivial trivial rfl (by omega) (waitSorts _) (enters_of Try.func28 (by kernel_rfl) rfl) 29 #[.pointer (some ⟨w.heap.size, 0, none⟩)] trivial (enters_of Try.func29 (by kernel_rfl) rfl) _ _ (by unfold maxLen; omega) (by omega) _ hseq
  change CallsIn _ _ Try.prog 24 _ _ _ at cS
  refine ((callsIn_wide (n := 5)).1 cS).mono ?_
  rintro e w2 ⟨v, ss, rfl, hS, hrow, hnil, hb⟩
  have hnd : ss.Nodup := hS.nodup_iff.2 k1
  have hse : ss.mergeSort (fun x y => decide (x ≤ y)) = risen ss := sort_eq hnd
  rw [hse] at hrow
  have hlen : (risen ss).length = ss.length := by rw [← sort_eq hnd, List.length_mergeSort]
  refine ⟨v, (risen ss).length, risen ss, rfl, by rw [hlen, hS.length_eq, intKeys_len, h2], rfl, (risen_spec ss).1, fun x => ?_, ?_, ?_⟩
  · rw [(risen_spec ss).2, hS.mem_iff, k2]
    exact (h3 x).1 ▸ Iff.rfl
  · rw [hlen]
    exact ownsRow_base_a hrow (by simp)
  · exact (((Chg.refl Non w).alloc _).non (Chg.of_below hb))

theorem waitKeysNil (w : World) : Calls Try.prog 25 #[.map none] w fun e w2 => e = .returned (.func (.func 29) #[] #[.pointer (some ⟨w.heap.size, 0, none⟩)]) ∧ w.alloc (.cells #[.map none] 65) = w2 := by
  have h := (callsIn_wide (n := 5)).1 (AnyZI.keys_in Try.keys25 Fence.wide 5 trivial rfl none w)
  change Calls Try.prog 25 _ _ _ at h
  refine h.mono ?_
  rintro e w2 ⟨rfl, rfl⟩
  exact ⟨rfl, rfl⟩

set_option maxHeartbeats 1000000 in
theorem waitSortedNil (w : World) :
    Calls Try.prog 24 #[.func (.func 29) #[] #[.pointer (some ⟨w.heap.size, 0, none⟩)]] (w.alloc (.cells #[.map none] 65)) fun e w2 => e = .returned (.slice none 0 0) ∧ Chg Non w w2 := by
  have hseq : SeqGives Fence.wide 2 Try.prog 29 #[.pointer (some ⟨w.heap.size, 0, none⟩)] encZ (fun ss : List Int => ss = []) 0 (w.alloc (.cells #[.map none] 65)) :=
    AnyZI.keys_gives_nil (ρ := Try.keys25_ren) { Try.keys25 with } Fence.wide _ trivial rfl w.heap.size _ (by simp) (by simp)
  have cS := AnyZI.sorted_in Try.sorted24 Fence.wide 5 trivial trivial trivial trivial rfl (by omega) (waitSorts _) (enters_of Try.func28 (by kernel_rfl) rfl) 29 #[.pointer (some ⟨w.heap.size, 0, none⟩)] trivial (enters_of Try.func29 (by kernel_rfl) rfl) _ 0 (Nat.zero_le _) (by omega) _ hseq
  change CallsIn _ _ Try.prog 24 _ _ _ at cS
  refine ((callsIn_wide (n := 5)).1 cS).mono ?_
  rintro e w2 ⟨v, ss, rfl, rfl, hrow, hnil, hb⟩
  obtain rfl : v = .slice none 0 0 := hnil.2 rfl
  exact ⟨rfl, ((Chg.refl Non w).alloc _).non (Chg.of_below hb)⟩
end Go.Proofs.Ytdcfnhggedeeiaa
