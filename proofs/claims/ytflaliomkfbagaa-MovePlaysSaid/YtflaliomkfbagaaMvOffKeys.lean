/-
  slices.Sorted(maps.Keys(m)) of a map of the call's own, its keys names (map[api.ID]move.offer).
-/
import Derived.Test.YtflaliomkfbagaaNmKeys
namespace Go.Proofs.Ytflaliomkfbagaa
open Go.RowKit Go.Maps Go.Sort Go.Shelf
set_option linter.unusedVariables false
set_option linter.unusedSimpArgs false

theorem offSorts (m : Nat) : AnyZ.SortsIn Try.prog Try.sorted37_ren Fence.wide m :=
  ⟨fun blk off cap ss W hH hblk hsz => callsIn_wide.2 (AnyM.slices_Sort_string Try.sort53 blk off cap ss W hH hblk hsz),
   fun p cap W => callsIn_wide.2 (AnyM.slices_Sort_string_none Try.sort53 p cap W)⟩

theorem offKeys (w : World) (mb : Option Nat) : Calls Try.prog 41 #[.map mb] w fun e w2 => e = .returned (.func (.func 60) #[] #[.pointer (some ⟨w.heap.size, 0, none⟩)]) ∧ w.alloc (.cells #[.map mb] 46) = w2 := by
  have h := (callsIn_wide (n := 5)).1 (AnyZ.keys_in Try.keys41 Fence.wide 5 trivial rfl mb w)
  change Calls Try.prog 41 _ _ _ at h
  refine h.mono ?_
  rintro e w2 ⟨rfl, rfl⟩
  exact ⟨rfl, rfl⟩

set_option maxHeartbeats 1000000 in
theorem offSorted (w : World) (g n : Nat) (f : ByteArray → Option Value) (h : Mp (strKey Try.underlying33) w g n f) (hn : n ≤ 1000000000) :
    Calls Try.prog 37 #[.func (.func 60) #[] #[.pointer (some ⟨w.heap.size, 0, none⟩)]] (w.alloc (.cells #[.map (some g)] 46)) (KeysPostS rkI w n f) := by
  obtain ⟨D, h1, h2, h3⟩ := h
  obtain ⟨k1, k2, k3⟩ := strKeys_mem Try.underlying33 (strKey Try.underlying33).keyed h1
  have hbl := h1.lt
  have hseq : SeqGives Fence.wide 2 Try.prog 60 #[.pointer (some ⟨w.heap.size, 0, none⟩)] encStr (fun ss => ss.Perm (strKeys D)) (Maps.size D) (w.alloc (.cells #[.map (some g)] 46)) :=
    AnyZ.keys_gives (ρ := Try.keys41_ren) { Try.keys41 with } Fence.wide _ trivial rfl (by omega) w.heap.size g n D _ (by simp) (by simp) (by
      obtain ⟨es, clock, hb, Ft, hs, hD⟩ := h1
      exact ⟨es, clock, (Below.heap_alloc _ _ g hbl).trans hb, Ft, hs, hD⟩)
  have cS := AnyZ.sorted_in Try.sorted37 Fence.wide 5 trivial trivial trivial trivial rfl (by omega) (offSorts _) (enters_of Try.func53 (by kernel_rfl) rfl) 60 #[.pointer (some ⟨w.heap.size, 0, none⟩)] trivial (enters_of Try.func60 (by kernel_rfl) rfl) _ _ (by unfold maxLen; omega) (by omega) _ hseq
  change CallsIn _ _ Try.prog 37 _ _ _ at cS
  refine ((callsIn_wide (n := 5)).1 cS).mono ?_
  rintro e w2 ⟨v, ss, rfl, hS, hrow, hnil, hb⟩
  have hnd : ss.Nodup := hS.nodup_iff.2 k1
  have hse : (ss.mergeSort (fun x y => decide (x ≤ y))).map encStr = sv (risenS (ss.map mkB)) := by
    rw [← sort_eqS hnd, sv, List.map_map]
    rfl
  rw [hse] at hrow
  have hlen : (risenS (ss.map mkB)).length = ss.length := by rw [← sort_eqS hnd, List.length_map, List.length_mergeSort]
  have hm : ∀ x, x ∈ risenS (ss.map mkB) ↔ bl x ∈ strKeys D := fun x => by
    rw [(risenS_spec _).2, List.mem_map]
    constructor
    · rintro ⟨a, ha, rfl⟩
      rw [bl_mkB]; exact hS.mem_iff.1 ha
    · intro h
      exact ⟨bl x, hS.mem_iff.2 h, mkB_bl x⟩
  refine ⟨v, (risenS (ss.map mkB)).length, risenS (ss.map mkB), rfl, by rw [hlen, hS.length_eq, strKeys_len, h2], rfl, (risenS_spec _).1, fun x => ?_, fun x hx => ?_, ?_, ?_⟩
  · rw [hm, k2]
    exact (h3 x).1 ▸ Iff.rfl
  · have := k3 _ ((hm x).1 hx)
    simpa [bl] using this
  · rw [hlen]
    exact ownsRow_base_a hrow (by simp)
  · exact (((Chg.refl Non w).alloc _).non (Chg.of_below hb))

set_option maxHeartbeats 1000000 in
theorem offSortedNil (w : World) :
    Calls Try.prog 37 #[.func (.func 60) #[] #[.pointer (some ⟨w.heap.size, 0, none⟩)]] (w.alloc (.cells #[.map none] 46)) fun e w2 => e = .returned (.slice none 0 0) ∧ Chg Non w w2 := by
  have hseq : SeqGives Fence.wide 2 Try.prog 60 #[.pointer (some ⟨w.heap.size, 0, none⟩)] encStr (fun ss : List (List UInt8) => ss = []) 0 (w.alloc (.cells #[.map none] 46)) :=
    AnyZ.keys_gives_nil (ρ := Try.keys41_ren) { Try.keys41 with } Fence.wide _ trivial rfl w.heap.size _ (by simp) (by simp)
  have cS := AnyZ.sorted_in Try.sorted37 Fence.wide 5 trivial trivial trivial trivial rfl (by omega) (offSorts _) (enters_of Try.func53 (by kernel_rfl) rfl) 60 #[.pointer (some ⟨w.heap.size, 0, none⟩)] trivial (enters_of Try.func60 (by kernel_rfl) rfl) _ 0 (Nat.zero_le _) (by omega) _ hseq
  change CallsIn _ _ Try.prog 37 _ _ _ at cS
  refine ((callsIn_wide (n := 5)).1 cS).mono ?_
  rintro e w2 ⟨v, ss, rfl, rfl, hrow, hnil, hb⟩
  obtain rfl : v = .slice none 0 0 := hnil.2 rfl
  exact ⟨rfl, ((Chg.refl Non w).alloc _).non (Chg.of_below hb)⟩
end Go.Proofs.Ytflaliomkfbagaa
