/-
  gleanerref1.Text.
-/
import Derived.Test.YtbfekdgapcihmaaRefIdent
namespace Go.Proofs.Ytbfekdgapcihmaa
open Go.RowKit
set_option linter.unusedVariables false

theorem ext_dig : ∀ n : Nat, n < 16 → (⟨#[48, 49, 50, 51, 52, 53, 54, 55, 56, 57, 97, 98, 99, 100, 101, 102]⟩ : ByteArray).extract n (n + 1) = ⟨#[digit (UInt8.ofNat n)]⟩
  | 0, _ | 1, _ | 2, _ | 3, _ | 4, _ | 5, _ | 6, _ | 7, _ | 8, _ | 9, _ | 10, _ | 11, _ | 12, _ | 13, _ | 14, _ | 15, _ => by decide
  | n + 16, h => absurd h (by omega)

theorem refText_any (s : ByteArray) (w : World) (hs : s.size ≤ 4611686018427387904) :
    Calls Try.prog 18 #[.string s] w fun e w2 => e = .returned (.string (txt s)) ∧ Chg Non w w2 := by
  cases hv : vid s with
  | false =>
    have ht : txt s = ⟨#[]⟩ := by unfold txt; rw [hv]; rfl
    have Ht := Lib.hid ht; clear ht
    go_enter Try.func18, Try.ntmps18
    go_wp2_with (go_at_call 16; refine (refValid_any s _ hs).mono ?_; rintro e w9 ⟨rfl, rfl⟩; rw [hv])
    go_ret
    exact ⟨by rw [Ht.out]; rfl, Chg.refl _ _⟩
  | true =>
    have ht : txt s = ⟨(114 :: s.data.toList.map digit).toArray⟩ := by unfold txt; rw [hv]; rfl
    have Ht := Lib.hid ht; clear ht
    have h12 := vid_small hv
    have Hv := Lib.hid hv
    go_enter Try.func18, Try.ntmps18
    go_wp2_with (go_at_call 16; refine (refValid_any s _ hs).mono ?_; rintro e w9 ⟨rfl, rfl⟩; rw [hv])
    go_loopw [4, 5] (fun v i wr => ∃ (k : Nat) (o : ByteArray), k ≤ s.size ∧ i = .int .i64 k ∧ v = .string o ∧ Hid (o = ⟨(114 :: (s.data.toList.take k).map digit).toArray⟩) ∧ o.size ≤ 13 ∧ Chg Non w wr) (fun _ i _ => s.size - (intOf i).toNat)
    case atStart => exact ⟨0, ⟨#[114]⟩, Nat.zero_le _, rfl, rfl, rfl, by decide, Chg.refl _ _⟩
    case round =>
      clear hv
      obtain ⟨k, o, hk, rfl, rfl, ho, ho13, hC⟩ := hrel
      by_cases hlt : k < s.size
      · have hst := take_step s hlt
        have h16 := vid_at Hv.out hlt
        have hnew : o ++ ⟨#[digit s[k]]⟩ = (⟨(114 :: (s.data.toList.take (k + 1)).map digit).toArray⟩ : ByteArray) := by
          apply ByteArray.ext
          rw [hst, ByteArray.data_append, ho.out]
          simp
        have hnsz : (o ++ (⟨#[digit s[k]]⟩ : ByteArray)).size ≤ 13 := by
          rw [hnew]
          show ((114 :: (s.data.toList.take (k + 1)).map digit).toArray).size ≤ 13
          rw [List.size_toArray, List.length_cons, List.length_map]
          have := List.length_take_le (k + 1) s.data.toList
          omega
        have Hnew := Lib.hid hnew
        have Hnsz := Lib.hid hnsz
        have e1 : IntKind.u8.wrap ((s[k].toNat : Int) + 1) = (s[k].toNat : Int) + 1 := IntWalk.u8_in _ (by omega)
        have he : (⟨#[48, 49, 50, 51, 52, 53, 54, 55, 56, 57, 97, 98, 99, 100, 101, 102]⟩ : ByteArray).extract s[k].toNat (s[k].toNat + 1) = ⟨#[digit s[k]]⟩ := by
          rw [ext_dig _ h16, UInt8.ofNat_toNat]
        have hd1 : (⟨#[digit s[k]]⟩ : ByteArray).size = 1 := rfl
        clear hst hnew hnsz
        go_wp2_with fail
        go_quiet (fail)
        go_wp2_with fail
        go_roundw
        case rel => exact ⟨k + 1, o ++ ⟨#[digit s[k]]⟩, by omega, by go_num, rfl, Hnew, Hnsz.out, hC.drewN _⟩
        case measure => simp [intOf]; omega
      · have hks : k = s.size := by omega
        have ho2 : o = txt s := by rw [ho.out, Ht.out, hks, take_whole]
        have Ho2 := Lib.hid ho2
        clear ho2 ho Ht
        go_wp2_with fail
        go_ret
        exact ⟨by rw [← Ho2.out]; rfl, hC⟩
end Go.Proofs.Ytbfekdgapcihmaa
