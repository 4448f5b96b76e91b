/-
  gleanerlaw7.IdentTells: the walk.
-/
import Derived.Test.YtbfekdgapcihmaaIdentDownWalk
import Derived.Test.YtbfekdgapcihmaaRefText
import Derived.Test.YtbfekdgapcihmaaRefRead
namespace Go.Proofs.Ytbfekdgapcihmaa
open Go.RowKit
set_option linter.unusedVariables false

theorem undig_digit_n : ∀ n : Nat, n < 16 → undig (digit (UInt8.ofNat n)) = some (UInt8.ofNat n)
  | 0, _ | 1, _ | 2, _ | 3, _ | 4, _ | 5, _ | 6, _ | 7, _ | 8, _ | 9, _ | 10, _ | 11, _ | 12, _ | 13, _ | 14, _ | 15, _ => by decide
  | n + 16, h => absurd h (by omega)
theorem undig_digit {b : UInt8} (h : b.toNat < 16) : undig (digit b) = some b := by
  have := undig_digit_n b.toNat h
  rwa [UInt8.ofNat_toNat] at this
theorem undigs_digits : ∀ l : List UInt8, l.all okD = true → undigs (l.map digit) = some l
  | [], _ => rfl
  | b :: l, h => by
    simp only [List.all_cons, Bool.and_eq_true] at h
    have h1 : b.toNat < 16 := by simpa [okD] using h.1
    have h2 := undigs_digits l h.2
    simp only [List.map_cons, undigs, undig_digit h1, h2]
theorem rid_txt {s : ByteArray} (hv : vid s = true) : rid (txt s) = (s, true) := by
  have ht : txt s = ⟨(114 :: s.data.toList.map digit).toArray⟩ := by unfold txt; rw [hv]; rfl
  have hl : (txt s).data.toList = 114 :: s.data.toList.map digit := by rw [ht]
  rw [rid_is (by rw [hl]; rfl), ext_len, ext_list, hl]
  have hsz := txt_size hv
  have h12 := vid_small hv
  rw [if_pos (by omega), List.drop_one, List.tail_cons, undigs_digits _ (by unfold vid at hv; simp only [Bool.and_eq_true] at hv; exact hv.2)]

set_option maxRecDepth 100000 in
set_option maxHeartbeats 1000000 in
theorem identTells_core (w : World) (id s : ByteArray) (k : Int) (hk : i64 k) (h1 : id.size ≤ 1000) (h2 : s.size ≤ 1000) :
    Calls Try.prog 4 #[.string id, .string s, .int .i64 k] w fun e w2 => e = .returned (.bool true) ∧ Chg Non w w2 := by
  go_enter Try.func4, Try.ntmps4
  go_wp2_with fail
  refine (ident_alive _).mono ?_
  rintro e w1 ⟨rfl, hc1⟩
  go_wp2_with fail
  refine (read_any s _ (by omega)).mono ?_
  rintro e w2 ⟨rfl, hc2⟩
  go_wp2_with fail
  refine (refRead_any s _ (by omega)).mono ?_
  rintro e w3 ⟨rfl, hc3⟩
  generalize (rid s).1 = r1
  generalize (rid s).2 = r2
  go_wp2_with fail
  refine (kid_any id k _ hk).mono ?_
  rintro e w4 ⟨rfl, hc4⟩
  go_wp2_with fail
  refine (refKid_any id k _ hk (by omega)).mono ?_
  rintro e w5 ⟨rfl, hc5⟩
  generalize (kid id k).1 = k1
  generalize (kid id k).2 = k2
  go_wp2_with fail
  refine (up_any id _ (by omega)).mono ?_
  rintro e w6 ⟨rfl, hc6⟩
  go_wp2_with fail
  refine (refUp_any id _ (by omega)).mono ?_
  rintro e w7 ⟨rfl, hc7⟩
  generalize (up id).1 = u1
  generalize (up id).2.1 = u2
  generalize (up id).2.2 = u3
  have hC := (((((hc1.non hc2).non hc3).non hc4).non hc5).non hc6).non hc7
  clear hc1 hc2 hc3 hc4 hc5 hc6 hc7
  go_wp2_with fail
  refine (refValid_any id _ (by omega)).mono ?_
  rintro e w8 ⟨rfl, rfl⟩
  cases hv : vid id with
  | false =>
    have Hv := Lib.hid hv
    go_wp2_with fail
    refine (valid_any id _).mono ?_
    rintro e w8 ⟨rfl, rfl⟩
    rw [Hv.out]
    go_wp2_with fail
    refine (text_any id _).mono ?_
    rintro e w9 ⟨rfl, hc9⟩
    go_wp2_with fail
    refine (refText_any id _ (by omega)).mono ?_
    rintro e w10 ⟨rfl, hc10⟩
    generalize txt id = t1
    go_wp2_with fail
    go_ret
    exact ⟨rfl, (hC.non hc9).non hc10⟩
  | true =>
    have Hv := Lib.hid hv
    have Hr := Lib.hid (rid_txt hv)
    have hts := txt_size hv
    have hts2 : (txt id).size ≤ 4611686018427387904 := by omega
    have Hts := Lib.hid hts2
    clear hts hts2 hv
    go_wp2_with fail
    refine (valid_any id _).mono ?_
    rintro e w8 ⟨rfl, rfl⟩
    rw [Hv.out]
    go_wp2_with fail
    refine (text_any id _).mono ?_
    rintro e w9 ⟨rfl, hc9⟩
    go_wp2_with fail
    refine (refText_any id _ (by omega)).mono ?_
    rintro e w10 ⟨rfl, hc10⟩
    generalize ht : txt id = t1 at Hr Hts ⊢
    have Ht := Lib.hid ht
    clear ht
    go_wp2_with fail
    refine (text_any id _).mono ?_
    rintro e w11 ⟨rfl, hc11⟩
    rw [Ht.out]
    go_wp2_with fail
    refine (read_any t1 _ Hts.out).mono ?_
    rintro e w12 ⟨rfl, hc12⟩
    rw [Hr.out]
    simp only
    go_wp2_with fail
    go_ret
    exact ⟨rfl, (((hC.non hc9).non hc10).non hc11).non hc12⟩

theorem identTells_walk (w : World) (id : ByteArray) (h1 : id.size ≤ maxLen) (s : ByteArray) (h2 : s.size ≤ maxLen) (k : Int) (hk : i64 k) :
    Calls Try.prog 4 #[.string id, .string s, .int .i64 k] w fun e w2 => e = .returned (.bool true) ∧ Chg Non w w2 := by
  by_cases hn : id.size ≤ 1000 ∧ s.size ≤ 1000
  · exact identTells_core w id s k hk hn.1 hn.2
  · unfold maxLen at h1 h2
    have hp : 1000 < id.size ∨ (id.size ≤ 1000 ∧ 1000 < s.size) := by omega
    clear hn
    rcases hp with h | ⟨h, h3⟩
    all_goals
      go_enter Try.func4, Try.ntmps4
      go_wp2_with fail
      refine (ident_alive _).mono ?_
      rintro e w1 ⟨rfl, hc1⟩
      go_wp2_with fail
      go_ret
      exact ⟨rfl, hc1⟩
end Go.Proofs.Ytbfekdgapcihmaa
