/-
  ident.Read.
-/
import Derived.Test.YtbfekdgapcihmaaStrs
namespace Go.Proofs.Ytbfekdgapcihmaa
open Go.RowKit
set_option linter.unusedVariables false

theorem undigs_snoc {l r : List UInt8} {b d : UInt8} (h1 : undigs l = some r) (h2 : undig b = some d) : undigs (l ++ [b]) = some (r ++ [d]) := by
  induction l generalizing r with
  | nil =>
    simp only [undigs, Option.some.injEq] at h1
    subst h1
    simp [undigs, h2]
  | cons x l ih =>
    unfold undigs at h1
    split at h1
    · rename_i e1 e2
      cases h1
      rw [List.cons_append, undigs, e1, ih e2]
      rfl
    · cases h1
theorem undigs_none {l : List UInt8} {b : UInt8} (h1 : b ∈ l) (h2 : undig b = none) : undigs l = none := by
  induction l with
  | nil => cases h1
  | cons x l ih =>
    unfold undigs
    rcases List.mem_cons.1 h1 with rfl | h
    · rw [h2]
    · rw [ih h]
      cases undig x <;> rfl
theorem undigs_len {l r : List UInt8} (h : undigs l = some r) : r.length = l.length := by
  induction l generalizing r with
  | nil => simp only [undigs, Option.some.injEq] at h; subst h; rfl
  | cons x l ih =>
    unfold undigs at h
    split at h
    · rename_i e1 e2
      cases h
      simp [ih e2]
    · cases h
theorem hex_at (x : UInt8) : Lib.indexByte (⟨#[48, 49, 50, 51, 52, 53, 54, 55, 56, 57, 97, 98, 99, 100, 101, 102]⟩ : ByteArray).data.toList (x.toNat : Int).toNat.toUInt8 = undigI x := by
  show Lib.indexByte hexs (UInt8.ofNat x.toNat) = _
  rw [UInt8.ofNat_toNat]
  exact index_hex x
theorem rid_not {s : ByteArray} (h : ¬ s.data.toList.head? = some 114) : rid s = (⟨#[]⟩, false) := by
  unfold rid
  split
  · rfl
  · rename_i x l e
    rw [if_neg]
    rintro ⟨rfl, _⟩
    rw [e] at h; exact h rfl
theorem rid_is {s : ByteArray} (h : s.data.toList.head? = some 114) : rid s = if (s.extract 1 s.size).size ≤ 12 then (match undigs (s.extract 1 s.size).data.toList with | some r => (⟨r.toArray⟩, true) | none => (⟨#[]⟩, false)) else (⟨#[]⟩, false) := by
  obtain ⟨⟨l⟩⟩ := s
  cases l with
  | nil => simp at h
  | cons x l =>
    simp at h
    subst h
    have e : ((⟨⟨114 :: l⟩⟩ : ByteArray).extract 1 (ByteArray.size ⟨⟨114 :: l⟩⟩)).data.toList = l := by
      rw [ByteArray.extract_mk]
      show ((114 :: l).drop 1).take ((114 :: l).length - 1) = l
      simp
    have e2 : ((⟨⟨114 :: l⟩⟩ : ByteArray).extract 1 (ByteArray.size ⟨⟨114 :: l⟩⟩)).size = l.length := by rw [← size_list, e]
    rw [e, e2]
    unfold rid
    show (if (114 : UInt8) = 114 ∧ l.length ≤ 12 then _ else _) = _
    by_cases h : l.length ≤ 12
    · simp [h]
      cases undigs l <;> rfl
    · simp [h]

set_option maxRecDepth 100000 in
set_option maxHeartbeats 400000 in
theorem read_any (s : ByteArray) (w : World) (hs : s.size ≤ 4611686018427387904) :
    Calls Try.prog 12 #[.string s] w fun e w2 => e = .returned (.tuple #[.string (rid s).1, .bool (rid s).2]) ∧ Chg Non w w2 := by
  by_cases h : s.data.toList.head? = some 114
  · have hcut : cutR s = (s.extract 1 s.size, true) := if_pos h
    have hrid := rid_is h
    clear h
    generalize s.extract 1 s.size = r at hcut hrid
    have Hcut := Lib.hid hcut
    by_cases h12 : r.size ≤ 12
    · rw [if_pos h12] at hrid
      have Hrid := Lib.hid hrid
      clear hrid hcut
      go_enter Try.func12, Try.ntmps12
      go_wp2_with fail
      refine (cut_any s _ hs).mono ?_
      rintro e w2 ⟨rfl, rfl⟩
      rw [Hcut.out]
      simp only
      go_wp2_with fail
      go_loopw [6, 23] (fun v i wr => ∃ (k : Nat) (D : List UInt8), k ≤ r.size ∧ i = .int .i64 k ∧ Own8 wr w.heap.size v D ∧ D.length ≤ 12 ∧ Hid (undigs (r.data.toList.take k) = some D) ∧ Chg Non w wr) (fun _ i _ => r.size - (intOf i).toNat)
      case atStart => exact ⟨0, [], Nat.zero_le _, rfl, Own8.nil _ _, by simp, rfl, Chg.refl _ _⟩
      case round =>
        obtain ⟨k, D, hk, rfl, hown, hD, hu, hC⟩ := hrel
        by_cases hlt : k < r.size
        · have hst := take_step r hlt
          have hmem := List.mem_of_getElem? (get_list r hlt)
          have hhex := hex_at r[k]
          cases hd : undig r[k] with
          | none =>
            have hno : rid s = (⟨#[]⟩, false) := by rw [Hrid.out, undigs_none hmem hd]
            have hi : undigI r[k] = -1 := by unfold undigI; rw [hd]
            rw [hi] at hhex
            have Hno := Lib.hid hno
            have Hhex := Lib.hid hhex
            clear hst hmem hd hi hno hhex hu
            go_wp2_with fail
            refine (index_any _ _ _).mono ?_
            rintro e w4 ⟨rfl, rfl⟩
            rw [Hhex.out]
            go_wp2_with fail
            go_ret2
            exact ⟨by rw [Hno.out]; rfl, hC⟩
          | some d =>
            have hi : undigI r[k] = (d.toNat : Int) := by unfold undigI; rw [hd]
            rw [hi] at hhex
            have hsm := undig_small hd
            have hu2 := undigs_snoc hu.out hd
            rw [← hst] at hu2
            have hlen := undigs_len hu2
            rw [List.length_append, hst] at hlen
            have hlen2 : (r.data.toList.take (k + 1)).length ≤ r.size := by have := List.length_take_le' (k + 1) r.data.toList; rw [size_list] at this; exact this
            have hD2 : D.length + 1 ≤ 12 := by
              rw [← hst] at hlen
              simp only [List.length_cons, List.length_nil] at hlen
              omega
            have Hu2 := Lib.hid hu2
            have Hhex := Lib.hid hhex
            clear hst hmem hd hi hu2 hhex hu hlen hlen2
            go_wp2_with fail
            refine (index_any _ _ _).mono ?_
            rintro e w4 ⟨rfl, rfl⟩
            rw [Hhex.out]
            go_wp2_with (at_builtin; refine app8c rfl (.tmp 32) (.tmp 35) rfl hown rfl rfl d ?_ ?_ ?_ ?_; rotate_right; intro v2 w5 h2 h3)
            · go_roundw
              case rel => exact ⟨k + 1, D ++ [d], by omega, by go_num, h2, by simpa using hD2, Hu2, hown.chgApp hC (Nat.le_refl _) h3⟩
              case measure => simp [intOf]; omega
            · first | rfl | (rw [IntWalk.u8_in _ (by omega)]) | omega
            · omega
            · exact hC.size
        · have hks : k = r.size := by omega
          have hyes : rid s = (⟨D.toArray⟩, true) := by
            rw [Hrid.out, ← take_whole r, ← hks, hu.out]
          have Hyes := Lib.hid hyes
          obtain ⟨A5, n5, c5, rfl, hn5, _, _, hr5⟩ := hown.open_
          have q5 := run_string_rds Try.underlying42 Try.underlying5 Try.underlying25 hr5 c5
          clear hyes hown hr5 hu
          go_wp2_with fail
          go_ret2
          exact ⟨by rw [Hyes.out]; rfl, hC⟩
    · rw [if_neg h12] at hrid
      have Hrid := Lib.hid hrid
      clear hrid hcut
      go_enter Try.func12, Try.ntmps12
      go_wp2_with fail
      refine (cut_any s _ hs).mono ?_
      rintro e w2 ⟨rfl, rfl⟩
      rw [Hcut.out]
      simp only
      go_wp2_with fail
      go_ret2
      exact ⟨by rw [Hrid.out]; rfl, Chg.refl _ _⟩
  · have hcut : cutR s = (s, false) := if_neg h
    have Hcut := Lib.hid hcut
    have Hrid := Lib.hid (rid_not h)
    clear h hcut
    go_enter Try.func12, Try.ntmps12
    go_wp2_with fail
    refine (cut_any s _ hs).mono ?_
    rintro e w2 ⟨rfl, rfl⟩
    rw [Hcut.out]
    simp only
    go_wp2_with fail
    go_ret2
    exact ⟨by rw [Hrid.out]; rfl, Chg.refl _ _⟩
end Go.Proofs.Ytbfekdgapcihmaa
