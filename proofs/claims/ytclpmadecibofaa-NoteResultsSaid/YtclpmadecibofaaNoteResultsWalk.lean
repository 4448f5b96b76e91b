/-
  gleanerlaw11.NoteResults: the walk.
-/
import Derived.Test.YtclpmadecibofaaNoteAlive
namespace Go.Proofs.Ytclpmadecibofaa
open Go.ChangeShapes Go.WideShapes Go.ChangeAt Go.RowKit Go.Deep
set_option linter.unusedVariables false
set_option linter.unusedSimpArgs false

/-- A note of kind 8 with a result alone. -/
def resN (e v : Int) : Nt := { Nt.zero with kind := 8, err := e, val := v }
theorem resN_ok {e v : Int} (he : i64 e) (hv : i64 v) : (resN e v).ok := by
  have h := zero_ok
  exact ⟨by unfold i64 resN; simp, h.node, h.life, h.epoch, h.fn, h.args, he, hv, h.vep, h.mems, h.id⟩
theorem resN_clear (e v : Int) : (resN e v).clear = resN e v := rfl
theorem resN_may (e v : Int) : (resN e v).may = endB e v := by
  unfold Nt.may resN
  simp only [Nt.zero]
  rw [show isK 8 = true from rfl, show upto 15 0 = true from rfl, show upto great 0 = true from rfl, show vid ⟨#[]⟩ = true from rfl, show upto 31 0 = true from rfl, show viewB [] = true from rfl]
  simp

set_option maxRecDepth 100000 in
set_option maxHeartbeats 2000000 in
theorem noteResults_walk (w : World) (e v : Int) (he : i64 e) (hv : i64 v) :
    Calls Try.prog 7 #[.int .i64 e, .int .i64 v] w fun x w2 => x = .returned (.bool true) ∧ Chg Non w w2 := by
  go_enter Try.func7, Try.ntmps7
  go_wp2_with fail
  refine (note_alive w).mono ?_
  rintro x w1 ⟨rfl, hC⟩
  obtain ⟨w2, e2⟩ : ∃ wq, w1.alloc (.cells (NtC (resN e v) none 0 0 none 0 0) 31) = wq := ⟨_, rfl⟩
  have hc : Chg Non w1 w2 := e2 ▸ (Chg.refl _ _).alloc _
  replace hC := hC.non hc
  have He2 := Lib.hid e2
  clear e2
  go_wp2_with fail
  have he2 := He2.out
  simp only [NtC, resN, Nt.zero] at he2
  rw [he2]
  clear he2 He2
  refine (pack_any w2 (resN e v) none 0 0 none 0 0 ⟨resN_ok he hv, Rds.nil_, Nat.le_refl _, Nat.zero_le _, Rds.nil_, Nat.le_refl _, Nat.zero_le _⟩ (by omega) (by omega)).mono ?_
  rintro x w3 ⟨v3, rfl, hv3, hc3⟩
  replace hC := hC.non hc3
  clear hc hc3
  have hpe : (resN e v).packErr = if endB e v then 0 else 1 := by unfold Nt.packErr; rw [resN_clear, resN_may]
  have hpp : (resN e v).pack = if endB e v then (resN e v).bytes else [] := by unfold Nt.pack; rw [resN_clear, resN_may]
  obtain ⟨A3, n3, c3, rfl, hn3, _, _, hr3⟩ := hv3.open_
  clear hv3
  have post : ∀ (hE : endB e v = false), n3 = 0 := fun hE => by have := hn3.out; rw [hpp, hE] at this; simpa using this
  rw [hpe]
  have Hpp := Lib.hid hpp
  clear hpe hpp
  have hcase : (e = 0) ∨ (e = 25) ∨ (e < 20 ∧ e ≠ 0) ∨ (25 < e) ∨ (20 ≤ e ∧ e < 25 ∧ v = 0) ∨ (20 ≤ e ∧ e < 25 ∧ v ≠ 0) := by omega
  rcases hcase with h | h | h | h | h | h
  · skip
    subst h
    have HE : Hid (endB 0 v = true) := by show _ = _; unfold endB; rfl
    have hE : endB 0 v = true := HE.out
    rw [hE]
    have hI : IsNote (resN 0 v).bytes (resN 0 v) := ⟨resN_ok he hv, resN_clear 0 v, by rw [resN_may]; exact hE, rfl⟩
    have hrd := rd_is hI
    have hpp2 : (resN 0 v).pack = (resN 0 v).bytes := by rw [Hpp.out, hE]; rfl
    rw [hpp2] at hr3 hn3
    have hl3 : (resN 0 v).bytes.length ≤ 1000 := by
      have h1 := (num_len 0).2
      have h2 := (num_len v).2
      have h3 := (num_len 8).2
      have h4 : (text (idL ⟨#[]⟩)).length ≤ 10 := by decide
      have : (resN 0 v).bytes = num 8 ++ (text (idL ⟨#[]⟩) ++ (num 0 ++ num v)) := by simp [Nt.bytes, resN, Nt.zero, partsL, putP]
      rw [this]
      simp only [List.length_append]
      omega
    have Hrd := Lib.hid hrd
    clear hE hI hpp2 hrd post
    go_wp2_with fail
    refine (num_any _ _).mono ?_
    rintro x w9 ⟨rfl, rfl⟩
    go_wp2_with fail
    refine (read_any w3 A3 n3 c3 (resN 0 v).bytes hr3 (by omega)).mono ?_
    rintro x w4 ⟨A4, k4, c4, B4, m4, d4, rfl, hown, hc4⟩
    have hr0 : rdE (resN 0 v).bytes = 0 := by unfold rdE; rw [Hrd.out.1]; rfl
    rw [Hrd.out.2, hr0]
    rw [Hrd.out.2] at hown
    replace hC := hC.non hc4
    clear hc4 hr0 Hrd hr3 hown hl3
    unfold resN NtC
    simp only [Nt.zero]
    go_wp2_with fail
    refine (num_any _ _).mono ?_
    rintro x w9 ⟨rfl, rfl⟩
    go_wp2_with fail
    refine (num_any _ _).mono ?_
    rintro x w9 ⟨rfl, rfl⟩
    go_wp2_with fail
    go_ret
    exact ⟨rfl, hC.alloc _⟩
  · skip
    subst h
    have HE : Hid (endB 25 v = true) := by show _ = _; unfold endB; rfl
    have hE : endB 25 v = true := HE.out
    rw [hE]
    have hI : IsNote (resN 25 v).bytes (resN 25 v) := ⟨resN_ok he hv, resN_clear 25 v, by rw [resN_may]; exact hE, rfl⟩
    have hrd := rd_is hI
    have hpp2 : (resN 25 v).pack = (resN 25 v).bytes := by rw [Hpp.out, hE]; rfl
    rw [hpp2] at hr3 hn3
    have hl3 : (resN 25 v).bytes.length ≤ 1000 := by
      have h1 := (num_len 25).2
      have h2 := (num_len v).2
      have h3 := (num_len 8).2
      have h4 : (text (idL ⟨#[]⟩)).length ≤ 10 := by decide
      have : (resN 25 v).bytes = num 8 ++ (text (idL ⟨#[]⟩) ++ (num 25 ++ num v)) := by simp [Nt.bytes, resN, Nt.zero, partsL, putP]
      rw [this]
      simp only [List.length_append]
      omega
    have Hrd := Lib.hid hrd
    clear hE hI hpp2 hrd post
    go_wp2_with fail
    refine (num_any _ _).mono ?_
    rintro x w9 ⟨rfl, rfl⟩
    go_wp2_with fail
    refine (read_any w3 A3 n3 c3 (resN 25 v).bytes hr3 (by omega)).mono ?_
    rintro x w4 ⟨A4, k4, c4, B4, m4, d4, rfl, hown, hc4⟩
    have hr0 : rdE (resN 25 v).bytes = 0 := by unfold rdE; rw [Hrd.out.1]; rfl
    rw [Hrd.out.2, hr0]
    rw [Hrd.out.2] at hown
    replace hC := hC.non hc4
    clear hc4 hr0 Hrd hr3 hown hl3
    unfold resN NtC
    simp only [Nt.zero]
    go_wp2_with fail
    refine (num_any _ _).mono ?_
    rintro x w9 ⟨rfl, rfl⟩
    go_wp2_with fail
    refine (num_any _ _).mono ?_
    rintro x w9 ⟨rfl, rfl⟩
    go_wp2_with fail
    go_ret
    exact ⟨rfl, hC.alloc _⟩
  · skip
    obtain ⟨h1, h2⟩ := h
    have t0 : (e == 0) = false := beq_eq_false_iff_ne.2 h2
    clear h2
    have HE : Hid (endB e v = false) := by show _ = _; unfold endB; rw [t0, show (e == 25) = false from beq_eq_false_iff_ne.2 (by omega), decide_eq_false (show ¬ 20 ≤ e by omega)]; rfl
    have hE : endB e v = false := HE.out
    have hn0 : n3 = 0 := post hE
    rw [hE]
    clear hE post Hpp
    subst hn0
    go_wp2_with fail
    refine (num_any _ _).mono ?_
    rintro x w9 ⟨rfl, rfl⟩
    go_wp2_with fail
    go_ret
    exact ⟨rfl, hC⟩
  · skip
    have t0 : (e == 0) = false := beq_eq_false_iff_ne.2 (by omega)
    have t25 : (e == 25) = false := beq_eq_false_iff_ne.2 (by omega)
    have HE : Hid (endB e v = false) := by show _ = _; unfold endB; rw [t0, t25, decide_eq_false (show ¬ e < 25 by omega)]; simp
    have hE : endB e v = false := HE.out
    have hn0 : n3 = 0 := post hE
    rw [hE]
    clear hE post Hpp
    subst hn0
    go_wp2_with fail
    refine (num_any _ _).mono ?_
    rintro x w9 ⟨rfl, rfl⟩
    go_wp2_with fail
    go_ret
    exact ⟨rfl, hC⟩
  · skip
    obtain ⟨h1, h2, h3⟩ := h
    subst h3
    have t0 : (e == 0) = false := beq_eq_false_iff_ne.2 (by omega)
    have t25 : (e == 25) = false := beq_eq_false_iff_ne.2 (by omega)
    have HE : Hid (endB e 0 = true) := by show _ = _; unfold endB; rw [t0, t25, decide_eq_true h1, decide_eq_true h2]; rfl
    have hE : endB e 0 = true := HE.out
    rw [hE]
    have hI : IsNote (resN e 0).bytes (resN e 0) := ⟨resN_ok he hv, resN_clear e 0, by rw [resN_may]; exact hE, rfl⟩
    have hrd := rd_is hI
    have hpp2 : (resN e 0).pack = (resN e 0).bytes := by rw [Hpp.out, hE]; rfl
    rw [hpp2] at hr3 hn3
    have hl3 : (resN e 0).bytes.length ≤ 1000 := by
      have h1 := (num_len e).2
      have h2 := (num_len 0).2
      have h3 := (num_len 8).2
      have h4 : (text (idL ⟨#[]⟩)).length ≤ 10 := by decide
      have : (resN e 0).bytes = num 8 ++ (text (idL ⟨#[]⟩) ++ (num e ++ num 0)) := by simp [Nt.bytes, resN, Nt.zero, partsL, putP]
      rw [this]
      simp only [List.length_append]
      omega
    have Hrd := Lib.hid hrd
    clear hE hI hpp2 hrd post
    go_wp2_with fail
    refine (num_any _ _).mono ?_
    rintro x w9 ⟨rfl, rfl⟩
    go_wp2_with fail
    refine (read_any w3 A3 n3 c3 (resN e 0).bytes hr3 (by omega)).mono ?_
    rintro x w4 ⟨A4, k4, c4, B4, m4, d4, rfl, hown, hc4⟩
    have hr0 : rdE (resN e 0).bytes = 0 := by unfold rdE; rw [Hrd.out.1]; rfl
    rw [Hrd.out.2, hr0]
    rw [Hrd.out.2] at hown
    replace hC := hC.non hc4
    clear hc4 hr0 Hrd hr3 hown hl3
    unfold resN NtC
    simp only [Nt.zero]
    go_wp2_with fail
    refine (num_any _ _).mono ?_
    rintro x w9 ⟨rfl, rfl⟩
    go_wp2_with fail
    refine (num_any _ _).mono ?_
    rintro x w9 ⟨rfl, rfl⟩
    go_wp2_with fail
    go_ret
    exact ⟨rfl, hC.alloc _⟩
  · skip
    obtain ⟨h1, h2, h3⟩ := h
    have t0 : (e == 0) = false := beq_eq_false_iff_ne.2 (by omega)
    have t25 : (e == 25) = false := beq_eq_false_iff_ne.2 (by omega)
    have tv : (v == 0) = false := beq_eq_false_iff_ne.2 h3
    clear h3
    have HE : Hid (endB e v = false) := by show _ = _; unfold endB; rw [t0, t25, decide_eq_true h1, decide_eq_true h2, tv]; rfl
    have hE : endB e v = false := HE.out
    have hn0 : n3 = 0 := post hE
    rw [hE]
    clear hE post Hpp
    subst hn0
    go_wp2_with fail
    refine (num_any _ _).mono ?_
    rintro x w9 ⟨rfl, rfl⟩
    go_wp2_with fail
    go_ret
    exact ⟨rfl, hC⟩
end Go.Proofs.Ytclpmadecibofaa
