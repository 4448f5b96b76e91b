/-
  gleanerlaw11.NoteFields: the walk.
-/
import Derived.Test.YtclpmadecibofaaNoteAlive
import Derived.Test.YtclpmadecibofaaNoteRefClear
import Derived.Test.YtclpmadecibofaaNoteSame
import Derived.Test.YtclpmadecibofaaNoteOnes
namespace Go.Proofs.Ytclpmadecibofaa
open Go.ChangeShapes Go.WideShapes Go.ChangeAt Go.RowKit Go.Deep
set_option linter.unusedVariables false
set_option linter.unusedSimpArgs false

theorem pack_no {n : Nt} (h : n.packErr ≠ 0) : n.pack = [] := by
  unfold Nt.pack
  cases hm : n.clear.may with
  | false => rfl
  | true => exact absurd (by unfold Nt.packErr; rw [hm]; rfl) h
theorem clear_rows (n : Nt) : n.clear.args.length ≤ n.args.length ∧ n.clear.mems.length ≤ n.mems.length := by
  unfold Nt.clear
  split
  · have : ∀ (l : List Int) (o : Nt), o.args.length ≤ n.args.length → o.mems.length ≤ n.mems.length → ((l.foldl (setP n) o).args.length ≤ n.args.length ∧ (l.foldl (setP n) o).mems.length ≤ n.mems.length) := by
      intro l
      induction l with
      | nil => intro o h1 h2; exact ⟨h1, h2⟩
      | cons p l ih =>
        intro o h1 h2
        rw [List.foldl_cons]
        refine ih _ ?_ ?_
        · unfold setP
          repeat' split
          all_goals first | exact h1 | exact Nat.le_refl _
        · unfold setP
          repeat' split
          all_goals first | exact h2 | exact Nat.le_refl _
    exact this _ _ (Nat.zero_le _) (Nat.zero_le _)
  · exact ⟨Nat.zero_le _, Nat.zero_le _⟩
theorem pack_same {n u : Nt} (hn : n.ok) (hu : u.ok) (h1 : n.packErr = 0) (h2 : u.packErr = 0) : (n.pack == u.pack) = sameN n.clear u.clear := by
  obtain ⟨p1, p2, p3⟩ := pack_is hn h1
  obtain ⟨q1, q2, q3⟩ := pack_is hu h2
  rw [p1, q1]
  by_cases h : n.clear = u.clear
  · rw [h, sameN_self]
    simp
  · rw [sameN_ne h, beq_eq_false_iff_ne]
    intro e
    rw [e] at p3
    exact h (p3.uniq q3)

set_option maxRecDepth 100000 in
set_option maxHeartbeats 8000000 in
theorem noteFields_core (w : World) (n u : Nt) (A : Option Addr) (k c : Nat) (B : Option Addr) (m d : Nat) (A2 : Option Addr) (k2 c2 : Nat) (B2 : Option Addr) (m2 d2 : Nat) (h : NtAt w n A k c B m d) (h2 : NtAt w u A2 k2 c2 B2 m2 d2) :
    Calls Try.prog 3 #[.agg (NtC n A k c B m d), .agg (NtC u A2 k2 c2 B2 m2 d2)] w fun x w2 => x = .returned (.bool true) ∧ Chg Non w w2 := by
  obtain ⟨w1, e1⟩ : ∃ wq, (w.alloc (.cells (NtC n A k c B m d) 31)).alloc (.cells (NtC u A2 k2 c2 B2 m2 d2) 31) = wq := ⟨_, rfl⟩
  have hC : Chg Non w w1 := e1 ▸ ((Chg.refl _ _).alloc _).alloc _
  have hb : Blk w1 w.heap.size 31 (NtC n A k c B m d) := e1 ▸ (Blk.new _ _ _).alloc _
  have hb2 : Blk w1 (w.heap.size + 1) 31 (NtC u A2 k2 c2 B2 m2 d2) := by
    have := Blk.new (w.alloc (.cells (NtC n A k c B m d) 31)) 31 (NtC u A2 k2 c2 B2 m2 d2)
    rw [e1, World.size_alloc] at this
    exact this
  replace h := h.non hC
  replace h2 := h2.non hC
  unfold NtC at e1
  go_enter Try.func3, Try.ntmps3
  go_wp2_with fail
  refine (note_alive w1).mono ?_
  rintro x w2 ⟨rfl, hc⟩
  replace hC := hC.non hc
  replace hb := hb.non hc
  replace hb2 := hb2.non hc
  replace h := h.non hc
  replace h2 := h2.non hc
  clear hc e1
  have x0 := hb.cell 0
  have x1 := hb.cell 1
  have x2 := hb.cell 2
  have x3 := hb.cell 3
  have x4 := hb.cell 4
  have x5 := hb.cell 5
  have x6 := hb.cell 6
  have x7 := hb.cell 7
  have x8 := hb.cell 8
  have x9 := hb.cell 9
  have x10 := hb.cell 10
  simp only [NtC, List.getElem?_toArray, List.getElem?_cons_zero, List.getElem?_cons_succ] at x0 x1 x2 x3 x4 x5 x6 x7 x8 x9 x10
  go_wp2_with fail
  refine (big_any w2 n A k c B m d h).mono ?_
  rintro x w3 ⟨rfl, hc⟩
  replace hC := hC.non hc
  replace hb := hb.non hc
  replace hb2 := hb2.non hc
  replace h := h.non hc
  replace h2 := h2.non hc
  clear hc x0 x1 x2 x3 x4 x5 x6 x7 x8 x9 x10
  cases hbig : bigN n k m with
  | true =>
    clear hbig
    go_wp2_with fail
    go_ret
    exact ⟨rfl, hC⟩
  | false =>
    obtain ⟨hg1, hg2, hg3⟩ := bigN_no hbig
    clear hbig
    have x0 := hb2.cell 0
    have x1 := hb2.cell 1
    have x2 := hb2.cell 2
    have x3 := hb2.cell 3
    have x4 := hb2.cell 4
    have x5 := hb2.cell 5
    have x6 := hb2.cell 6
    have x7 := hb2.cell 7
    have x8 := hb2.cell 8
    have x9 := hb2.cell 9
    have x10 := hb2.cell 10
    simp only [NtC, List.getElem?_toArray, List.getElem?_cons_zero, List.getElem?_cons_succ] at x0 x1 x2 x3 x4 x5 x6 x7 x8 x9 x10
    go_wp2_with fail
    refine (big_any w3 u A2 k2 c2 B2 m2 d2 h2).mono ?_
    rintro x w4 ⟨rfl, hc⟩
    replace hC := hC.non hc
    replace hb := hb.non hc
    replace hb2 := hb2.non hc
    replace h := h.non hc
    replace h2 := h2.non hc
    clear hc x0 x1 x2 x3 x4 x5 x6 x7 x8 x9 x10
    cases hbig : bigN u k2 m2 with
    | true =>
      clear hbig
      go_wp2_with fail
      go_ret
      exact ⟨rfl, hC⟩
    | false =>
      obtain ⟨hf1, hf2, hf3⟩ := bigN_no hbig
      clear hbig
      have x0 := hb.cell 0
      have x1 := hb.cell 1
      have x2 := hb.cell 2
      have x3 := hb.cell 3
      have x4 := hb.cell 4
      have x5 := hb.cell 5
      have x6 := hb.cell 6
      have x7 := hb.cell 7
      have x8 := hb.cell 8
      have x9 := hb.cell 9
      have x10 := hb.cell 10
      simp only [NtC, List.getElem?_toArray, List.getElem?_cons_zero, List.getElem?_cons_succ] at x0 x1 x2 x3 x4 x5 x6 x7 x8 x9 x10
      go_wp2_with fail
      refine (pack_any w4 n A k c B m d h (by omega) (by omega)).mono ?_
      rintro x w5 ⟨v5, rfl, hv5, hc⟩
      replace hC := hC.non hc
      replace hb := hb.non hc
      replace hb2 := hb2.non hc
      replace h := h.non hc
      replace h2 := h2.non hc
      clear hc x0 x1 x2 x3 x4 x5 x6 x7 x8 x9 x10
      obtain ⟨A5, n5, c5, rfl, hn5, _, _, hr5⟩ := hv5.open_
      clear hv5
      obtain ⟨pe, hpe⟩ : ∃ pe, n.packErr = pe := ⟨_, rfl⟩
      rw [hpe]
      have HPE := Lib.hid hpe
      clear hpe
      have x0 := hb2.cell 0
      have x1 := hb2.cell 1
      have x2 := hb2.cell 2
      have x3 := hb2.cell 3
      have x4 := hb2.cell 4
      have x5 := hb2.cell 5
      have x6 := hb2.cell 6
      have x7 := hb2.cell 7
      have x8 := hb2.cell 8
      have x9 := hb2.cell 9
      have x10 := hb2.cell 10
      simp only [NtC, List.getElem?_toArray, List.getElem?_cons_zero, List.getElem?_cons_succ] at x0 x1 x2 x3 x4 x5 x6 x7 x8 x9 x10
      go_wp2_with fail
      refine (pack_any w5 u A2 k2 c2 B2 m2 d2 h2 (by omega) (by omega)).mono ?_
      rintro x w6 ⟨v6, rfl, hv6, hc⟩
      replace hC := hC.non hc
      replace hb := hb.non hc
      replace hb2 := hb2.non hc
      replace h := h.non hc
      replace h2 := h2.non hc
      replace hr5 := hr5.non hc
      clear hc x0 x1 x2 x3 x4 x5 x6 x7 x8 x9 x10
      obtain ⟨A6, n6, c6, rfl, hn6, _, _, hr6⟩ := hv6.open_
      clear hv6
      obtain ⟨pf, hpf⟩ : ∃ pf, u.packErr = pf := ⟨_, rfl⟩
      rw [hpf]
      have HPF := Lib.hid hpf
      clear hpf
      go_wp2_with fail
      refine (num_any _ _).mono ?_
      rintro x w9 ⟨rfl, rfl⟩
      by_cases hp0 : pe = 0
      case neg =>
        have hpn : (pe != 0) = true := by rw [bne_iff_ne]; exact hp0
        have h0 : n5 = 0 := by have := hn5.out; rw [pack_no (fun e => hp0 (by rw [← HPE.out, e]))] at this; simpa using this
        subst h0
        clear hp0 HPE
        go_wp2_with fail
        go_ret
        exact ⟨rfl, hC⟩
      subst hp0
      go_wp2_with fail
      refine (num_any _ _).mono ?_
      rintro x w9 ⟨rfl, rfl⟩
      by_cases hp0 : pf = 0
      case neg =>
        have hpn : (pf != 0) = true := by rw [bne_iff_ne]; exact hp0
        have h0 : n6 = 0 := by have := hn6.out; rw [pack_no (fun e => hp0 (by rw [← HPF.out, e]))] at this; simpa using this
        subst h0
        obtain ⟨hp1, hp2, hp3⟩ := pack_is h.ok HPE.out
        have h1 : n5 ≠ 0 := by have := hn5.out; rw [hp1] at this; have := bytes_pos n.clear; omega
        have t5 : ((n5 : Int) == 0) = false := by rw [beq_eq_false_iff_ne]; omega
        clear hp0 HPF hp1 hp2 hp3 h1
        go_wp2_with fail
        go_ret
        exact ⟨rfl, hC⟩
      subst hp0
      have x0 := hb.cell 0
      have x1 := hb.cell 1
      have x2 := hb.cell 2
      have x3 := hb.cell 3
      have x4 := hb.cell 4
      have x5 := hb.cell 5
      have x6 := hb.cell 6
      have x7 := hb.cell 7
      have x8 := hb.cell 8
      have x9 := hb.cell 9
      have x10 := hb.cell 10
      simp only [NtC, List.getElem?_toArray, List.getElem?_cons_zero, List.getElem?_cons_succ] at x0 x1 x2 x3 x4 x5 x6 x7 x8 x9 x10
      go_wp2_with fail
      refine (clear_any _ n A k c B m d h (by omega) (by omega)).mono ?_
      rintro x w7 ⟨A7, k7, c7, B7, m7, d7, rfl, hown, hc⟩
      replace hC := hC.non hc
      replace hb := hb.non hc
      replace hb2 := hb2.non hc
      replace h := h.non hc
      replace h2 := h2.non hc
      replace hr5 := hr5.non hc
      replace hr6 := hr6.non hc
      clear hc x0 x1 x2 x3 x4 x5 x6 x7 x8 x9 x10
      have hat := hown.at_
      have hk7 : k7 ≤ 1000 ∧ m7 ≤ 1000 := by
        have e1 := hown.lenA
        have e2 := hown.lenB
        have e3 := clear_rows n
        have e4 := h.args.lenMap
        have e5 := h.mems.lenM
        omega
      obtain ⟨hk7, hm7⟩ := hk7
      clear hown
      go_wp2_with fail
      refine (pack_any w7 n.clear A7 k7 c7 B7 m7 d7 hat (by omega) (by omega)).mono ?_
      rintro x w8 ⟨v8, rfl, hv8, hc⟩
      replace hC := hC.non hc
      replace hb := hb.non hc
      replace hb2 := hb2.non hc
      replace h := h.non hc
      replace h2 := h2.non hc
      replace hr5 := hr5.non hc
      replace hr6 := hr6.non hc
      clear hc
      obtain ⟨A8, n8, c8, rfl, hn8, _, _, hr8⟩ := hv8.open_
      clear hv8 hat
      have hpc : n.clear.packErr = 0 ∧ n.clear.pack = n.pack := by unfold Nt.packErr Nt.pack; rw [clear_clear]; exact ⟨HPE.out, rfl⟩
      rw [hpc.1]
      rw [hpc.2] at hr8
      have HSM := Lib.hid (pack_same h.ok h2.ok HPE.out HPF.out)
      clear hpc hn8 hn5 hn6 HPE HPF
      obtain ⟨P, hP⟩ : ∃ P, n.pack = P := ⟨_, rfl⟩
      obtain ⟨R, hR⟩ : ∃ R, u.pack = R := ⟨_, rfl⟩
      rw [hP, hR] at HSM
      rw [hP] at hr5 hr8
      rw [hR] at hr6
      clear hP hR
      go_wp2_with fail
      have q5 : ∀ w2, Chg Non w8 w2 → (convert 34 9 (.slice A5 n5 c5)).run Try.prog w2 = .ok (.string ⟨P.toArray⟩) w2 := fun w2 h2 => run_string_rds Try.underlying34 Try.underlying5 Try.underlying9 (hr5.non h2) c5
      have q6 : ∀ w2, Chg Non w8 w2 → (convert 34 9 (.slice A6 n6 c6)).run Try.prog w2 = .ok (.string ⟨R.toArray⟩) w2 := fun w2 h2 => run_string_rds Try.underlying34 Try.underlying5 Try.underlying9 (hr6.non h2) c6
      have q8 : ∀ w2, Chg Non w8 w2 → (convert 34 9 (.slice A8 n8 c8)).run Try.prog w2 = .ok (.string ⟨P.toArray⟩) w2 := fun w2 h2 => run_string_rds Try.underlying34 Try.underlying5 Try.underlying9 (hr8.non h2) c8
      have kk0 : ∀ w2, Chg Non w8 w2 → w2.cell? ⟨w.heap.size, 0, none⟩ = some (.int .i64 n.kind) := fun w2 h2 => h2.cell (hb.cell 0) id
      have kk1 : ∀ w2, Chg Non w8 w2 → w2.cell? ⟨w.heap.size, 1, none⟩ = some (.int .i64 n.node) := fun w2 h2 => h2.cell (hb.cell 1) id
      have kk2 : ∀ w2, Chg Non w8 w2 → w2.cell? ⟨w.heap.size, 2, none⟩ = some (.int .i64 n.life) := fun w2 h2 => h2.cell (hb.cell 2) id
      have kk3 : ∀ w2, Chg Non w8 w2 → w2.cell? ⟨w.heap.size, 3, none⟩ = some (.int .i64 n.epoch) := fun w2 h2 => h2.cell (hb.cell 3) id
      have kk4 : ∀ w2, Chg Non w8 w2 → w2.cell? ⟨w.heap.size, 4, none⟩ = some (.string n.id) := fun w2 h2 => h2.cell (hb.cell 4) id
      have kk5 : ∀ w2, Chg Non w8 w2 → w2.cell? ⟨w.heap.size, 5, none⟩ = some (.int .i64 n.fn) := fun w2 h2 => h2.cell (hb.cell 5) id
      have kk6 : ∀ w2, Chg Non w8 w2 → w2.cell? ⟨w.heap.size, 6, none⟩ = some (.slice A k c) := fun w2 h2 => h2.cell (hb.cell 6) id
      have kk7 : ∀ w2, Chg Non w8 w2 → w2.cell? ⟨w.heap.size, 7, none⟩ = some (.int .i64 n.err) := fun w2 h2 => h2.cell (hb.cell 7) id
      have kk8 : ∀ w2, Chg Non w8 w2 → w2.cell? ⟨w.heap.size, 8, none⟩ = some (.int .i64 n.val) := fun w2 h2 => h2.cell (hb.cell 8) id
      have kk9 : ∀ w2, Chg Non w8 w2 → w2.cell? ⟨w.heap.size, 9, none⟩ = some (.int .i64 n.vep) := fun w2 h2 => h2.cell (hb.cell 9) id
      have kk10 : ∀ w2, Chg Non w8 w2 → w2.cell? ⟨w.heap.size, 10, none⟩ = some (.slice B m d) := fun w2 h2 => h2.cell (hb.cell 10) id
      have ll0 : ∀ w2, Chg Non w8 w2 → w2.cell? ⟨w.heap.size + 1, 0, none⟩ = some (.int .i64 u.kind) := fun w2 h2 => h2.cell (hb2.cell 0) id
      have ll1 : ∀ w2, Chg Non w8 w2 → w2.cell? ⟨w.heap.size + 1, 1, none⟩ = some (.int .i64 u.node) := fun w2 h2 => h2.cell (hb2.cell 1) id
      have ll2 : ∀ w2, Chg Non w8 w2 → w2.cell? ⟨w.heap.size + 1, 2, none⟩ = some (.int .i64 u.life) := fun w2 h2 => h2.cell (hb2.cell 2) id
      have ll3 : ∀ w2, Chg Non w8 w2 → w2.cell? ⟨w.heap.size + 1, 3, none⟩ = some (.int .i64 u.epoch) := fun w2 h2 => h2.cell (hb2.cell 3) id
      have ll4 : ∀ w2, Chg Non w8 w2 → w2.cell? ⟨w.heap.size + 1, 4, none⟩ = some (.string u.id) := fun w2 h2 => h2.cell (hb2.cell 4) id
      have ll5 : ∀ w2, Chg Non w8 w2 → w2.cell? ⟨w.heap.size + 1, 5, none⟩ = some (.int .i64 u.fn) := fun w2 h2 => h2.cell (hb2.cell 5) id
      have ll6 : ∀ w2, Chg Non w8 w2 → w2.cell? ⟨w.heap.size + 1, 6, none⟩ = some (.slice A2 k2 c2) := fun w2 h2 => h2.cell (hb2.cell 6) id
      have ll7 : ∀ w2, Chg Non w8 w2 → w2.cell? ⟨w.heap.size + 1, 7, none⟩ = some (.int .i64 u.err) := fun w2 h2 => h2.cell (hb2.cell 7) id
      have ll8 : ∀ w2, Chg Non w8 w2 → w2.cell? ⟨w.heap.size + 1, 8, none⟩ = some (.int .i64 u.val) := fun w2 h2 => h2.cell (hb2.cell 8) id
      have ll9 : ∀ w2, Chg Non w8 w2 → w2.cell? ⟨w.heap.size + 1, 9, none⟩ = some (.int .i64 u.vep) := fun w2 h2 => h2.cell (hb2.cell 9) id
      have ll10 : ∀ w2, Chg Non w8 w2 → w2.cell? ⟨w.heap.size + 1, 10, none⟩ = some (.slice B2 m2 d2) := fun w2 h2 => h2.cell (hb2.cell 10) id
      clear hr5 hr6 hr8
      obtain ⟨sm, hsm⟩ : ∃ sm, sameN n.clear u.clear = sm := ⟨_, rfl⟩
      have Hsm := Lib.hid hsm
      have Heq : Hid ((P == R) = sm) := by show _ = _; rw [← hsm]; exact HSM.out
      clear hsm
      obtain ⟨pr, hpr⟩ : ∃ pr, (P == R) = pr := ⟨_, rfl⟩
      have hpr2 : pr = sm := by rw [← hpr]; exact Heq.out
      subst hpr2
      refine st_region 8 Non [12, 14, 15] [] (fun _ _ _ _ => True) (fun i _ v w2 => if i = 12 then (∀ A k c B m d, v = .agg (NtC n.clear A k c B m d) → NtAt w2 n.clear A k c B m d) else if i = 14 then (∀ A k c B m d, v = .agg (NtC u.clear A k c B m d) → NtAt w2 u.clear A k c B m d) else True) (fun i _ v => if i = 12 then (∃ A k c B m d, v = .agg (NtC n.clear A k c B m d)) else if i = 14 then (∃ A k c B m d, v = .agg (NtC u.clear A k c B m d)) else v = .bool pr) (fun _ => True) (by kernel_rfl) (by kernel_rfl) (fun _ h => h.elim) trivial (fun _ _ _ => trivial) ?_
      repeat (first | (refine st_pass (by rfl) ?_; simp only [Act.put, List.setIfInBounds_toArray, List.set_cons_succ, List.set_cons_zero]) | (refine st_plain (Non) (w8) rfl rfl (f := ?_) (by rfl) rfl rfl (fun w hC hG => ?_) ?_; rotate_left; (clear hG; first | (go_simp; done) | (go_simp; with_reducible rfl) | (simp [*, go_sem, ↓IntWalk.iteOmega]; done) | (simp [*, go_sem, ↓IntWalk.iteOmega]; with_reducible rfl)); simp only [Act.put, List.setIfInBounds_toArray, List.set_cons_succ, List.set_cons_zero]))
      refine st_major (Non) (w8) rfl rfl (by rfl) rfl (⟨.agg (NtC n.clear none 0 0 none 0 0), _, _, _, _, _, _, rfl⟩) (fun v w2 w3 _ h2 h A k c B m d e => (h A k c B m d e).non h2) (fun _ _ _ _ => trivial) (fun w hC hG hS => settle_of (r2 := ?_) ?_ ?_) ?_
      rotate_left
      (first | (go_simp; done) | (go_simp; rfl))
      · refine settle_enter ((refClear_any _ n A k c B m d).mono ?_)
        rintro x w9 ⟨A9, k9, c9, B9, m9, d9, rfl, hat, hc9⟩
        refine ⟨_, rfl, ⟨A9, k9, c9, B9, m9, d9, rfl⟩, hc9, trivial, fun A k c B m d e => ?_⟩
        cases e
        exact hat _ ((h.non hC).non hc9)
      rintro y12 ⟨A12, k12, c12, B12, m12, d12, rfl⟩
      simp only [Act.put, List.setIfInBounds_toArray, List.set_cons_succ, List.set_cons_zero]
      repeat (first | (refine st_pass (by rfl) ?_; simp only [Act.put, List.setIfInBounds_toArray, List.set_cons_succ, List.set_cons_zero]) | (refine st_plain (Non) (w8) rfl rfl (f := ?_) (by rfl) rfl rfl (fun w hC hG => ?_) ?_; rotate_left; (clear hG; first | (go_simp; done) | (go_simp; with_reducible rfl) | (simp [*, go_sem, ↓IntWalk.iteOmega]; done) | (simp [*, go_sem, ↓IntWalk.iteOmega]; with_reducible rfl)); simp only [Act.put, List.setIfInBounds_toArray, List.set_cons_succ, List.set_cons_zero]))
      refine st_major (Non) (w8) rfl rfl (by rfl) rfl (⟨.agg (NtC u.clear none 0 0 none 0 0), _, _, _, _, _, _, rfl⟩) (fun v w2 w3 _ h2 h A k c B m d e => (h A k c B m d e).non h2) (fun _ _ _ _ => trivial) (fun w hC hG hS => settle_of (r2 := ?_) ?_ ?_) ?_
      rotate_left
      (first | (go_simp; done) | (go_simp; rfl))
      · refine settle_enter ((refClear_any _ u A2 k2 c2 B2 m2 d2).mono ?_)
        rintro x w9 ⟨A9, k9, c9, B9, m9, d9, rfl, hat, hc9⟩
        refine ⟨_, rfl, ⟨A9, k9, c9, B9, m9, d9, rfl⟩, hc9, trivial, fun A k c B m d e => ?_⟩
        cases e
        exact hat _ ((h2.non hC).non hc9)
      rintro y14 ⟨A14, k14, c14, B14, m14, d14, rfl⟩
      simp only [Act.put, List.setIfInBounds_toArray, List.set_cons_succ, List.set_cons_zero]
      repeat (first | (refine st_pass (by rfl) ?_; simp only [Act.put, List.setIfInBounds_toArray, List.set_cons_succ, List.set_cons_zero]) | (refine st_plain (Non) (w8) rfl rfl (f := ?_) (by rfl) rfl rfl (fun w hC hG => ?_) ?_; rotate_left; (clear hG; first | (go_simp; done) | (go_simp; with_reducible rfl) | (simp [*, go_sem, ↓IntWalk.iteOmega]; done) | (simp [*, go_sem, ↓IntWalk.iteOmega]; with_reducible rfl)); simp only [Act.put, List.setIfInBounds_toArray, List.set_cons_succ, List.set_cons_zero]))
      refine st_major (Non) (w8) rfl rfl (by rfl) rfl (⟨.bool pr, rfl⟩) (fun _ _ _ _ _ h => h) (fun _ _ _ _ => trivial) (fun w hC hG hS => settle_of (r2 := ?_) ?_ ?_) ?_
      rotate_left
      (first | (go_simp; done) | (go_simp; rfl))
      · have g1 : NtAt _ n.clear A12 k12 c12 B12 m12 d12 := hG 12 rfl A12 k12 c12 B12 m12 d12 rfl
        have g2 : NtAt _ u.clear A14 k14 c14 B14 m14 d14 := hG 14 rfl A14 k14 c14 B14 m14 d14 rfl
        refine settle_enter ((same_any _ n.clear u.clear A12 k12 c12 B12 m12 d12 A14 k14 c14 B14 m14 d14 g1 g2).mono ?_)
        rintro x w9 ⟨rfl, hc9⟩
        rw [Hsm.out]
        exact ⟨_, rfl, rfl, hc9, trivial, trivial⟩
      rintro v9 hv9
      obtain rfl : v9 = .bool pr := hv9
      simp only [Act.put, List.setIfInBounds_toArray, List.set_cons_succ, List.set_cons_zero]
      repeat (first | (refine st_pass (by rfl) ?_; simp only [Act.put, List.setIfInBounds_toArray, List.set_cons_succ, List.set_cons_zero]) | (refine st_plain (Non) (w8) rfl rfl (f := ?_) (by rfl) rfl rfl (fun w hC hG => ?_) ?_; rotate_left; (clear hG; first | (go_simp; done) | (go_simp; with_reducible rfl) | (simp [*, go_sem, ↓IntWalk.iteOmega]; done) | (simp [*, go_sem, ↓IntWalk.iteOmega]; with_reducible rfl)); simp only [Act.put, List.setIfInBounds_toArray, List.set_cons_succ, List.set_cons_zero]))
      refine st_end Non w8 rfl rfl (fun w10 hC10 _ _ => ?_)
      have hCz := hC.non hC10
      clear q5 q6 q8 hpr kk0 kk1 kk2 kk3 kk4 kk5 kk6 kk7 kk8 kk9 kk10 ll0 ll1 ll2 ll3 ll4 ll5 ll6 ll7 ll8 ll9 ll10
      go_wp2_with fail
      go_ret
      exact ⟨rfl, hCz⟩

theorem noteFields_walk (w : World) (S : Array Value) (e0 : Rd Try.prog w 31 (Value.agg S).cells.toList) (T : Array Value) (e1 : Rd Try.prog w 31 (Value.agg T).cells.toList) :
    Calls Try.prog 3 #[.agg S, .agg T] w fun x w2 => x = .returned (.bool true) ∧ Chg Non w w2 := by
  obtain ⟨nt, A1, k1, c1, B1, m1, d1, rfl, h⟩ := e0.note
  obtain ⟨nu, A2, k2, c2, B2, m2, d2, rfl, h2⟩ := e1.note
  exact noteFields_core w nt nu A1 k1 c1 B1 m1 d1 A2 k2 c2 B2 m2 d2 h h2
end Go.Proofs.Ytclpmadecibofaa
