/-
  gleanerlaw11.NotePacks: the walk.
-/
import Derived.Test.YtclpmadecibofaaNoteAlive
import Derived.Test.YtclpmadecibofaaNoteRefPack
import Derived.Test.YtclpmadecibofaaNoteSameR
import Derived.Test.YtclpmadecibofaaNoteOnes
import Derived.Deep.Cut
namespace Go.Proofs.Ytclpmadecibofaa
open Go.ChangeShapes Go.WideShapes Go.ChangeAt Go.RowKit Go.Deep
set_option linter.unusedVariables false
set_option linter.unusedSimpArgs false

set_option maxRecDepth 100000 in
set_option maxHeartbeats 8000000 in
theorem notePacks_core (w : World) (n : Nt) (A : Option Addr) (k c : Nat) (B : Option Addr) (m d : Nat) (h : NtAt w n A k c B m d) :
    Calls Try.prog 4 #[.agg (NtC n A k c B m d)] w fun x w2 => x = .returned (.bool true) ∧ Chg Non w w2 := by
  obtain ⟨w1, e1⟩ : ∃ wq, w.alloc (.cells (NtC n A k c B m d) 31) = wq := ⟨_, rfl⟩
  have hC : Chg Non w w1 := e1 ▸ (Chg.refl _ _).alloc _
  have hb : Blk w1 w.heap.size 31 (NtC n A k c B m d) := e1 ▸ Blk.new _ _ _
  replace h := h.non hC
  unfold NtC at e1
  go_enter Try.func4, Try.ntmps4
  go_wp2_with fail
  refine (note_alive w1).mono ?_
  rintro x w2 ⟨rfl, hc⟩
  replace hC := hC.non hc
  replace hb := hb.non hc
  replace h := h.non hc
  clear hc e1
  have x0 := hb.cell 0
  have x1 := hb.cell 1
  have x2 := hb.cell 2
  have x3 := hb.cell 3
  have x4 := hb.cell 4
  have x5 := hb.cell 5
  have x6 := hb.cell 6
  have x7 := hb.cell 7
  have x8 := hb.cell 8
  have x9 := hb.cell 9
  have x10 := hb.cell 10
  simp only [NtC, List.getElem?_toArray, List.getElem?_cons_zero, List.getElem?_cons_succ] at x0 x1 x2 x3 x4 x5 x6 x7 x8 x9 x10
  go_wp2_with fail
  refine (big_any w2 n A k c B m d h).mono ?_
  rintro x w3 ⟨rfl, hc⟩
  replace hC := hC.non hc
  replace hb := hb.non hc
  replace h := h.non hc
  clear hc x0 x1 x2 x3 x4 x5 x6 x7 x8 x9 x10
  cases hbig : bigN n k m with
  | true =>
    clear hbig
    go_wp2_with fail
    go_ret
    exact ⟨rfl, hC⟩
  | false =>
    obtain ⟨hg1, hg2, hg3⟩ := bigN_no hbig
    clear hbig
    have x0 := hb.cell 0
    have x1 := hb.cell 1
    have x2 := hb.cell 2
    have x3 := hb.cell 3
    have x4 := hb.cell 4
    have x5 := hb.cell 5
    have x6 := hb.cell 6
    have x7 := hb.cell 7
    have x8 := hb.cell 8
    have x9 := hb.cell 9
    have x10 := hb.cell 10
    simp only [NtC, List.getElem?_toArray, List.getElem?_cons_zero, List.getElem?_cons_succ] at x0 x1 x2 x3 x4 x5 x6 x7 x8 x9 x10
    go_wp2_with fail
    refine (pack_any w3 n A k c B m d h (by omega) (by omega)).mono ?_
    rintro x w4 ⟨v4, rfl, hv4, hc⟩
    replace hC := hC.non hc
    replace hb := hb.non hc
    replace h := h.non hc
    clear hc x0 x1 x2 x3 x4 x5 x6 x7 x8 x9 x10
    obtain ⟨A4, n4, c4, rfl, hn4, _, _, hr4⟩ := hv4.open_
    clear hv4
    have x0 := hb.cell 0
    have x1 := hb.cell 1
    have x2 := hb.cell 2
    have x3 := hb.cell 3
    have x4 := hb.cell 4
    have x5 := hb.cell 5
    have x6 := hb.cell 6
    have x7 := hb.cell 7
    have x8 := hb.cell 8
    have x9 := hb.cell 9
    have x10 := hb.cell 10
    simp only [NtC, List.getElem?_toArray, List.getElem?_cons_zero, List.getElem?_cons_succ] at x0 x1 x2 x3 x4 x5 x6 x7 x8 x9 x10
    obtain ⟨pe, hpe⟩ : ∃ pe, n.packErr = pe := ⟨_, rfl⟩
    rw [hpe]
    have HPE := Lib.hid hpe
    clear hpe
    go_wp2_with fail
    refine (refPack_any w4 n A k c B m d h).mono ?_
    rintro x w5 ⟨v5, rfl, hv5, hc⟩
    rw [HPE.out]
    replace hC := hC.non hc
    replace hb := hb.non hc
    replace h := h.non hc
    replace hr4 := hr4.non hc
    clear hc x0 x1 x2 x3 x4 x5 x6 x7 x8 x9 x10
    obtain ⟨A5, n5, c5, rfl, hn5, _, _, hr5⟩ := hv5.open_
    clear hv5
    go_wp2_with fail
    have q1 : ∀ w2, Chg Non w5 w2 → (convert 34 9 (.slice A4 n4 c4)).run Try.prog w2 = .ok (.string ⟨n.pack.toArray⟩) w2 := fun w2 h2 => run_string_rds Try.underlying34 Try.underlying5 Try.underlying9 (hr4.non h2) c4
    have q2 : ∀ w2, Chg Non w5 w2 → (convert 34 9 (.slice A5 n5 c5)).run Try.prog w2 = .ok (.string ⟨n.pack.toArray⟩) w2 := fun w2 h2 => run_string_rds Try.underlying34 Try.underlying5 Try.underlying9 (hr5.non h2) c5
    have kk0 : ∀ w2, Chg Non w5 w2 → w2.cell? ⟨w.heap.size, 0, none⟩ = some (.int .i64 n.kind) := fun w2 h2 => h2.cell (hb.cell 0) id
    have kk1 : ∀ w2, Chg Non w5 w2 → w2.cell? ⟨w.heap.size, 1, none⟩ = some (.int .i64 n.node) := fun w2 h2 => h2.cell (hb.cell 1) id
    have kk2 : ∀ w2, Chg Non w5 w2 → w2.cell? ⟨w.heap.size, 2, none⟩ = some (.int .i64 n.life) := fun w2 h2 => h2.cell (hb.cell 2) id
    have kk3 : ∀ w2, Chg Non w5 w2 → w2.cell? ⟨w.heap.size, 3, none⟩ = some (.int .i64 n.epoch) := fun w2 h2 => h2.cell (hb.cell 3) id
    have kk4 : ∀ w2, Chg Non w5 w2 → w2.cell? ⟨w.heap.size, 4, none⟩ = some (.string n.id) := fun w2 h2 => h2.cell (hb.cell 4) id
    have kk5 : ∀ w2, Chg Non w5 w2 → w2.cell? ⟨w.heap.size, 5, none⟩ = some (.int .i64 n.fn) := fun w2 h2 => h2.cell (hb.cell 5) id
    have kk6 : ∀ w2, Chg Non w5 w2 → w2.cell? ⟨w.heap.size, 6, none⟩ = some (.slice A k c) := fun w2 h2 => h2.cell (hb.cell 6) id
    have kk7 : ∀ w2, Chg Non w5 w2 → w2.cell? ⟨w.heap.size, 7, none⟩ = some (.int .i64 n.err) := fun w2 h2 => h2.cell (hb.cell 7) id
    have kk8 : ∀ w2, Chg Non w5 w2 → w2.cell? ⟨w.heap.size, 8, none⟩ = some (.int .i64 n.val) := fun w2 h2 => h2.cell (hb.cell 8) id
    have kk9 : ∀ w2, Chg Non w5 w2 → w2.cell? ⟨w.heap.size, 9, none⟩ = some (.int .i64 n.vep) := fun w2 h2 => h2.cell (hb.cell 9) id
    have kk10 : ∀ w2, Chg Non w5 w2 → w2.cell? ⟨w.heap.size, 10, none⟩ = some (.slice B m d) := fun w2 h2 => h2.cell (hb.cell 10) id
    refine st_region 8 Non [1, 13, 15, 16] [] (fun _ _ _ _ => True) (fun i _ v w2 => if i = 13 then (∀ A k c B m d, v = .agg (NtC n.clear A k c B m d) → NtAt w2 n.clear A k c B m d) else if i = 15 then (∀ A k c B m d, v = .agg (NtC n.clear A k c B m d) → NtAt w2 n.clear A k c B m d) else True) (fun i _ v => if i = 1 then v = .int .i64 pe else if i = 13 then (∃ A k c B m d, v = .agg (NtC n.clear A k c B m d)) else if i = 15 then (∃ A k c B m d, v = .agg (NtC n.clear A k c B m d)) else v = .bool true) (fun _ => True) (by kernel_rfl) (by kernel_rfl) (fun _ h => h.elim) trivial (fun _ _ _ => trivial) ?_
    repeat (first | (refine st_pass (by rfl) ?_; simp only [Act.put, List.setIfInBounds_toArray, List.set_cons_succ, List.set_cons_zero]) | (refine st_plain (Non) (w5) rfl rfl (f := ?_) (by rfl) rfl rfl (fun w hC hG => ?_) ?_; rotate_left; (clear hG; first | (go_simp; done) | (go_simp; with_reducible rfl) | (simp [*, go_sem, ↓IntWalk.iteOmega]; done) | (simp [*, go_sem, ↓IntWalk.iteOmega]; with_reducible rfl)); simp only [Act.put, List.setIfInBounds_toArray, List.set_cons_succ, List.set_cons_zero]))
    refine st_major (Non) (w5) rfl rfl (by rfl) rfl (⟨.int .i64 pe, rfl⟩) (fun _ _ _ _ _ h => h) (fun _ _ _ _ => trivial) (fun w hC hG hS => settle_of (r2 := ?_) ?_ ?_) ?_
    rotate_left
    (first | (go_simp; done) | (go_simp; rfl))
    · refine settle_enter ((num_any pe _).mono ?_)
      rintro x w9 ⟨rfl, rfl⟩
      exact ⟨_, rfl, rfl, Chg.refl _ _, trivial, trivial⟩
    rintro v6 hv6
    obtain rfl : v6 = .int .i64 pe := hv6
    simp only [Act.put, List.setIfInBounds_toArray, List.set_cons_succ, List.set_cons_zero]
    repeat (first | (refine st_pass (by rfl) ?_; simp only [Act.put, List.setIfInBounds_toArray, List.set_cons_succ, List.set_cons_zero]) | (refine st_plain (Non) (w5) rfl rfl (f := ?_) (by rfl) rfl rfl (fun w hC hG => ?_) ?_; rotate_left; (clear hG; first | (go_simp; done) | (go_simp; with_reducible rfl) | (simp [*, go_sem, ↓IntWalk.iteOmega]; done) | (simp [*, go_sem, ↓IntWalk.iteOmega]; with_reducible rfl)); simp only [Act.put, List.setIfInBounds_toArray, List.set_cons_succ, List.set_cons_zero]))
    refine st_major (Non) (w5) rfl rfl (by rfl) rfl (⟨.agg (NtC n.clear none 0 0 none 0 0), _, _, _, _, _, _, rfl⟩) (fun v w2 w3 _ h2 h A k c B m d e => (h A k c B m d e).non h2) (fun _ _ _ _ => trivial) (fun w hC hG hS => settle_of (r2 := ?_) ?_ ?_) ?_
    rotate_left
    (first | (go_simp; done) | (go_simp; rfl))
    · refine settle_enter ((clear_any _ n A k c B m d (h.non hC) (by omega) (by omega)).mono ?_)
      rintro x w9 ⟨A9, k9, c9, B9, m9, d9, rfl, hown, hc9⟩
      refine ⟨_, rfl, ⟨A9, k9, c9, B9, m9, d9, rfl⟩, hc9, trivial, fun A k c B m d e => ?_⟩
      cases e
      exact hown.at_
    rintro v7 ⟨A7, k7, c7, B7, m7, d7, rfl⟩
    simp only [Act.put, List.setIfInBounds_toArray, List.set_cons_succ, List.set_cons_zero]
    repeat (first | (refine st_pass (by rfl) ?_; simp only [Act.put, List.setIfInBounds_toArray, List.set_cons_succ, List.set_cons_zero]) | (refine st_plain (Non) (w5) rfl rfl (f := ?_) (by rfl) rfl rfl (fun w hC hG => ?_) ?_; rotate_left; (clear hG; first | (go_simp; done) | (go_simp; with_reducible rfl) | (simp [*, go_sem, ↓IntWalk.iteOmega]; done) | (simp [*, go_sem, ↓IntWalk.iteOmega]; with_reducible rfl)); simp only [Act.put, List.setIfInBounds_toArray, List.set_cons_succ, List.set_cons_zero]))
    refine st_major (Non) (w5) rfl rfl (by rfl) rfl (⟨.agg (NtC n.clear none 0 0 none 0 0), _, _, _, _, _, _, rfl⟩) (fun v w2 w3 _ h2 h A k c B m d e => (h A k c B m d e).non h2) (fun _ _ _ _ => trivial) (fun w hC hG hS => settle_of (r2 := ?_) ?_ ?_) ?_
    rotate_left
    (first | (go_simp; done) | (go_simp; rfl))
    · refine settle_enter ((refClear_any _ n A k c B m d).mono ?_)
      rintro x w9 ⟨A9, k9, c9, B9, m9, d9, rfl, hat, hc9⟩
      refine ⟨_, rfl, ⟨A9, k9, c9, B9, m9, d9, rfl⟩, hc9, trivial, fun A k c B m d e => ?_⟩
      cases e
      exact hat _ ((h.non hC).non hc9)
    rintro v8 ⟨A8, k8, c8, B8, m8, d8, rfl⟩
    simp only [Act.put, List.setIfInBounds_toArray, List.set_cons_succ, List.set_cons_zero]
    repeat (first | (refine st_pass (by rfl) ?_; simp only [Act.put, List.setIfInBounds_toArray, List.set_cons_succ, List.set_cons_zero]) | (refine st_plain (Non) (w5) rfl rfl (f := ?_) (by rfl) rfl rfl (fun w hC hG => ?_) ?_; rotate_left; (clear hG; first | (go_simp; done) | (go_simp; with_reducible rfl) | (simp [*, go_sem, ↓IntWalk.iteOmega]; done) | (simp [*, go_sem, ↓IntWalk.iteOmega]; with_reducible rfl)); simp only [Act.put, List.setIfInBounds_toArray, List.set_cons_succ, List.set_cons_zero]))
    refine st_major (Non) (w5) rfl rfl (by rfl) rfl (⟨.bool true, rfl⟩) (fun _ _ _ _ _ h => h) (fun _ _ _ _ => trivial) (fun w hC hG hS => settle_of (r2 := ?_) ?_ ?_) ?_
    rotate_left
    (first | (go_simp; done) | (go_simp; rfl))
    · have g1 : NtAt _ n.clear A7 k7 c7 B7 m7 d7 := hG 13 rfl A7 k7 c7 B7 m7 d7 rfl
      have g2 : NtAt _ n.clear A8 k8 c8 B8 m8 d8 := hG 15 rfl A8 k8 c8 B8 m8 d8 rfl
      refine settle_enter ((same_self _ n.clear A7 k7 c7 B7 m7 d7 A8 k8 c8 B8 m8 d8 g1 g2).mono ?_)
      rintro x w9 ⟨rfl, hc9⟩
      exact ⟨_, rfl, rfl, hc9, trivial, trivial⟩
    rintro v9 hv9
    obtain rfl : v9 = .bool true := hv9
    simp only [Act.put, List.setIfInBounds_toArray, List.set_cons_succ, List.set_cons_zero]
    repeat (first | (refine st_pass (by rfl) ?_; simp only [Act.put, List.setIfInBounds_toArray, List.set_cons_succ, List.set_cons_zero]) | (refine st_plain (Non) (w5) rfl rfl (f := ?_) (by rfl) rfl rfl (fun w hC hG => ?_) ?_; rotate_left; (clear hG; first | (go_simp; done) | (go_simp; with_reducible rfl) | (simp [*, go_sem, ↓IntWalk.iteOmega]; done) | (simp [*, go_sem, ↓IntWalk.iteOmega]; with_reducible rfl)); simp only [Act.put, List.setIfInBounds_toArray, List.set_cons_succ, List.set_cons_zero]))
    refine st_end Non w5 rfl rfl (fun w6 hC6 _ _ => ?_)
    clear q1 q2 kk0 kk1 kk2 kk3 kk4 kk5 kk6 kk7 kk8 kk9 kk10
    replace hC := hC.non hC6
    replace hb := hb.non hC6
    replace h := h.non hC6
    replace hr4 := hr4.non hC6
    clear hC6 hr5
    by_cases hp0 : pe = 0
    case neg =>
      have hpn : (pe != 0) = true := by rw [bne_iff_ne]; exact hp0
      clear hp0 HPE
      go_wp2_with fail
      go_ret
      exact ⟨rfl, hC⟩
    subst hp0
    obtain ⟨hp1, hp2, hp3⟩ := pack_is h.ok HPE.out
    have hhi := bytes_max hp2
    rw [hp1] at hr4 hn4
    have Hrd := Lib.hid (rd_is hp3)
    have hln : n.clear.bytes.length ≤ 4010 := hhi
    clear hp1 hp2 hp3 hhi hn5 HPE
    go_wp2_with fail
    refine (read_any w6 A4 n4 c4 n.clear.bytes hr4 (by omega)).mono ?_
    rintro x w7 ⟨A7, k7, c7, B7, m7, d7, rfl, hown, hc⟩
    have hr0 : rdE n.clear.bytes = 0 := rdE_yes Hrd.out.1
    rw [Hrd.out.2, hr0]
    rw [Hrd.out.2] at hown
    replace hC := hC.non hc
    replace hb := hb.non hc
    replace h := h.non hc
    clear hc hr0 Hrd hr4 hln hn4
    have hat := hown.at_
    clear hown
    obtain ⟨C, hCe⟩ : ∃ C, n.clear = C := ⟨_, rfl⟩
    have HCe := Lib.hid hCe
    rw [hCe] at hat ⊢
    clear hCe
    obtain ⟨w8, e8⟩ : ∃ wq, w7.alloc (.cells (NtC C A7 k7 c7 B7 m7 d7) 31) = wq := ⟨_, rfl⟩
    have hc8 : Chg Non w7 w8 := e8 ▸ (Chg.refl _ _).alloc _
    have hb8 : Blk w8 w7.heap.size 31 (NtC C A7 k7 c7 B7 m7 d7) := e8 ▸ Blk.new _ _ _
    replace hC := hC.non hc8
    replace hb := hb.non hc8
    replace h := h.non hc8
    replace hat := hat.non hc8
    have E8 := Lib.hid e8
    clear e8 hc8
    unfold NtC
    go_upto_region 12 with (fail)
    have e8 := E8.out
    unfold NtC at e8
    rw [e8]
    clear e8 E8
    have kk0 : ∀ w2, Chg Non w8 w2 → w2.cell? ⟨w.heap.size, 0, none⟩ = some (.int .i64 n.kind) := fun w2 h2 => h2.cell (hb.cell 0) id
    have kk1 : ∀ w2, Chg Non w8 w2 → w2.cell? ⟨w.heap.size, 1, none⟩ = some (.int .i64 n.node) := fun w2 h2 => h2.cell (hb.cell 1) id
    have kk2 : ∀ w2, Chg Non w8 w2 → w2.cell? ⟨w.heap.size, 2, none⟩ = some (.int .i64 n.life) := fun w2 h2 => h2.cell (hb.cell 2) id
    have kk3 : ∀ w2, Chg Non w8 w2 → w2.cell? ⟨w.heap.size, 3, none⟩ = some (.int .i64 n.epoch) := fun w2 h2 => h2.cell (hb.cell 3) id
    have kk4 : ∀ w2, Chg Non w8 w2 → w2.cell? ⟨w.heap.size, 4, none⟩ = some (.string n.id) := fun w2 h2 => h2.cell (hb.cell 4) id
    have kk5 : ∀ w2, Chg Non w8 w2 → w2.cell? ⟨w.heap.size, 5, none⟩ = some (.int .i64 n.fn) := fun w2 h2 => h2.cell (hb.cell 5) id
    have kk6 : ∀ w2, Chg Non w8 w2 → w2.cell? ⟨w.heap.size, 6, none⟩ = some (.slice A k c) := fun w2 h2 => h2.cell (hb.cell 6) id
    have kk7 : ∀ w2, Chg Non w8 w2 → w2.cell? ⟨w.heap.size, 7, none⟩ = some (.int .i64 n.err) := fun w2 h2 => h2.cell (hb.cell 7) id
    have kk8 : ∀ w2, Chg Non w8 w2 → w2.cell? ⟨w.heap.size, 8, none⟩ = some (.int .i64 n.val) := fun w2 h2 => h2.cell (hb.cell 8) id
    have kk9 : ∀ w2, Chg Non w8 w2 → w2.cell? ⟨w.heap.size, 9, none⟩ = some (.int .i64 n.vep) := fun w2 h2 => h2.cell (hb.cell 9) id
    have kk10 : ∀ w2, Chg Non w8 w2 → w2.cell? ⟨w.heap.size, 10, none⟩ = some (.slice B m d) := fun w2 h2 => h2.cell (hb.cell 10) id
    have ll0 : ∀ w2, Chg Non w8 w2 → w2.cell? ⟨w7.heap.size, 0, none⟩ = some (.int .i64 C.kind) := fun w2 h2 => h2.cell (hb8.cell 0) id
    have ll1 : ∀ w2, Chg Non w8 w2 → w2.cell? ⟨w7.heap.size, 1, none⟩ = some (.int .i64 C.node) := fun w2 h2 => h2.cell (hb8.cell 1) id
    have ll2 : ∀ w2, Chg Non w8 w2 → w2.cell? ⟨w7.heap.size, 2, none⟩ = some (.int .i64 C.life) := fun w2 h2 => h2.cell (hb8.cell 2) id
    have ll3 : ∀ w2, Chg Non w8 w2 → w2.cell? ⟨w7.heap.size, 3, none⟩ = some (.int .i64 C.epoch) := fun w2 h2 => h2.cell (hb8.cell 3) id
    have ll4 : ∀ w2, Chg Non w8 w2 → w2.cell? ⟨w7.heap.size, 4, none⟩ = some (.string C.id) := fun w2 h2 => h2.cell (hb8.cell 4) id
    have ll5 : ∀ w2, Chg Non w8 w2 → w2.cell? ⟨w7.heap.size, 5, none⟩ = some (.int .i64 C.fn) := fun w2 h2 => h2.cell (hb8.cell 5) id
    have ll6 : ∀ w2, Chg Non w8 w2 → w2.cell? ⟨w7.heap.size, 6, none⟩ = some (.slice A7 k7 c7) := fun w2 h2 => h2.cell (hb8.cell 6) id
    have ll7 : ∀ w2, Chg Non w8 w2 → w2.cell? ⟨w7.heap.size, 7, none⟩ = some (.int .i64 C.err) := fun w2 h2 => h2.cell (hb8.cell 7) id
    have ll8 : ∀ w2, Chg Non w8 w2 → w2.cell? ⟨w7.heap.size, 8, none⟩ = some (.int .i64 C.val) := fun w2 h2 => h2.cell (hb8.cell 8) id
    have ll9 : ∀ w2, Chg Non w8 w2 → w2.cell? ⟨w7.heap.size, 9, none⟩ = some (.int .i64 C.vep) := fun w2 h2 => h2.cell (hb8.cell 9) id
    have ll10 : ∀ w2, Chg Non w8 w2 → w2.cell? ⟨w7.heap.size, 10, none⟩ = some (.slice B7 m7 d7) := fun w2 h2 => h2.cell (hb8.cell 10) id
    refine st_region 8 Non [1, 6, 7] [] (fun _ _ _ _ => True) (fun i _ v w2 => if i = 6 then (∀ A k c B m d, v = .agg (NtC C A k c B m d) → NtAt w2 C A k c B m d) else True) (fun i _ v => if i = 1 then v = .int .i64 0 else if i = 6 then (∃ A k c B m d, v = .agg (NtC C A k c B m d)) else v = .bool true) (fun _ => True) (by kernel_rfl) (by kernel_rfl) (fun _ h => h.elim) trivial (fun _ _ _ => trivial) ?_
    repeat (first | (refine st_pass (by rfl) ?_; simp only [Act.put, List.setIfInBounds_toArray, List.set_cons_succ, List.set_cons_zero]) | (refine st_plain (Non) (w8) rfl rfl (f := ?_) (by rfl) rfl rfl (fun w hC hG => ?_) ?_; rotate_left; (clear hG; first | (go_simp; done) | (go_simp; with_reducible rfl) | (simp [*, go_sem, ↓IntWalk.iteOmega]; done) | (simp [*, go_sem, ↓IntWalk.iteOmega]; with_reducible rfl)); simp only [Act.put, List.setIfInBounds_toArray, List.set_cons_succ, List.set_cons_zero]))
    refine st_major (Non) (w8) rfl rfl (by rfl) rfl (⟨.int .i64 0, rfl⟩) (fun _ _ _ _ _ h => h) (fun _ _ _ _ => trivial) (fun w hC hG hS => settle_of (r2 := ?_) ?_ ?_) ?_
    rotate_left
    (first | (go_simp; done) | (go_simp; rfl))
    · refine settle_enter ((num_any 0 _).mono ?_)
      rintro x w9 ⟨rfl, rfl⟩
      exact ⟨_, rfl, rfl, Chg.refl _ _, trivial, trivial⟩
    rintro v6 hv6
    obtain rfl : v6 = .int .i64 0 := hv6
    simp only [Act.put, List.setIfInBounds_toArray, List.set_cons_succ, List.set_cons_zero]
    repeat (first | (refine st_pass (by rfl) ?_; simp only [Act.put, List.setIfInBounds_toArray, List.set_cons_succ, List.set_cons_zero]) | (refine st_plain (Non) (w8) rfl rfl (f := ?_) (by rfl) rfl rfl (fun w hC hG => ?_) ?_; rotate_left; (clear hG; first | (go_simp; done) | (go_simp; with_reducible rfl) | (simp [*, go_sem, ↓IntWalk.iteOmega]; done) | (simp [*, go_sem, ↓IntWalk.iteOmega]; with_reducible rfl)); simp only [Act.put, List.setIfInBounds_toArray, List.set_cons_succ, List.set_cons_zero]))
    refine st_major (Non) (w8) rfl rfl (by rfl) rfl (⟨.agg (NtC C none 0 0 none 0 0), _, _, _, _, _, _, rfl⟩) (fun v w2 w3 _ h2 h A k c B m d e => (h A k c B m d e).non h2) (fun _ _ _ _ => trivial) (fun w hC hG hS => settle_of (r2 := ?_) ?_ ?_) ?_
    rotate_left
    (first | (go_simp; done) | (go_simp; rfl))
    · refine settle_enter ((refClear_any _ n A k c B m d).mono ?_)
      rintro x w9 ⟨A9, k9, c9, B9, m9, d9, rfl, hat9, hc9⟩
      rw [HCe.out] at hat9 ⊢
      refine ⟨_, rfl, ⟨A9, k9, c9, B9, m9, d9, rfl⟩, hc9, trivial, fun A k c B m d e => ?_⟩
      cases e
      exact hat9 _ ((h.non hC).non hc9)
    rintro v8 ⟨A8, k8, c8, B8, m8, d8, rfl⟩
    simp only [Act.put, List.setIfInBounds_toArray, List.set_cons_succ, List.set_cons_zero]
    repeat (first | (refine st_pass (by rfl) ?_; simp only [Act.put, List.setIfInBounds_toArray, List.set_cons_succ, List.set_cons_zero]) | (refine st_plain (Non) (w8) rfl rfl (f := ?_) (by rfl) rfl rfl (fun w hC hG => ?_) ?_; rotate_left; (clear hG; first | (go_simp; done) | (go_simp; with_reducible rfl) | (simp [*, go_sem, ↓IntWalk.iteOmega]; done) | (simp [*, go_sem, ↓IntWalk.iteOmega]; with_reducible rfl)); simp only [Act.put, List.setIfInBounds_toArray, List.set_cons_succ, List.set_cons_zero]))
    refine st_major (Non) (w8) rfl rfl (by rfl) rfl (⟨.bool true, rfl⟩) (fun _ _ _ _ _ h => h) (fun _ _ _ _ => trivial) (fun w hC hG hS => settle_of (r2 := ?_) ?_ ?_) ?_
    rotate_left
    (first | (go_simp; done) | (go_simp; rfl))
    · have g2 : NtAt _ C A8 k8 c8 B8 m8 d8 := hG 6 rfl A8 k8 c8 B8 m8 d8 rfl
      refine settle_enter ((same_self _ C A7 k7 c7 B7 m7 d7 A8 k8 c8 B8 m8 d8 (hat.non hC) g2).mono ?_)
      rintro x w9 ⟨rfl, hc9⟩
      exact ⟨_, rfl, rfl, hc9, trivial, trivial⟩
    rintro v9 hv9
    obtain rfl : v9 = .bool true := hv9
    simp only [Act.put, List.setIfInBounds_toArray, List.set_cons_succ, List.set_cons_zero]
    repeat (first | (refine st_pass (by rfl) ?_; simp only [Act.put, List.setIfInBounds_toArray, List.set_cons_succ, List.set_cons_zero]) | (refine st_plain (Non) (w8) rfl rfl (f := ?_) (by rfl) rfl rfl (fun w hC hG => ?_) ?_; rotate_left; (clear hG; first | (go_simp; done) | (go_simp; with_reducible rfl) | (simp [*, go_sem, ↓IntWalk.iteOmega]; done) | (simp [*, go_sem, ↓IntWalk.iteOmega]; with_reducible rfl)); simp only [Act.put, List.setIfInBounds_toArray, List.set_cons_succ, List.set_cons_zero]))
    refine st_end Non w8 rfl rfl (fun w10 hC10 _ _ => ?_)
    have hCz := hC.non hC10
    clear kk0 kk1 kk2 kk3 kk4 kk5 kk6 kk7 kk8 kk9 kk10 ll0 ll1 ll2 ll3 ll4 ll5 ll6 ll7 ll8 ll9 ll10
    go_wp2_with fail
    go_ret
    exact ⟨rfl, hCz⟩

theorem notePacks_walk (w : World) (S : Array Value) (e0 : Rd Try.prog w 31 (Value.agg S).cells.toList) :
    Calls Try.prog 4 #[.agg S] w fun x w2 => x = .returned (.bool true) ∧ Chg Non w w2 := by
  obtain ⟨nt, A1, k1, c1, B1, m1, d1, rfl, h⟩ := e0.note
  exact notePacks_core w nt A1 k1 c1 B1 m1 d1 h
end Go.Proofs.Ytclpmadecibofaa
