/-
  gleanerlaw10.FrameCuts: the walk.
-/
import Derived.Test.YtdllocgonjbmlaaFrameAlive
namespace Go.Proofs.Ytdllocgonjbmlaa
open Go.RowKit
set_option linter.unusedVariables false
set_option linter.unusedSimpArgs false

theorem cut_no {f : Fr} (he : f.err = 0) {m : Nat} (hm : m < f.bytes.length) : readErr (f.bytes.take m) ≠ 0 := by
  intro h
  obtain ⟨h1, h2, h3⟩ := read_form h
  have h4 := Fr.err0.1 he
  have h5 := Fr.err0.1 h2
  have h6 : (readFr (f.bytes.take m)).bytes ++ f.bytes.drop m = f.bytes := by rw [← h1, List.take_append_drop]
  have h7 := bytes_prefix h3 (Fr.fine_i64 h4.1) h5.2 h4.2 h6
  have h8 := congrArg List.length h7
  rw [List.length_drop] at h8
  simp at h8
  omega
theorem more_no {f : Fr} (he : f.err = 0) {M : List UInt8} (hM : M ≠ []) : readErr (f.bytes ++ M) ≠ 0 := by
  intro h
  obtain ⟨h1, h2, h3⟩ := read_form h
  have h4 := Fr.err0.1 he
  have h5 := Fr.err0.1 h2
  exact hM (bytes_prefix (Fr.fine_i64 h4.1) h3 h4.2 h5.2 h1)

set_option maxRecDepth 100000 in
set_option maxHeartbeats 1000000 in
theorem frameCuts_core (w : World) (f : Fr) (A : Option Addr) (n c : Nat) (hr : Rds w 1 A n (bv f.load)) (hc : n ≤ c) (hcm : c ≤ maxLen) (hn : n ≤ 4096) (a : Nat) (ha : (a : Int) ≤ 9223372036854775807)
    (B : Option Addr) (k ck : Nat) (M : List UInt8) (hrM : Rds w 1 B k (bv M)) (hk : k ≤ 100) :
    Calls Try.prog 7 #[frV f A n c, .int .i64 (a : Int), .slice B k ck] w fun e w2 => e = .returned (.bool true) ∧ Chg Non w w2 := by
  obtain ⟨w1, hw1⟩ : ∃ w9, w.alloc (.cells (frC f A n c) 24) = w9 := ⟨_, rfl⟩
  have hc1 : Chg Non w w1 := hw1 ▸ (Chg.refl _ _).alloc _
  have hb1 : Blk w1 w.heap.size 24 (frC f A n c) := hw1 ▸ Blk.new _ _ _
  unfold frC at hw1
  have HkM := Lib.hid hrM.lenMap
  go_enter Try.func7, Try.ntmps7
  go_wp2_with fail
  refine (frame_alive w1).mono ?_
  rintro e w2 ⟨rfl, hc2⟩
  have hb2 := hb1.non hc2
  have hC2 := hc1.non hc2
  have hr2 := hr.non hC2
  have hrM2 := hrM.non hC2
  have y0 := hb2.cell 0
  have y1 := hb2.cell 1
  have y2 := hb2.cell 2
  have y3 := hb2.cell 3
  have y4 := hb2.cell 4
  have y5 := hb2.cell 5
  simp only [frC, List.getElem?_toArray, List.getElem?_cons_zero, List.getElem?_cons_succ] at y0 y1 y2 y3 y4 y5
  clear hw1 hc1 hb1 hc2 hr hrM
  go_wp2_with fail
  refine (pack_any w2 f A n c hr2 hc hcm).mono ?_
  rintro e w3 ⟨v3, rfl, hown3, hc3⟩
  obtain ⟨A3, n3, c3, rfl, hn3, hnc3, hcm3, hr3⟩ := hown3.open_
  have hC3 := hC2.non hc3
  have hrM3 := hrM2.non hc3
  have Hnl := Lib.hid hr2.lenMap
  clear hb2 hC2 hr2 hc3 hown3 hrM2 y0 y1 y2 y3 y4 y5
  go_wp2_with fail
  refine (num_any _ _).mono ?_
  rintro e w9 ⟨rfl, rfl⟩
  by_cases he : f.err = 0
  · have hpk := Fr.pack_ok he
    rw [hpk] at hr3 hn3
    rw [he]
    have hn0 : 1 ≤ n3 := by have := hn3.out; have := f.bytes_len; omega
    have hn7 : n3 ≤ 7000 := by have h1 := hn3.out; have h2 := f.bytes_len; have h3 := f.tail_len; have h4 := Hnl.out; omega
    have He := Lib.hid he
    have hm : a % n3 < n3 := Nat.mod_lt _ (by omega)
    have Hcut := Lib.hid (cut_no he (m := a % n3) (by have := hn3.out; omega))
    have qs := fun w => run_slice_hi (P := Try.prog) Try.underlying22 (by kernel_rfl) (kl := .i64) (i := ((a : Int) % (n3 : Int))) (k := a % n3) (c := c3) (by omega) (by omega) A3 n3 w
    clear hpk he
    go_wp2_with fail
    have hrp := hr3.take8 (M := f.bytes.take (a % n3)) (Nat.le_of_lt hm) rfl
    refine (read_any w3 A3 (a % n3) c3 (f.bytes.take (a % n3)) hrp (by omega) (by omega)).mono ?_
    rintro e w4 ⟨A4, n4, c4, rfl, hown4, hc4⟩
    have hx1 : (readErr (f.bytes.take (a % n3)) != 0) = true := by rw [bne_iff_ne]; exact Hcut.out
    generalize readErr (f.bytes.take (a % n3)) = x1 at hx1 ⊢
    generalize readFr (f.bytes.take (a % n3)) = g1
    have hr4 := hr3.non hc4
    have hrM4 := hrM3.non hc4
    have hC4 := hC3.non hc4
    clear Hcut hrp hown4 hc4 hr3 hrM3 hC3 qs hm
    obtain ⟨w5, hw5⟩ : ∃ w9, w4.alloc (.cells (frC g1 A4 n4 c4) 24) = w9 := ⟨_, rfl⟩
    have hc5 : Chg Non w4 w5 := hw5 ▸ (Chg.refl _ _).alloc _
    have hb5 : Blk w5 w4.heap.size 24 (frC g1 A4 n4 c4) := hw5 ▸ Blk.new _ _ _
    have hr5 := hr4.non hc5
    have hrM5 := hrM4.non hc5
    have hC5 := hC4.non hc5
    unfold frC at hw5
    clear hb5 hc5 hr4 hrM4 hC4
    go_wp2_with (first
      | (at_builtin; refine app8b rfl _ (.tmp 52) rfl (Own8.nil _ w5.heap.size) rfl hr5 rfl ?_ ?_ ?_; (next => (have := hn3.out; simp; omega)); (next => exact Nat.le_refl _); intro v6 w6 h6 h7 h8; simp only [List.nil_append] at h6; have hc6 := h7.mono (S2 := Non) (fun _ e => by cases e); clear h7 h8)
      | (at_builtin; refine app8b rfl (.tmp 53) (.tmp 54) rfl h6 rfl (hrM5.non hc6) rfl ?_ ?_ ?_; (next => (have := hn3.out; have := HkM.out; omega)); (next => exact hc6.size); intro v7 w7 h9 h10 h11; have hC7 := hC5.non (h6.chgApp hc6 (Nat.le_refl _) h10); obtain ⟨A7, n7, c7, rfl, hn7b, hnc7, hcm7, hr7⟩ := h9.open_))
    have hn7l : n7 ≤ 8000 := by have h1 := hn7b.out; have h2 := hn3.out; have h3 := HkM.out; rw [List.length_append] at h1; omega
    clear h6 hc6 h10 h11 h9 hr5 hrM5 hC5 hw5
    refine (read_any w7 A7 n7 c7 (f.bytes ++ M) hr7 hnc7 (by omega)).mono ?_
    rintro e w8 ⟨A8, n8, c8, rfl, hown8, hc8⟩
    have hC8 := hC7.non hc8
    by_cases hk0 : k = 0
    · subst hk0
      obtain rfl : M = [] := List.length_eq_zero_iff.1 HkM.out.symm
      have hy : readErr (f.bytes ++ []) = 0 := by rw [List.append_nil]; exact (read_bytes He.out).1
      rw [hy]
      generalize readFr (f.bytes ++ []) = g2
      obtain ⟨w9, hw9⟩ : ∃ w9, w8.alloc (.cells (frC g2 A8 n8 c8) 24) = w9 := ⟨_, rfl⟩
      have hc9 : Chg Non w8 w9 := hw9 ▸ (Chg.refl _ _).alloc _
      have hb9 : Blk w9 w8.heap.size 24 (frC g2 A8 n8 c8) := hw9 ▸ Blk.new _ _ _
      have hC9 := hC8.non hc9
      unfold frC at hw9
      clear hy hown8 hc8 hr7 hC7 hb9 hc9 hC8
      go_wp2_with fail
      clear hw9
      refine (num_any _ _).mono ?_
      rintro e w10 ⟨rfl, rfl⟩
      go_wp2_with fail
      refine (num_any _ _).mono ?_
      rintro e w10 ⟨rfl, rfl⟩
      go_wp2_with fail
      go_ret
      exact ⟨rfl, hC9⟩
    · have hM : M ≠ [] := fun e => hk0 (by have := HkM.out; rw [e] at this; exact this)
      have hy : (readErr (f.bytes ++ M) == 0) = false := beq_eq_false_iff_ne.2 (more_no He.out hM)
      have hk1 : ((k : Int) == 0) = false := beq_eq_false_iff_ne.2 (by omega)
      generalize readErr (f.bytes ++ M) = x2 at hy ⊢
      generalize readFr (f.bytes ++ M) = g2
      obtain ⟨w9, hw9⟩ : ∃ w9, w8.alloc (.cells (frC g2 A8 n8 c8) 24) = w9 := ⟨_, rfl⟩
      have hc9 : Chg Non w8 w9 := hw9 ▸ (Chg.refl _ _).alloc _
      have hb9 : Blk w9 w8.heap.size 24 (frC g2 A8 n8 c8) := hw9 ▸ Blk.new _ _ _
      have hC9 := hC8.non hc9
      unfold frC at hw9
      clear hown8 hc8 hr7 hC7 hb9 hc9 hC8 hM
      go_wp2_with fail
      clear hw9
      refine (num_any _ _).mono ?_
      rintro e w10 ⟨rfl, rfl⟩
      go_wp2_with fail
      refine (num_any _ _).mono ?_
      rintro e w10 ⟨rfl, rfl⟩
      go_wp2_with fail
      go_ret
      exact ⟨rfl, hC9⟩
  · have hne : (f.err != 0) = true := by rw [bne_iff_ne]; exact he
    clear he
    go_wp2_with fail
    go_ret
    exact ⟨rfl, hC3⟩

theorem frameCuts_walk (w : World) (S : Array Value) (e0 : Rd Try.prog w 24 (Value.agg S).cells.toList) (x : Int) (hx : i64 x) (B : Option Addr) (k ck : Nat) (e1 : Rd Try.prog w 22 (Value.slice B k ck).cells.toList) :
    Calls Try.prog 7 #[.agg S, .int .i64 x, .slice B k ck] w fun e w2 => e = .returned (.bool true) ∧ Chg Non w w2 := by
  obtain ⟨f, A, n, c, rfl, h1, h2, h3, h4⟩ := e0.frame
  obtain ⟨B', k', ck', M, g1, g2, g3, g4⟩ := e1.bytes Try.underlying22 (by kernel_rfl) Try.underlying5
  simp only [Value.cells, List.cons.injEq, and_true, Value.slice.injEq] at g1
  obtain ⟨rfl, rfl, rfl⟩ := g1
  unfold i64 at hx
  by_cases hall : 0 ≤ x ∧ k ≤ 100 ∧ n ≤ 4096
  · obtain ⟨a, rfl⟩ : ∃ a : Nat, x = a := ⟨x.toNat, by omega⟩
    exact frameCuts_core w f A n c h4 h2 h3 hall.2.2 a hx.2 B k ck M g4 hall.2.1
  · have hcase : x < 0 ∨ (0 ≤ x ∧ 100 < k) ∨ (0 ≤ x ∧ k ≤ 100 ∧ 4096 < n) := by omega
    clear h4 g4 e0 e1 hall
    unfold maxLen at h3 g3
    obtain ⟨w1, hw1⟩ : ∃ w9, w.alloc (.cells (frC f A n c) 24) = w9 := ⟨_, rfl⟩
    have hc1 : Chg Non w w1 := hw1 ▸ (Chg.refl _ _).alloc _
    have hb1 : Blk w1 w.heap.size 24 (frC f A n c) := hw1 ▸ Blk.new _ _ _
    unfold frC at hw1
    rcases hcase with h | ⟨h, h'⟩ | ⟨h, h', h''⟩
    all_goals
      go_enter Try.func7, Try.ntmps7
      go_wp2_with fail
      refine (frame_alive w1).mono ?_
      rintro e w2 ⟨rfl, hc2⟩
      have hb2 := hb1.non hc2
      have y0 := hb2.cell 0
      have y1 := hb2.cell 1
      have y2 := hb2.cell 2
      have y3 := hb2.cell 3
      have y4 := hb2.cell 4
      have y5 := hb2.cell 5
      simp only [frC, List.getElem?_toArray, List.getElem?_cons_zero, List.getElem?_cons_succ] at y0 y1 y2 y3 y4 y5
      go_wp2_with fail
      go_ret
      exact ⟨rfl, hc1.non hc2⟩
end Go.Proofs.Ytdllocgonjbmlaa
