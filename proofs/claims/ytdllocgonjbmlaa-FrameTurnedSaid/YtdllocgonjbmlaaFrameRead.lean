/-
  frame.Read.
-/
import Derived.Test.YtdllocgonjbmlaaFrameReadP
namespace Go.Proofs.Ytdllocgonjbmlaa
open Go.RowKit
set_option linter.unusedVariables false
set_option linter.unusedSimpArgs false

/-- Six cells stored. -/
theorem Blk.put6 {w : World} {b : Nat} {t : TypeId} {u0 u1 u2 u3 u4 u5 : Value} (h : Blk w b t #[u0, u1, u2, u3, u4, u5]) (v0 v1 v2 v3 v4 v5 : Value) :
    Blk ((((((w.setCell ⟨b, 0, none⟩ v0).setCell ⟨b, 1, none⟩ v1).setCell ⟨b, 2, none⟩ v2).setCell ⟨b, 3, none⟩ v3).setCell ⟨b, 4, none⟩ v4).setCell ⟨b, 5, none⟩ v5) b t #[v0, v1, v2, v3, v4, v5] :=
  (((((h.put 0 v0).put 1 v1).put 2 v2).put 3 v3).put 4 v4).put 5 v5
theorem chg6 (w : World) (b : Nat) (v0 v1 v2 v3 v4 v5 : Value) :
    Chg (fun x => x = b) w ((((((w.setCell ⟨b, 0, none⟩ v0).setCell ⟨b, 1, none⟩ v1).setCell ⟨b, 2, none⟩ v2).setCell ⟨b, 3, none⟩ v3).setCell ⟨b, 4, none⟩ v4).setCell ⟨b, 5, none⟩ v5) :=
  ((((((Chg.refl _ _).set1 0 _).set1 1 _).set1 2 _).set1 3 _).set1 4 _).set1 5 _

/-- What Read and ReadFrame return. -/
def ReadPost (w : World) (L : List UInt8) (e : Ending) (w2 : World) : Prop :=
  ∃ A n c, e = .returned (.tuple #[frV (readFr L) A n c, .int .i64 (readErr L)]) ∧ Own8 w2 w.heap.size (.slice A n c) (readFr L).load ∧ Chg Non w w2
theorem ReadPost.zero {w w2 : World} {L : List UInt8} {x : Int} (h : Hid (readErr L = x ∧ readFr L = Fr.zero)) (hc : Chg Non w w2) : ReadPost w L (.returned (.tuple #[.agg #[.int .i64 0, .int .i64 0, .int .i64 0, .int .i64 0, .int .i64 0, .slice none 0 0], .int .i64 x])) w2 := by
  obtain ⟨h1, h2⟩ := h.out
  refine ⟨none, 0, 0, ?_, ?_, hc⟩
  · rw [h1, h2]; rfl
  · rw [h2]; exact Own8.nil _ _

set_option maxRecDepth 100000 in
set_option maxHeartbeats 2000000 in
theorem read_any (w : World) (A : Option Addr) (m c : Nat) (L : List UInt8) (hr : Rds w 1 A m (bv L)) (hc : m ≤ c) (hm : m ≤ 140737488350000) :
    Calls Try.prog 12 #[.slice A m c] w (ReadPost w L) := by
  have hml : m = L.length := hr.lenMap
  by_cases h5 : m < 5
  · have H1 := Lib.hid (read_short (L := L) (by omega))
    clear hml hr
    go_enter Try.func12, Try.ntmps12
    go_wp2_with fail
    exact bodyPost_ret (v := .tuple #[.agg #[.int .i64 0, .int .i64 0, .int .i64 0, .int .i64 0, .int .i64 0, .slice none 0 0], .int .i64 4]) (by simp [results, Try.results12, go_sem]) rfl (ReadPost.zero H1 ((Chg.refl _ _).alloc _))
  · obtain ⟨k, hk⟩ : ∃ k, m = k + 4 := ⟨m - 4, by omega⟩
    subst hk
    have hk1 : 1 ≤ k := by omega
    have Hr := Lib.hid hr
    have Hml := Lib.hid hml
    obtain ⟨ad, x, hA, hx, hcell⟩ := hr.getB (k := 0) (by omega)
    rw [addr_zero] at hcell
    have h255 : x.toNat < 256 := x.toNat_lt
    have hwr : (((k + 4 : Nat) : Int) - 4) = (k : Int) := by omega
    have hwr2 : ((k + 4 : Nat) : Int) = (k : Int) + 4 := by omega
    by_cases h70 : x.toNat = 70
    · have hh : L.head? = some 70 := by rw [List.head?_eq_getElem?, hx]; exact congrArg some (UInt8.toNat_inj.1 h70)
      have Hh := Lib.hid hh
      have hcell2 : w.cell? ad = some (.int .u8 70) := by rw [hcell, h70]; rfl
      clear hx hcell h255 hh h70 hml
      have qs := fun w => run_slice_hi (P := Try.prog) Try.underlying22 (by kernel_rfl) (kl := .i64) (i := (k : Int)) (k := k) (c := c) rfl (by omega) A (k + 4) w
      have qs2 : ∀ w, _ := fun w => run_slice_lo (P := Try.prog) Try.underlying22 1 (by kernel_rfl) (by kernel_rfl) (kl := .i64) (i := (k : Int)) (k := k) (n := k + 4) rfl (by omega) A c w
      have r2 : Rds w 1 (cutA A c k 1) (k + 4 - k) (bv (L.drop k)) := hr.drop8 (by omega) hc rfl
      rw [show k + 4 - k = 4 by omega] at r2
      simp only [show k + 4 - k = 4 by omega] at qs2
      have r1 : Rds w 1 A k (bv (L.take k)) := hr.take8 (by omega) rfl
      have r3 : Rds w 1 (cutA A c 1 1) (k - 1) (bv ((L.take k).drop 1)) := r1.drop8 hk1 (by omega) rfl
      subst hA
      obtain ⟨w1, hw1⟩ : ∃ w1, w.alloc (.cells #[.int .i64 0, .int .i64 0, .int .i64 0, .int .i64 0, .int .i64 0, .slice none 0 0] 24) = w1 := ⟨_, rfl⟩
      have hC1 : Chg Non w w1 := hw1 ▸ (Chg.refl _ _).alloc _
      have hbZ : Blk w1 w.heap.size 24 #[.int .i64 0, .int .i64 0, .int .i64 0, .int .i64 0, .int .i64 0, .slice none 0 0] := hw1 ▸ Blk.new _ _ _
      have hcell3 := hC1.cell hcell2 id
      go_enter Try.func12, Try.ntmps12
      go_wp2_with fail
      have q5 : ∀ w2, Chg Non w1 w2 → (convert 22 9 (.slice (cutA (some ad) c k 1) 4 (c - k))).run Try.prog w2 = .ok (.string ⟨(L.drop k).toArray⟩) w2 := fun w2 h => run_string_rds Try.underlying22 Try.underlying5 Try.underlying9 ((r2.non hC1).non h) (c - k)
      refine st_region 8 Non [3] [] (fun _ _ _ _ => True) (fun _ _ v w => ∃ A n c, v = .slice A n c ∧ Rds w 1 A n (bv (le4 (crc (L.take k))))) (fun _ _ v => ∃ A n c, v = .slice A n c) (fun _ => True) (by kernel_rfl) (by kernel_rfl) (fun _ h => h.elim) trivial (fun _ _ _ => trivial) ?_
      repeat (first | (refine st_pass (by rfl) ?_; simp only [Act.put, List.setIfInBounds_toArray, List.set_cons_succ, List.set_cons_zero]) | (refine st_plain (Non) (w1) rfl rfl (f := ?_) (by rfl) rfl rfl (fun w hC hG => ?_) ?_; rotate_left; (clear hG; first | (go_simp; done) | (go_simp; with_reducible rfl) | (simp [*, go_sem, ↓IntWalk.iteOmega]; done) | (simp [*, go_sem, ↓IntWalk.iteOmega]; with_reducible rfl)); simp only [Act.put, List.setIfInBounds_toArray, List.set_cons_succ, List.set_cons_zero]))
      refine st_major (Non) (w1) rfl rfl (by rfl) rfl (⟨.slice none 0 0, none, 0, 0, rfl⟩) (fun v w w2 _ h2 ⟨A, n, c, e, h⟩ => ⟨A, n, c, e, h.non h2⟩) (fun _ _ _ _ => trivial) (fun w hC hG hS => settle_of (r2 := ?_) ?_ ?_) ?_
      rotate_left
      (first | (go_simp; done) | (go_simp; rfl))
      · refine settle_enter ((frameSum_any _ _ _ _ _ ((r1.non hC1).non hC) (by omega)).mono ?_)
        rintro e w6 ⟨g6, rfl, h8, hc6⟩
        exact ⟨_, rfl, ⟨_, _, _, rfl⟩, hc6, trivial, _, _, _, rfl, h8.rdsN⟩
      · rintro v ⟨A6, n6, c6, rfl⟩
        simp only [Act.put, List.setIfInBounds_toArray, List.set_cons_succ, List.set_cons_zero]
        refine st_plain Non w1 rfl rfl (f := .string ⟨(le4 (crc (L.take k))).toArray⟩) (by rfl) rfl rfl (fun w1 hC hG => ?_) ?_
        · obtain ⟨A, n, c, e, h⟩ : ∃ A n c, Value.slice A6 n6 c6 = .slice A n c ∧ Rds w1 1 A n (bv (le4 (crc (L.take k)))) := hG 3 rfl
          cases e
          have q := run_string_rds Try.underlying22 Try.underlying5 Try.underlying9 h c6
          clear hG
          go_simp
        simp only [Act.put, List.setIfInBounds_toArray, List.set_cons_succ, List.set_cons_zero]
        repeat (first | (refine st_pass (by rfl) ?_; simp only [Act.put, List.setIfInBounds_toArray, List.set_cons_succ, List.set_cons_zero]) | (refine st_plain (Non) (w1) rfl rfl (f := ?_) (by rfl) rfl rfl (fun w hC hG => ?_) ?_; rotate_left; (clear hG; first | (go_simp; done) | (go_simp; with_reducible rfl) | (simp [*, go_sem, ↓IntWalk.iteOmega]; done) | (simp [*, go_sem, ↓IntWalk.iteOmega]; with_reducible rfl)); simp only [Act.put, List.setIfInBounds_toArray, List.set_cons_succ, List.set_cons_zero]))
        refine st_end Non w1 rfl rfl (fun w2 hC2 _ _ => ?_)
        have hbZ2 := hbZ.non hC2
        have hC2 := hC1.non hC2
        have r32 := r3.non hC2
        clear q5 qs qs2 r1 r2 r3 hcell3 hcell2 hC1 hr hbZ
        cases hsum : (le4 (crc (L.take k)) == L.drop k) with
        | false =>
          have H1 := Lib.hid (read_sum (by have := Hml.out; omega) hk1 Hh.out hsum)
          have z0 := hbZ2.cell 0
          have z1 := hbZ2.cell 1
          have z2 := hbZ2.cell 2
          have z3 := hbZ2.cell 3
          have z4 := hbZ2.cell 4
          have z5 := hbZ2.cell 5
          simp only [List.getElem?_toArray, List.getElem?_cons_zero, List.getElem?_cons_succ] at z0 z1 z2 z3 z4 z5
          have f0 := hbZ2.frozen 0
          have f1 := hbZ2.frozen 1
          have f2 := hbZ2.frozen 2
          have f3 := hbZ2.frozen 3
          have f4 := hbZ2.frozen 4
          have f5 := hbZ2.frozen 5
          go_wp2_with fail
          clear z0 z1 z2 z3 z4 z5 f0 f1 f2 f3 f4 f5
          have hbE := hbZ2.put6 (.int .i64 0) (.int .i64 0) (.int .i64 0) (.int .i64 0) (.int .i64 0) (.slice none 0 0)
          have hE := chg6 w2 w.heap.size (.int .i64 0) (.int .i64 0) (.int .i64 0) (.int .i64 0) (.int .i64 0) (.slice none 0 0)
          have r0 := hbE.cell 0
          have r1 := hbE.cell 1
          have r2 := hbE.cell 2
          have r3 := hbE.cell 3
          have r4 := hbE.cell 4
          have r5 := hbE.cell 5
          simp only [List.getElem?_toArray, List.getElem?_cons_zero, List.getElem?_cons_succ] at r0 r1 r2 r3 r4 r5
          have hCE := hC2.trans2 hE (fun b e => .inr (by have e : b = w.heap.size := e; omega))
          exact bodyPost_ret (v := .tuple #[.agg #[.int .i64 0, .int .i64 0, .int .i64 0, .int .i64 0, .int .i64 0, .slice none 0 0], .int .i64 5]) (by simp [results, Try.results12, go_sem, r0, r1, r2, r3, r4, r5]) rfl (ReadPost.zero H1 hCE)
        | true =>
          have Hs := Lib.hid hsum
          rw [show cutA (some ad) c 1 1 = some ⟨ad.block, ad.off + 1, none⟩ from by unfold cutA; rw [if_neg (by omega)]; rfl] at r32
          obtain ⟨pa, pb, pc, pd, pe, pt, ea, eb, ec, ed, ee, et, hp, hlen⟩ := parse_steps ((L.take k).drop 1)
          have hl0 : ((L.take k).drop 1).length ≤ 140737488350000 := by have := Hml.out; simp only [List.length_drop, List.length_take]; omega
          have Hp := Lib.hid hp
          have Hlen : Hid (pe.2.1.length ≤ 140737488350000) := Nat.le_trans hlen hl0
          have Ea := Lib.hid ea
          have Eb := Lib.hid eb
          have Ec := Lib.hid ec
          have Ed := Lib.hid ed
          have Ee := Lib.hid ee
          have Et := Lib.hid et
          have hsz := hC2.size
          clear hp hlen ea eb ec ed ee et hsum
          go_wp2_with fail
          refine (new_any _ _ _ _ _ r32 (by omega)).mono ?_
          rintro e w3 ⟨g, rfl, hg, hcur, hc3⟩
          have hgw : w.heap.size < g := by have := hbZ2.lt; omega
          have hbZ3 := hbZ2.non hc3
          have hC3 := hC2.non hc3
          clear hC2 hbZ2 hc3 r32
          go_wp2_with fail
          refine (int_any g _ _ _ hcur).mono ?_
          rintro e w4 ⟨rfl, hcur, hc4⟩
          rw [Ea.out] at hcur ⊢
          have hbZ4 := hbZ3.chg hc4 (by omega)
          have hC4 := hC3.trans2 hc4 (fun b e => .inr (by have e : b = g := e; omega))
          clear hc4 hbZ3 hC3
          go_wp2_with fail
          refine (int_any g _ _ _ hcur).mono ?_
          rintro e w5 ⟨rfl, hcur, hc5⟩
          rw [Eb.out] at hcur ⊢
          have hbZ5 := hbZ4.chg hc5 (by omega)
          have hC5 := hC4.trans2 hc5 (fun b e => .inr (by have e : b = g := e; omega))
          clear hc5 hbZ4 hC4
          go_wp2_with fail
          refine (int_any g _ _ _ hcur).mono ?_
          rintro e w6 ⟨rfl, hcur, hc6⟩
          rw [Ec.out] at hcur ⊢
          have hbZ6 := hbZ5.chg hc6 (by omega)
          have hC6 := hC5.trans2 hc6 (fun b e => .inr (by have e : b = g := e; omega))
          clear hc6 hbZ5 hC5
          go_wp2_with fail
          refine (int_any g _ _ _ hcur).mono ?_
          rintro e w7 ⟨rfl, hcur, hc7⟩
          rw [Ed.out] at hcur ⊢
          have hbZ7 := hbZ6.chg hc7 (by omega)
          have hC7 := hC6.trans2 hc7 (fun b e => .inr (by have e : b = g := e; omega))
          clear hc7 hbZ6 hC6
          go_wp2_with fail
          refine (int_any g _ _ _ hcur).mono ?_
          rintro e w8 ⟨rfl, hcur, hc8⟩
          rw [Ee.out] at hcur ⊢
          have hbZ8 := hbZ7.chg hc8 (by omega)
          have hC8 := hC7.trans2 hc8 (fun b e => .inr (by have e : b = g := e; omega))
          clear hc8 hbZ7 hC7
          go_wp2_with fail
          refine (bytes_any g _ _ _ hcur (Nat.le_trans Hlen.out (by omega))).mono ?_
          rintro e w9 ⟨vt, rfl, hown, hcur, hc9⟩
          rw [Et.out] at hcur hown
          have hbZ9 := hbZ8.chg hc9 (by omega)
          have hltP := hbZ8.lt
          have hC9 := hC8.trans2 hc9 (fun b e => .inr (by have e : b = g := e; omega))
          obtain ⟨A9, n9, c9, rfl, hn9, hnc9, hcm9, hr9⟩ := hown.open_
          clear hc9 hbZ8 hC8
          go_wp2_with fail
          obtain ⟨w10, hw10⟩ : ∃ w10, w9.alloc (.cells #[.int .i64 pa.1, .int .i64 pb.1, .int .i64 pc.1, .int .i64 pd.1, .int .i64 pe.1, .slice A9 n9 c9] 24) = w10 := ⟨_, rfl⟩
          rw [hw10]
          have hc10 : Chg Non w9 w10 := hw10 ▸ (Chg.refl _ _).alloc _
          have hbF : Blk w10 w9.heap.size 24 #[.int .i64 pa.1, .int .i64 pb.1, .int .i64 pc.1, .int .i64 pd.1, .int .i64 pe.1, .slice A9 n9 c9] := hw10 ▸ Blk.new _ _ _
          have hbZ := hbZ9.non hc10
          have hC := hC9.non hc10
          have hownN := hown.non hc10
          have hcurN := hcur.non hc10
          have hrN := hr9.non hc10
          clear hw10 hc10 hbZ9 hC9 hown hcur hr9
          refine (end_any g _ _ _ hcurN).mono ?_
          rintro e w11 ⟨rfl, rfl⟩
          cases hend : (!pt.2.2 && pt.2.1.isEmpty) with
          | false =>
            have H1 := Lib.hid (read_bad (k := k) (by have := Hml.out; omega) hk1 Hh.out Hs.out Hp.out (by rw [hend]; rfl))
            have z0 := hbZ.cell 0
            have z1 := hbZ.cell 1
            have z2 := hbZ.cell 2
            have z3 := hbZ.cell 3
            have z4 := hbZ.cell 4
            have z5 := hbZ.cell 5
            simp only [List.getElem?_toArray, List.getElem?_cons_zero, List.getElem?_cons_succ] at z0 z1 z2 z3 z4 z5
            have f0 := hbZ.frozen 0
            have f1 := hbZ.frozen 1
            have f2 := hbZ.frozen 2
            have f3 := hbZ.frozen 3
            have f4 := hbZ.frozen 4
            have f5 := hbZ.frozen 5
            go_wp2_with fail
            clear z0 z1 z2 z3 z4 z5 f0 f1 f2 f3 f4 f5
            have hbE := hbZ.put6 (.int .i64 0) (.int .i64 0) (.int .i64 0) (.int .i64 0) (.int .i64 0) (.slice none 0 0)
            have hE := chg6 w10 w.heap.size (.int .i64 0) (.int .i64 0) (.int .i64 0) (.int .i64 0) (.int .i64 0) (.slice none 0 0)
            have r0 := hbE.cell 0
            have r1 := hbE.cell 1
            have r2 := hbE.cell 2
            have r3 := hbE.cell 3
            have r4 := hbE.cell 4
            have r5 := hbE.cell 5
            simp only [List.getElem?_toArray, List.getElem?_cons_zero, List.getElem?_cons_succ] at r0 r1 r2 r3 r4 r5
            have hCE := hC.trans2 hE (fun b e => .inr (by have e : b = w.heap.size := e; omega))
            exact bodyPost_ret (v := .tuple #[.agg #[.int .i64 0, .int .i64 0, .int .i64 0, .int .i64 0, .int .i64 0, .slice none 0 0], .int .i64 4]) (by simp [results, Try.results12, go_sem, r0, r1, r2, r3, r4, r5]) rfl (ReadPost.zero H1 hCE)
          | true =>
            have y0 := hbF.cell 0
            have y1 := hbF.cell 1
            have y2 := hbF.cell 2
            have y3 := hbF.cell 3
            have y4 := hbF.cell 4
            have y5 := hbF.cell 5
            simp only [List.getElem?_toArray, List.getElem?_cons_zero, List.getElem?_cons_succ] at y0 y1 y2 y3 y4 y5
            go_wp2_with fail
            refine (fine_any _ ⟨pa.1, pb.1, pc.1, pd.1, pe.1, pt.1⟩ A9 n9 c9).mono ?_
            rintro e w12 ⟨rfl, hc12⟩
            have hbZ12 := hbZ.non hc12
            have hC12 := hC.non hc12
            have hown12 := hownN.non hc12
            have hbF12 := hbF.non hc12
            clear hc12 hbZ hC hownN hbF hcurN hrN y0 y1 y2 y3 y4 y5
            cases hfine : Fr.fine ⟨pa.1, pb.1, pc.1, pd.1, pe.1, pt.1⟩ with
            | false =>
              have H1 := Lib.hid (read_bad (k := k) (by have := Hml.out; omega) hk1 Hh.out Hs.out Hp.out (by rw [hend, hfine]; rfl))
              have z0 := hbZ12.cell 0
              have z1 := hbZ12.cell 1
              have z2 := hbZ12.cell 2
              have z3 := hbZ12.cell 3
              have z4 := hbZ12.cell 4
              have z5 := hbZ12.cell 5
              simp only [List.getElem?_toArray, List.getElem?_cons_zero, List.getElem?_cons_succ] at z0 z1 z2 z3 z4 z5
              have f0 := hbZ12.frozen 0
              have f1 := hbZ12.frozen 1
              have f2 := hbZ12.frozen 2
              have f3 := hbZ12.frozen 3
              have f4 := hbZ12.frozen 4
              have f5 := hbZ12.frozen 5
              go_wp2_with fail
              clear z0 z1 z2 z3 z4 z5 f0 f1 f2 f3 f4 f5
              have hbE := hbZ12.put6 (.int .i64 0) (.int .i64 0) (.int .i64 0) (.int .i64 0) (.int .i64 0) (.slice none 0 0)
              have hE := chg6 w12 w.heap.size (.int .i64 0) (.int .i64 0) (.int .i64 0) (.int .i64 0) (.int .i64 0) (.slice none 0 0)
              have r0 := hbE.cell 0
              have r1 := hbE.cell 1
              have r2 := hbE.cell 2
              have r3 := hbE.cell 3
              have r4 := hbE.cell 4
              have r5 := hbE.cell 5
              simp only [List.getElem?_toArray, List.getElem?_cons_zero, List.getElem?_cons_succ] at r0 r1 r2 r3 r4 r5
              have hCE := hC12.trans2 hE (fun b e => .inr (by have e : b = w.heap.size := e; omega))
              exact bodyPost_ret (v := .tuple #[.agg #[.int .i64 0, .int .i64 0, .int .i64 0, .int .i64 0, .int .i64 0, .slice none 0 0], .int .i64 4]) (by simp [results, Try.results12, go_sem, r0, r1, r2, r3, r4, r5]) rfl (ReadPost.zero H1 hCE)
            | true =>
              have y0 := hbF12.cell 0
              have y1 := hbF12.cell 1
              have y2 := hbF12.cell 2
              have y3 := hbF12.cell 3
              have y4 := hbF12.cell 4
              have y5 := hbF12.cell 5
              simp only [List.getElem?_toArray, List.getElem?_cons_zero, List.getElem?_cons_succ] at y0 y1 y2 y3 y4 y5
              by_cases hlong : 4096 < n9
              · have H1 := Lib.hid (read_bad (k := k) (by have := Hml.out; omega) hk1 Hh.out Hs.out Hp.out (by rw [hend, hfine, decide_eq_false (by have := hn9.out; simp only; omega)]; rfl))
                have z0 := hbZ12.cell 0
                have z1 := hbZ12.cell 1
                have z2 := hbZ12.cell 2
                have z3 := hbZ12.cell 3
                have z4 := hbZ12.cell 4
                have z5 := hbZ12.cell 5
                simp only [List.getElem?_toArray, List.getElem?_cons_zero, List.getElem?_cons_succ] at z0 z1 z2 z3 z4 z5
                have f0 := hbZ12.frozen 0
                have f1 := hbZ12.frozen 1
                have f2 := hbZ12.frozen 2
                have f3 := hbZ12.frozen 3
                have f4 := hbZ12.frozen 4
                have f5 := hbZ12.frozen 5
                go_wp2_with fail
                clear z0 z1 z2 z3 z4 z5 f0 f1 f2 f3 f4 f5
                have hbE := hbZ12.put6 (.int .i64 0) (.int .i64 0) (.int .i64 0) (.int .i64 0) (.int .i64 0) (.slice none 0 0)
                have hE := chg6 w12 w.heap.size (.int .i64 0) (.int .i64 0) (.int .i64 0) (.int .i64 0) (.int .i64 0) (.slice none 0 0)
                have r0 := hbE.cell 0
                have r1 := hbE.cell 1
                have r2 := hbE.cell 2
                have r3 := hbE.cell 3
                have r4 := hbE.cell 4
                have r5 := hbE.cell 5
                simp only [List.getElem?_toArray, List.getElem?_cons_zero, List.getElem?_cons_succ] at r0 r1 r2 r3 r4 r5
                have hCE := hC12.trans2 hE (fun b e => .inr (by have e : b = w.heap.size := e; omega))
                exact bodyPost_ret (v := .tuple #[.agg #[.int .i64 0, .int .i64 0, .int .i64 0, .int .i64 0, .int .i64 0, .slice none 0 0], .int .i64 4]) (by simp [results, Try.results12, go_sem, r0, r1, r2, r3, r4, r5]) rfl (ReadPost.zero H1 hCE)
              · have H1 := Lib.hid (read_ok (k := k) (by have := Hml.out; omega) hk1 Hh.out Hs.out Hp.out (by rw [hend, hfine, decide_eq_true (by have := hn9.out; simp only; omega)]; rfl))
                have z0 := hbZ12.cell 0
                have z1 := hbZ12.cell 1
                have z2 := hbZ12.cell 2
                have z3 := hbZ12.cell 3
                have z4 := hbZ12.cell 4
                have z5 := hbZ12.cell 5
                simp only [List.getElem?_toArray, List.getElem?_cons_zero, List.getElem?_cons_succ] at z0 z1 z2 z3 z4 z5
                have f0 := hbZ12.frozen 0
                have f1 := hbZ12.frozen 1
                have f2 := hbZ12.frozen 2
                have f3 := hbZ12.frozen 3
                have f4 := hbZ12.frozen 4
                have f5 := hbZ12.frozen 5
                go_wp2_with fail
                clear z0 z1 z2 z3 z4 z5 f0 f1 f2 f3 f4 f5 y0 y1 y2 y3 y4 y5
                have hbE := hbZ12.put6 (.int .i64 pa.1) (.int .i64 pb.1) (.int .i64 pc.1) (.int .i64 pd.1) (.int .i64 pe.1) (.slice A9 n9 c9)
                have hE := chg6 w12 w.heap.size (.int .i64 pa.1) (.int .i64 pb.1) (.int .i64 pc.1) (.int .i64 pd.1) (.int .i64 pe.1) (.slice A9 n9 c9)
                have r0 := hbE.cell 0
                have r1 := hbE.cell 1
                have r2 := hbE.cell 2
                have r3 := hbE.cell 3
                have r4 := hbE.cell 4
                have r5 := hbE.cell 5
                simp only [List.getElem?_toArray, List.getElem?_cons_zero, List.getElem?_cons_succ] at r0 r1 r2 r3 r4 r5
                have hCE := hC12.trans2 hE (fun b e => .inr (by have e : b = w.heap.size := e; omega))
                have hownE := hown12.chg hE (fun b hb e => by have := (World.ownsRow.lt hown12 b hb).1; have e : b = w.heap.size := e; omega)
                exact bodyPost_ret (v := .tuple #[.agg #[.int .i64 pa.1, .int .i64 pb.1, .int .i64 pc.1, .int .i64 pd.1, .int .i64 pe.1, .slice A9 n9 c9], .int .i64 0]) (by simp [results, Try.results12, go_sem, r0, r1, r2, r3, r4, r5]) rfl ⟨A9, n9, c9, by rw [H1.out.1, H1.out.2], by rw [H1.out.2]; exact own_mono hownE (Nat.le_of_lt hltP), hCE⟩
    · have hh : L.head? ≠ some 70 := by
        rw [List.head?_eq_getElem?, hx]
        intro e
        cases e
        exact h70 rfl
      have H1 := Lib.hid (read_mark hh)
      have hne : ((x.toNat : Int) != 70) = true := by rw [bne_iff_ne]; omega
      subst hA
      have hC1 : Chg Non w (w.alloc (.cells #[.int .i64 0, .int .i64 0, .int .i64 0, .int .i64 0, .int .i64 0, .slice none 0 0] 24)) := (Chg.refl _ _).alloc _
      have hcell3 := hC1.cell hcell id
      clear hh hx hr hml h70
      go_enter Try.func12, Try.ntmps12
      go_wp2_with fail
      exact bodyPost_ret (v := .tuple #[.agg #[.int .i64 0, .int .i64 0, .int .i64 0, .int .i64 0, .int .i64 0, .slice none 0 0], .int .i64 4]) (by simp [results, Try.results12, go_sem]) rfl (ReadPost.zero H1 ((Chg.refl _ _).alloc _))
end Go.Proofs.Ytdllocgonjbmlaa
