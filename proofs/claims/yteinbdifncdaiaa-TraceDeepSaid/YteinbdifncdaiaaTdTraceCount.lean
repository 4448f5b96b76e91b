/-
  gleanerref14.count, gleanerref14.Same.
  gleanerref14.Same; gleanerlaw29.big over no entries.
-/
import Derived.Test.YteinbdifncdaiaaTdTraceSorted
namespace Go.Proofs.Yteinbdifncdaiaa
open Go.RowKit
set_option linter.unusedVariables false
set_option linter.unusedSimpArgs false

theorem refSameRes_any (a b c d : Int) (w : World) :
    Calls Try.prog 31 #[.agg #[.int .i64 a, .int .i64 b], .agg #[.int .i64 c, .int .i64 d]] w fun e w2 => e = .returned (.bool (decide (a = c) && decide (b = d))) ∧ Chg Non w w2 := by
  have hC : Chg Non w ((w.alloc (.cells #[.int .i64 a, .int .i64 b] 30)).alloc (.cells #[.int .i64 c, .int .i64 d] 30)) := ((Chg.refl _ _).alloc _).alloc _
  by_cases h1 : a = c
  · subst h1
    by_cases h2 : b = d
    · subst h2
      go_enter Try.func31, Try.ntmps31
      go_wp2_with fail
      go_ret
      exact ⟨by simp, hC⟩
    · have e2 : (b == d) = false := beq_eq_false_iff_ne.2 h2
      have H2 := Lib.hid h2
      clear h2
      go_enter Try.func31, Try.ntmps31
      go_wp2_with fail
      go_ret
      exact ⟨by simp [H2.out], hC⟩
  · have e1 : (a == c) = false := beq_eq_false_iff_ne.2 h1
    have H1 := Lib.hid h1
    clear h1
    go_enter Try.func31, Try.ntmps31
    go_wp2_with fail
    go_ret
    exact ⟨by simp [H1.out], hC⟩


set_option maxRecDepth 100000 in
set_option maxHeartbeats 2000000 in
theorem count_any (w : World) (A : Option Addr) (n c : Nat) (L : List Cm) (s : ByteArray) (xe xv : Int) (hr : Rds w 3 A n (cv L)) (hn : n ≤ 1000000) :
    Calls Try.prog 27 #[.slice A n c, .agg #[.string s, .int .i64 xe, .int .i64 xv]] w fun e w2 => e = .returned (.int .i64 ((cntC L (s, xe, xv) : Nat) : Int)) ∧ Chg Non w w2 := by
  obtain ⟨w1, hw1⟩ : ∃ w1, w.alloc (.cells #[.string s, .int .i64 xe, .int .i64 xv] 34) = w1 := ⟨_, rfl⟩
  have hC1 : Chg Non w w1 := hw1 ▸ (Chg.refl _ _).alloc _
  have hb : Blk w1 w.heap.size 34 #[.string s, .int .i64 xe, .int .i64 xv] := hw1 ▸ Blk.new _ _ _
  have Hl := Lib.hid (flat_eq cellC_len (by decide) hr)
  have Hr := Lib.hid (hr.non hC1)
  have hcl := fun k => cntC_le (L.take k) (s, xe, xv)
  have htl := fun k => List.length_take_le k L
  clear hr
  go_enter Try.func27, Try.ntmps27
  go_wp2_with fail
  try rw [hw1]
  clear hw1
  go_loopw [5, 6] (fun q i wr => ∃ k : Nat, k ≤ n ∧ i = .int .i64 k ∧ q = .int .i64 ((cntC (L.take k) (s, xe, xv) : Nat) : Int) ∧ Chg Non w1 wr) (fun _ i _ => n - (intOf i).toNat)
  case atStart => exact ⟨0, Nat.zero_le _, rfl, rfl, Chg.refl _ _⟩
  case round =>
    obtain ⟨k, hk, rfl, rfl, hC⟩ := hrel
    have hck : cntC (L.take k) (s, xe, xv) ≤ 1000000 := Nat.le_trans (hcl k) (Nat.le_trans (htl k) (by omega))
    by_cases hlt : k < n
    · obtain ⟨ad, ⟨a, b, e⟩, rfl, hx, hc0, hc⟩ := Hr.out.getN cellC_len (by decide) hlt
      have z0 : wr.cell? (ad.add (k * 3)) = some (.string a) := hC.cell (hc0 _ rfl) _root_.id
      have z1 : wr.cell? ⟨(ad.add (k * 3)).block, (ad.add (k * 3)).off + 1, none⟩ = some (.int .i64 b) := hC.cell (hc 0 _ rfl) _root_.id
      have z2 : wr.cell? ⟨(ad.add (k * 3)).block, (ad.add (k * 3)).off + 2, none⟩ = some (.int .i64 e) := hC.cell (hc 1 _ rfl) _root_.id
      have hbr := hb.non hC
      have x0 : ∀ w2, Chg Non wr w2 → w2.cell? (ad.add (k * 3)) = some (.string a) := fun w2 h => h.cell z0 _root_.id
      have x1 : ∀ w2, Chg Non wr w2 → w2.cell? ⟨(ad.add (k * 3)).block, (ad.add (k * 3)).off + 1, none⟩ = some (.int .i64 b) := fun w2 h => h.cell z1 _root_.id
      have x2 : ∀ w2, Chg Non wr w2 → w2.cell? ⟨(ad.add (k * 3)).block, (ad.add (k * 3)).off + 2, none⟩ = some (.int .i64 e) := fun w2 h => h.cell z2 _root_.id
      have y0 : ∀ w2, Chg Non wr w2 → w2.cell? ⟨w.heap.size, 0, none⟩ = some (.string s) := fun w2 h => h.cell (hbr.cell 0) _root_.id
      have y1 : ∀ w2, Chg Non wr w2 → w2.cell? ⟨w.heap.size, 1, none⟩ = some (.int .i64 xe) := fun w2 h => h.cell (hbr.cell 1) _root_.id
      have y2 : ∀ w2, Chg Non wr w2 → w2.cell? ⟨w.heap.size, 2, none⟩ = some (.int .i64 xv) := fun w2 h => h.cell (hbr.cell 2) _root_.id
      have i1 : (0 : Int) ≤ (k : Int) := by omega
      have i2 : (k : Int) < n := by omega
      have hst := cntC_step (x := (s, xe, xv)) hx
      clear z0 z1 z2 hbr hc0 hc hx
      by_cases hid : a = s
      · subst hid
        have hst2 : cntC (L.take (k + 1)) (a, xe, xv) = cntC (L.take k) (a, xe, xv) + (if (decide (b = xe) && decide (e = xv)) = true then 1 else 0) := by
          rw [hst]
          by_cases h1 : b = xe <;> by_cases h2 : e = xv <;> simp [h1, h2]
        have hsr := fun w2 => refSameRes_any b e xe xv w2
        obtain ⟨r, hrr⟩ : ∃ r, (decide (b = xe) && decide (e = xv)) = r := ⟨_, rfl⟩
        rw [hrr] at hst2
        simp only [hrr] at hsr
        have Hsr := Lib.hid hsr
        have Hst := Lib.hid hst2
        clear hst hst2 hrr hsr
        go_wp2_with fail
        refine st_region 12 Non [16] [] (fun _ _ _ _ => True) (fun _ _ _ _ => True) (fun _ _ v => v = .bool r) (fun _ => True) (by kernel_rfl) (by kernel_rfl) (fun _ h => h.elim) trivial (fun _ _ _ => trivial) ?_
        repeat (first | (refine st_pass (by rfl) ?_; simp only [Act.put, List.setIfInBounds_toArray, List.set_cons_succ, List.set_cons_zero]) | (refine st_plain (Non) (wr) rfl rfl (f := ?_) (by rfl) rfl rfl (fun w hC hG => ?_) ?_; rotate_left; (clear hG; first | (go_simp; done) | (go_simp; with_reducible rfl) | (simp [*, go_sem, ↓IntWalk.iteOmega]; done) | (simp [*, go_sem, ↓IntWalk.iteOmega]; with_reducible rfl)); simp only [Act.put, List.setIfInBounds_toArray, List.set_cons_succ, List.set_cons_zero]))
        refine st_major (Non) (wr) rfl rfl (by rfl) rfl (⟨.bool r, rfl⟩) (fun _ _ _ _ _ _ => trivial) (fun _ _ _ _ => trivial) (fun w hC hG hS => settle_of (r2 := ?_) ?_ ?_) ?_
        rotate_left
        (first | (go_simp; done) | (go_simp; rfl))
        · refine settle_enter ((Hsr.out _).mono ?_)
          rintro e w6 ⟨rfl, hc6⟩
          exact ⟨_, rfl, rfl, hc6, trivial, trivial⟩
        rintro v4 hv4
        obtain rfl : v4 = .bool r := hv4
        simp only [Act.put, List.setIfInBounds_toArray, List.set_cons_succ, List.set_cons_zero]
        repeat (first | (refine st_pass (by rfl) ?_; simp only [Act.put, List.setIfInBounds_toArray, List.set_cons_succ, List.set_cons_zero]) | (refine st_plain (Non) (wr) rfl rfl (f := ?_) (by rfl) rfl rfl (fun w hC hG => ?_) ?_; rotate_left; (clear hG; first | (go_simp; done) | (go_simp; with_reducible rfl) | (simp [*, go_sem, ↓IntWalk.iteOmega]; done) | (simp [*, go_sem, ↓IntWalk.iteOmega]; with_reducible rfl)); simp only [Act.put, List.setIfInBounds_toArray, List.set_cons_succ, List.set_cons_zero]))
        refine st_end Non wr rfl rfl (fun w6 hC6 hS6 hG => ?_)
        have hC7 := hC.non hC6
        clear hG hS6 hC6 x0 x1 x2 y0 y1 y2 hC
        cases r with
        | true =>
          have hst3 : Hid (cntC (L.take (k + 1)) (a, xe, xv) = cntC (L.take k) (a, xe, xv) + 1) := Hst.out
          go_wp2_with fail
          go_roundw
          case rel => exact ⟨k + 1, by omega, by go_num, by rw [hst3.out]; go_num, hC7⟩
          case measure => simp [intOf]; omega
        | false =>
          have hst3 : Hid (cntC (L.take (k + 1)) (a, xe, xv) = cntC (L.take k) (a, xe, xv)) := Hst.out
          go_wp2_with fail
          go_roundw
          case rel => exact ⟨k + 1, by omega, by go_num, by rw [hst3.out], hC7⟩
          case measure => simp [intOf]; omega
      · have hst3 : Hid (cntC (L.take (k + 1)) (s, xe, xv) = cntC (L.take k) (s, xe, xv)) := by
          show _ = _
          rw [hst, if_neg (fun h => hid (congrArg Prod.fst h))]
          rfl
        have hne := str_ne hid
        have z0 := x0 wr (Chg.refl _ _)
        have u0 := y0 wr (Chg.refl _ _)
        clear hst hid x0 x1 x2 y0 y1 y2
        go_wp2_with fail
        go_quiet (fail)
        have hC7 := hC.drewN nq
        clear z0 u0 hC
        go_wp2_with fail
        go_roundw
        case rel => exact ⟨k + 1, by omega, by go_num, by rw [hst3.out], hC7⟩
        case measure => simp [intOf]; omega
    · obtain rfl : k = n := by omega
      have hLk : Hid (L.take k = L) := List.take_of_length_le (by have := Hl.out; omega)
      go_wp2_with fail
      go_ret
      exact ⟨by rw [hLk.out]; rfl, hC1.non hC⟩

open Classical in
set_option maxRecDepth 100000 in
set_option maxHeartbeats 2000000 in
theorem refSameC_any (w : World) (A : Option Addr) (n c : Nat) (B : Option Addr) (m d : Nat) (L1 L2 : List Cm) (h1 : Rds w 3 A n (cv L1)) (h2 : Rds w 3 B m (cv L2)) (hn : n ≤ 1000000) (hm : m ≤ 1000000) :
    Calls Try.prog 16 #[.slice A n c, .slice B m d] w fun e w2 => e = .returned (.bool (decide (L1.Perm L2))) ∧ Chg Non w w2 := by
  have Hl1 := Lib.hid (flat_eq cellC_len (by decide) h1)
  have Hl2 := Lib.hid (flat_eq cellC_len (by decide) h2)
  have H1 := Lib.hid h1
  have H2 := Lib.hid h2
  clear h1 h2
  by_cases hnm : n = m
  · subst hnm
    go_enter Try.func16, Try.ntmps16
    go_wp2_with fail
    go_loopw [5] (fun i wr => ∃ k : Nat, k ≤ n ∧ i = .int .i64 k ∧ Hid (∀ y ∈ L1.take k, cntC L1 y = cntC L2 y) ∧ Chg Non w wr) (fun i _ => n - (intOf i).toNat)
    case atStart => exact ⟨0, Nat.zero_le _, rfl, (fun y hy => by simp at hy), Chg.refl _ _⟩
    case round =>
      obtain ⟨k, hk, rfl, hs, hC⟩ := hrel
      by_cases hlt : k < n
      · obtain ⟨ad, ⟨a, b, e⟩, rfl, hx, hc0, hc⟩ := H1.out.getN cellC_len (by decide) hlt
        have z0 : wr.cell? (ad.add (k * 3)) = some (.string a) := hC.cell (hc0 _ rfl) _root_.id
        have z1 : wr.cell? ⟨(ad.add (k * 3)).block, (ad.add (k * 3)).off + 1, none⟩ = some (.int .i64 b) := hC.cell (hc 0 _ rfl) _root_.id
        have z2 : wr.cell? ⟨(ad.add (k * 3)).block, (ad.add (k * 3)).off + 2, none⟩ = some (.int .i64 e) := hC.cell (hc 1 _ rfl) _root_.id
        have x0 : ∀ w2, Chg Non wr w2 → w2.cell? (ad.add (k * 3)) = some (.string a) := fun w2 h => h.cell z0 _root_.id
        have x1 : ∀ w2, Chg Non wr w2 → w2.cell? ⟨(ad.add (k * 3)).block, (ad.add (k * 3)).off + 1, none⟩ = some (.int .i64 b) := fun w2 h => h.cell z1 _root_.id
        have x2 : ∀ w2, Chg Non wr w2 → w2.cell? ⟨(ad.add (k * 3)).block, (ad.add (k * 3)).off + 2, none⟩ = some (.int .i64 e) := fun w2 h => h.cell z2 _root_.id
        have i1 : (0 : Int) ≤ (k : Int) := by omega
        have i2 : (k : Int) < n := by omega
        have q1 := fun w2 (h : Chg Non wr w2) => count_any w2 (some ad) n c L1 a b e (H1.out.non (hC.non h)) hn
        have q2 := fun w2 (h : Chg Non wr w2) => count_any w2 B n d L2 a b e (H2.out.non (hC.non h)) hn
        have hyes : cntC L1 (a, b, e) = cntC L2 (a, b, e) → Hid (∀ y ∈ L1.take (k + 1), cntC L1 y = cntC L2 y) := by
          intro h y hy
          rw [List.take_add_one, hx] at hy
          rcases List.mem_append.1 hy with hy | hy
          · exact hs.out y hy
          · have e9 : y = (a, b, e) := by simpa using hy
            rw [e9]; exact h
        have hno : cntC L1 (a, b, e) ≠ cntC L2 (a, b, e) → Hid (decide (L1.Perm L2) = false) := fun h => decide_eq_false (fun hp => h (cntC_perm hp _))
        obtain ⟨c1, hc1⟩ : ∃ c1, cntC L1 (a, b, e) = c1 := ⟨_, rfl⟩
        obtain ⟨c2, hc2⟩ : ∃ c2, cntC L2 (a, b, e) = c2 := ⟨_, rfl⟩
        rw [hc1, hc2] at hyes hno
        simp only [hc1] at q1
        simp only [hc2] at q2
        have Q1 := Lib.hid q1
        have Q2 := Lib.hid q2
        have Hyes := Lib.hid hyes
        have Hno := Lib.hid hno
        clear z0 z1 z2 hc0 hc hx q1 q2 hyes hno hc1 hc2 hs
        go_wp2_with fail
        refine st_region 12 Non [5, 11] [] (fun _ _ _ _ => True) (fun _ _ _ _ => True) (fun i _ v => v = .int .i64 ((if i = 5 then c1 else c2 : Nat) : Int)) (fun _ => True) (by kernel_rfl) (by kernel_rfl) (fun _ h => h.elim) trivial (fun _ _ _ => trivial) ?_
        repeat (first | (refine st_pass (by rfl) ?_; simp only [Act.put, List.setIfInBounds_toArray, List.set_cons_succ, List.set_cons_zero]) | (refine st_plain (Non) (wr) rfl rfl (f := ?_) (by rfl) rfl rfl (fun w hC hG => ?_) ?_; rotate_left; (clear hG; first | (go_simp; done) | (go_simp; with_reducible rfl) | (simp [*, go_sem, ↓IntWalk.iteOmega]; done) | (simp [*, go_sem, ↓IntWalk.iteOmega]; with_reducible rfl)); simp only [Act.put, List.setIfInBounds_toArray, List.set_cons_succ, List.set_cons_zero]))
        refine st_major (Non) (wr) rfl rfl (by rfl) rfl (⟨.int .i64 (c1 : Int), rfl⟩) (fun _ _ _ _ _ _ => trivial) (fun _ _ _ _ => trivial) (fun w hC hG hS => settle_of (r2 := ?_) ?_ ?_) ?_
        rotate_left
        (first | (go_simp; done) | (go_simp; rfl))
        · refine settle_enter ((Q1.out _ hC).mono ?_)
          rintro e w6 ⟨rfl, hc6⟩
          exact ⟨_, rfl, rfl, hc6, trivial, trivial⟩
        rintro v4 hv4
        obtain rfl : v4 = .int .i64 (c1 : Int) := hv4
        simp only [Act.put, List.setIfInBounds_toArray, List.set_cons_succ, List.set_cons_zero]
        repeat (first | (refine st_pass (by rfl) ?_; simp only [Act.put, List.setIfInBounds_toArray, List.set_cons_succ, List.set_cons_zero]) | (refine st_plain (Non) (wr) rfl rfl (f := ?_) (by rfl) rfl rfl (fun w hC hG => ?_) ?_; rotate_left; (clear hG; first | (go_simp; done) | (go_simp; with_reducible rfl) | (simp [*, go_sem, ↓IntWalk.iteOmega]; done) | (simp [*, go_sem, ↓IntWalk.iteOmega]; with_reducible rfl)); simp only [Act.put, List.setIfInBounds_toArray, List.set_cons_succ, List.set_cons_zero]))
        refine st_major (Non) (wr) rfl rfl (by rfl) rfl (⟨.int .i64 (c2 : Int), rfl⟩) (fun _ _ _ _ _ _ => trivial) (fun _ _ _ _ => trivial) (fun w hC hG hS => settle_of (r2 := ?_) ?_ ?_) ?_
        rotate_left
        (first | (go_simp; done) | (go_simp; rfl))
        · refine settle_enter ((Q2.out _ hC).mono ?_)
          rintro e w6 ⟨rfl, hc6⟩
          exact ⟨_, rfl, rfl, hc6, trivial, trivial⟩
        rintro v4 hv4
        obtain rfl : v4 = .int .i64 (c2 : Int) := hv4
        simp only [Act.put, List.setIfInBounds_toArray, List.set_cons_succ, List.set_cons_zero]
        by_cases h12 : c1 = c2
        · have hs2 := Hyes.out h12
          subst h12
          repeat (first | (refine st_pass (by rfl) ?_; simp only [Act.put, List.setIfInBounds_toArray, List.set_cons_succ, List.set_cons_zero]) | (refine st_plain (Non) (wr) rfl rfl (f := ?_) (by rfl) rfl rfl (fun w hC hG => ?_) ?_; rotate_left; (clear hG; first | (go_simp; done) | (go_simp; with_reducible rfl) | (simp [*, go_sem, ↓IntWalk.iteOmega]; done) | (simp [*, go_sem, ↓IntWalk.iteOmega]; with_reducible rfl)); simp only [Act.put, List.setIfInBounds_toArray, List.set_cons_succ, List.set_cons_zero]))
          refine st_end Non wr rfl rfl (fun w6 hC6 hS6 hG => ?_)
          have hC7 := hC.non hC6
          clear hG hS6 hC6 x0 x1 x2
          go_wp2_with fail
          go_roundw
          case rel => exact ⟨k + 1, by omega, by go_num, hs2, hC7⟩
          case measure => simp [intOf]; omega
        · have hno := Hno.out h12
          have hne : ((c1 : Int) != (c2 : Int)) = true := by rw [bne_iff_ne]; omega
          clear h12
          repeat (first | (refine st_pass (by rfl) ?_; simp only [Act.put, List.setIfInBounds_toArray, List.set_cons_succ, List.set_cons_zero]) | (refine st_plain (Non) (wr) rfl rfl (f := ?_) (by rfl) rfl rfl (fun w hC hG => ?_) ?_; rotate_left; (clear hG; first | (go_simp; done) | (go_simp; with_reducible rfl) | (simp [*, go_sem, ↓IntWalk.iteOmega]; done) | (simp [*, go_sem, ↓IntWalk.iteOmega]; with_reducible rfl)); simp only [Act.put, List.setIfInBounds_toArray, List.set_cons_succ, List.set_cons_zero]))
          refine st_end Non wr rfl rfl (fun w6 hC6 hS6 hG => ?_)
          have hC7 := hC.non hC6
          clear hG hS6 hC6 x0 x1 x2
          go_wp2_with fail
          go_ret
          exact ⟨by rw [hno.out]; rfl, hC7⟩
      · obtain rfl : k = n := by omega
        have hyes : Hid (decide (L1.Perm L2) = true) := decide_eq_true (perm_of_counts L1 L2 (by rw [← Hl1.out, ← Hl2.out]) (fun y hy => hs.out y (by rw [List.take_of_length_le (by have := Hl1.out; omega)]; exact hy)))
        go_wp2_with fail
        go_ret
        exact ⟨by rw [hyes.out]; rfl, hC⟩
  · have hno : Hid (decide (L1.Perm L2) = false) := decide_eq_false (fun hp => hnm (by rw [Hl1.out, Hl2.out, hp.length_eq]))
    have hne : ((n : Int) != (m : Int)) = true := by rw [bne_iff_ne]; omega
    clear hnm
    go_enter Try.func16, Try.ntmps16
    go_wp2_with fail
    go_ret
    exact ⟨by rw [hno.out]; rfl, Chg.refl _ _⟩
set_option maxRecDepth 100000 in
set_option maxHeartbeats 2000000 in
theorem bigC_any (w : World) (A : Option Addr) (n c : Nat) (L : List Cm) (h1 : Rds w 3 A n (cv L)) (hn9 : n ≤ maxLen) :
    Calls Try.prog 14 #[.slice none 0 0, .slice A n c] w fun e w2 => ∃ x, e = .returned (.bool x) ∧ (x = false → n ≤ 100) ∧ Chg Non w w2 := by
  have H1 := Lib.hid h1
  unfold maxLen at hn9
  clear h1
  by_cases hn : 100 < n
  · go_enter Try.func14, Try.ntmps14
    go_wp2_with fail
    go_ret
    exact ⟨true, rfl, (fun h => by cases h), Chg.refl _ _⟩
  · have hn2 : n ≤ 100 := by omega
    clear hn
    go_enter Try.func14, Try.ntmps14
    go_wp2_with fail
    go_loopw [5] (fun i wr => i = .int .i64 0 ∧ Chg Non w wr) (fun _ _ => 0)
    case atStart => exact ⟨rfl, Chg.refl _ _⟩
    case round =>
      obtain ⟨rfl, hC⟩ := hrel
      go_wp2_with fail
      go_loopw [6] (fun i wr => ∃ k : Nat, k ≤ n ∧ i = .int .i64 k ∧ Chg Non w wr) (fun i _ => n - (intOf i).toNat)
      case atStart => exact ⟨0, Nat.zero_le _, rfl, hC⟩
      case round =>
        clear hC
        obtain ⟨k, hk, rfl, hC⟩ := hrel
        by_cases hlt : k < n
        · obtain ⟨ad, ⟨a, b, e⟩, rfl, hx, hc0, hc⟩ := H1.out.getN cellC_len (by decide) hlt
          have z0 : wr.cell? (ad.add (k * 3)) = some (.string a) := hC.cell (hc0 _ rfl) _root_.id
          have i1 : (0 : Int) ≤ (k : Int) := by omega
          have i2 : (k : Int) < n := by omega
          clear hx hc0 hc
          by_cases hs : 100 < a.size
          · go_wp2_with fail
            go_ret
            exact ⟨true, rfl, (fun h => by cases h), hC⟩
          · go_wp2_with fail
            go_roundw
            case rel => exact ⟨k + 1, by omega, by go_num, hC⟩
            case measure => simp [intOf]; omega
        · go_wp2_with fail
          go_ret
          exact ⟨false, rfl, fun _ => hn2, hC⟩
end Go.Proofs.Yteinbdifncdaiaa
