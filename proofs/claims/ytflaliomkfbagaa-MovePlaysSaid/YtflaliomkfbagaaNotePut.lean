/-
  note.put.
-/
import Derived.Test.YtflaliomkfbagaaNoteClear
import Derived.Lib.ConvBytes
namespace Go.Proofs.Ytflaliomkfbagaa
open Go.RowKit
set_option linter.unusedVariables false
set_option linter.unusedSimpArgs false

theorem Txts.one {w : World} {g : Nat} {t : TypeId} {B : Option Addr} {m c : Nat} {L : List UInt8} (h : Blk w g t #[.slice B m c]) (hm : m ≤ c) (hc : c ≤ maxLen) (hr : Rds w 1 B m (bv L)) : Txts w (some ⟨g, 0, none⟩) 1 [L] := by
  refine ⟨rfl, fun k M hk => ?_⟩
  cases k with
  | zero =>
    simp at hk
    subst hk
    exact ⟨⟨g, 0, none⟩, B, m, c, rfl, h.cell 0, hm, hc, hr⟩
  | succ k => simp at hk

/-- '[]byte(s)'. -/
theorem run_bytes_of (w : World) (s : ByteArray) (hs : s.size ≤ maxLen) : ∃ w2 c, (convert 33 34 (.string s)).run Try.prog w = .ok (.slice (some ⟨w.heap.size, 0, none⟩) s.size c) w2 ∧ s.size ≤ c ∧ c ≤ maxLen ∧ Rds w2 1 (some ⟨w.heap.size, 0, none⟩) s.size (bv (idL s)) ∧ Chg Non w w2 := by
  refine ⟨_, _, Lib.run_convert_string_bytes w 33 34 5 s Try.underlying33 Try.underlying34 Try.underlying5, grownCap_ge _ _ _ _, grownCap_le_maxLen _ _ _ _ hs, ?_, ?_⟩
  · have hl : (idL s).length = s.size := by unfold idL; rw [Array.length_toList]; rfl
    refine ⟨by rw [bv_len, hl]; omega, fun _ => ⟨_, rfl, fun k u hu => ?_⟩⟩
    rw [bv_get] at hu
    cases hk : (idL s)[k]? with
    | none => rw [hk] at hu; cases hu
    | some x =>
      rw [hk] at hu
      simp only [Option.map_some, Option.some.injEq] at hu
      subst hu
      have hkl := (List.getElem?_eq_some_iff.1 hk).1
      have h := Lib.bytesWorld_cell w 5 s k (by omega)
      have e : (⟨w.heap.size, 0, none⟩ : Addr).add k = ⟨w.heap.size, k, none⟩ := by unfold Addr.add; simp; omega
      rw [e, h]
      have hd : s.data.toList.getD k 0 = x := by rw [List.getD_eq_getElem?_getD]; unfold idL at hk; rw [hk]; rfl
      rw [hd]
  · exact ⟨rfl, rfl, rfl, by rw [Lib.bytesWorld_size]; omega, fun k hk _ => Lib.bytesWorld_at_old w _ s k hk⟩

set_option maxRecDepth 100000 in
set_option maxHeartbeats 2000000 in
theorem put_any (w : World) (A0 : Option Addr) (n0 c0 : Nat) (L : List UInt8) (hrL : Rds w 1 A0 n0 (bv L)) (hL : L.length ≤ 1000000) (n : Nt) (A : Option Addr) (k c : Nat) (B : Option Addr) (m d : Nat) (h : NtAt w n A k c B m d) (hmay : n.may = true) (p : Int) (hp : p = 0 ∨ p = 1 ∨ p = 2 ∨ p = 3 ∨ p = 4 ∨ p = 5 ∨ p = 6) :
    Calls Try.prog 59 #[.slice A0 n0 c0, .agg (NtC n A k c B m d), .int .i64 p] w fun e w2 => ∃ v, e = .returned v ∧ Own8 w2 w.heap.size v (L ++ putP n p) ∧ Chg Non w w2 := by
  obtain ⟨w1, hw1⟩ : ∃ w1, w.alloc (.cells (NtC n A k c B m d) 59) = w1 := ⟨_, rfl⟩
  have hC1 : Chg Non w w1 := hw1 ▸ (Chg.refl _ _).alloc _
  have hb1 : Blk w1 w.heap.size 59 (NtC n A k c B m d) := hw1 ▸ Blk.new _ _ _
  have hrL1 := hrL.non hC1
  have h1 := h.non hC1
  have hs1 := hC1.size
  unfold NtC at hw1
  rcases hp with rfl | rfl | rfl | rfl | rfl | rfl | rfl
  · have x3 := hb1.cell 3
    simp only [NtC, List.getElem?_toArray, List.getElem?_cons_zero, List.getElem?_cons_succ] at x3
    go_enter Try.func59, Try.ntmps59
    go_wp2_with fail
    have hc2 : Chg Non w1 (w1.alloc (.cells #[.int .i64 n.epoch] 3)) := (Chg.refl _ _).alloc _
    refine (packInt_any _ _ _ L _ 1 1 [n.epoch] _ (hrL1.non hc2) (rds1 _ _) (by simpa using h.ok.epoch) (by simp; omega)).mono ?_
    rintro e w3 ⟨v3, rfl, hown, hc3⟩
    have ha := own_mono hown (Nat.le_trans hs1 hc2.size)
    have hC3 := (hC1.non hc2).non hc3
    clear hw1 hown hc2 hc3
    go_wp2_with fail
    go_ret
    refine ⟨_, rfl, ?_, hC3⟩
    rw [show putP n 0 = nums [n.epoch] from by simp [putP, nums]]
    exact ha
  · have x2 := hb1.cell 2
    simp only [NtC, List.getElem?_toArray, List.getElem?_cons_zero, List.getElem?_cons_succ] at x2
    go_enter Try.func59, Try.ntmps59
    go_wp2_with fail
    have hc2 : Chg Non w1 (w1.alloc (.cells #[.int .i64 n.life] 3)) := (Chg.refl _ _).alloc _
    refine (packInt_any _ _ _ L _ 1 1 [n.life] _ (hrL1.non hc2) (rds1 _ _) (by simpa using h.ok.life) (by simp; omega)).mono ?_
    rintro e w3 ⟨v3, rfl, hown, hc3⟩
    have ha := own_mono hown (Nat.le_trans hs1 hc2.size)
    have hC3 := (hC1.non hc2).non hc3
    clear hw1 hown hc2 hc3
    go_wp2_with fail
    go_ret
    refine ⟨_, rfl, ?_, hC3⟩
    rw [show putP n 1 = nums [n.life] from by simp [putP, nums]]
    exact ha
  · have x1 := hb1.cell 1
    simp only [NtC, List.getElem?_toArray, List.getElem?_cons_zero, List.getElem?_cons_succ] at x1
    go_enter Try.func59, Try.ntmps59
    go_wp2_with fail
    have hc2 : Chg Non w1 (w1.alloc (.cells #[.int .i64 n.node] 3)) := (Chg.refl _ _).alloc _
    refine (packInt_any _ _ _ L _ 1 1 [n.node] _ (hrL1.non hc2) (rds1 _ _) (by simpa using h.ok.node) (by simp; omega)).mono ?_
    rintro e w3 ⟨v3, rfl, hown, hc3⟩
    have ha := own_mono hown (Nat.le_trans hs1 hc2.size)
    have hC3 := (hC1.non hc2).non hc3
    clear hw1 hown hc2 hc3
    go_wp2_with fail
    go_ret
    refine ⟨_, rfl, ?_, hC3⟩
    rw [show putP n 2 = nums [n.node] from by simp [putP, nums]]
    exact ha
  · have x4 := hb1.cell 4
    simp only [NtC, List.getElem?_toArray, List.getElem?_cons_zero, List.getElem?_cons_succ] at x4
    obtain ⟨wb, cb, hq, hcb1, hcb2, hrb, hcb⟩ := run_bytes_of w1 n.id h.ok.id
    have hid : n.id.size ≤ 12 := by have hm := hmay; unfold Nt.may at hm; simp only [Bool.and_eq_true] at hm; exact vid_small hm.1.1.1.1.2
    have hidl : (idL n.id).length = n.id.size := by unfold idL; rw [Array.length_toList]; rfl
    have Hid := Lib.hid hidl
    clear hidl
    go_enter Try.func59, Try.ntmps59
    go_wp2_with fail
    have hc2 : Chg Non wb (wb.alloc (.cells #[.slice (some ⟨w1.heap.size, 0, none⟩) n.id.size cb] 34)) := (Chg.refl _ _).alloc _
    have hT := Txts.one (Blk.new wb 34 #[.slice (some ⟨w1.heap.size, 0, none⟩) n.id.size cb]) hcb1 hcb2 (hrb.non hc2)
    refine (packBytes_any _ _ _ L _ _ _ [idL n.id] _ ((hrL1.non hcb).non hc2) hT (by have := (num_len ((idL n.id).length : Int)).2; have := Hid.out; simp [texts, text]; omega)).mono ?_
    rintro e w3 ⟨v3, rfl, hown, hc3⟩
    have ha := own_mono hown (Nat.le_trans hs1 (Nat.le_trans hcb.size hc2.size))
    have hC3 := ((hC1.non hcb).non hc2).non hc3
    clear hw1 hown hc2 hc3 hq hT
    go_wp2_with fail
    go_ret
    refine ⟨_, rfl, ?_, hC3⟩
    rw [show putP n 3 = texts [idL n.id] from by simp [putP, texts]]
    exact ha
  · have x5 := hb1.cell 5
    have x6 := hb1.cell 6
    simp only [NtC, List.getElem?_toArray, List.getElem?_cons_zero, List.getElem?_cons_succ] at x5 x6
    have k5 : ∀ w, Chg Non w1 w → _ := fun w h => h.cell x5 id
    have k6 : ∀ w, Chg Non w1 w → _ := fun w h => h.cell x6 id
    have hk8 : k ≤ 8 ∧ n.args.length = k := by have hm := hmay; unfold Nt.may at hm; simp only [Bool.and_eq_true, decide_eq_true_eq] at hm; have := h.args.lenMap; omega
    have Hk8 := Lib.hid hk8
    have hfn := h.ok.fn
    have hk64 : i64 (k : Int) := by unfold i64; omega
    clear x5 x6 hk8
    go_enter Try.func59, Try.ntmps59
    go_wp2_with fail
    clear hw1
    refine st_region 8 Non [7, 10] [6] (fun _ _ _ _ => True) (fun i _ v w => if i = 7 then Own8 w w1.heap.size v (L ++ (num n.fn ++ num k)) else Own8 w w1.heap.size v (L ++ (num n.fn ++ num k) ++ nums n.args)) (fun _ _ v => ∃ A n c, v = .slice A n c) (fun _ => True) (by kernel_rfl) (by kernel_rfl) (fun _ h => h.elim) trivial (fun _ _ _ => trivial) ?_
    repeat (first | (refine st_pass (by rfl) ?_; simp only [Act.put, List.setIfInBounds_toArray, List.set_cons_succ, List.set_cons_zero]) | (refine st_plain (Non) (w1) rfl rfl (f := ?_) (by rfl) rfl rfl (fun w hC hG => ?_) ?_; rotate_left; (clear hG; first | (go_simp; done) | (go_simp; with_reducible rfl) | (simp [*, go_sem, ↓IntWalk.iteOmega]; done) | (simp [*, go_sem, ↓IntWalk.iteOmega]; with_reducible rfl)); simp only [Act.put, List.setIfInBounds_toArray, List.set_cons_succ, List.set_cons_zero]))
    refine st_minor Non w1 rfl rfl (ob := .cells #[.int .i64 n.fn, .int .i64 (k : Int)] 3) (kd := some (2, 2)) (by rfl) rfl rfl (fun w hC hG => by clear hG; go_simp; rfl) (fun g2 => ?_)
    simp only [Act.put, List.setIfInBounds_toArray, List.set_cons_succ, List.set_cons_zero]
    refine st_major (Non) (w1) rfl rfl (by rfl) rfl (⟨.slice none 0 0, none, 0, 0, rfl⟩) (fun v w w2 _ h2 h => Own8.non h h2) (fun _ _ _ _ => trivial) (fun w hC hG hS => settle_of (r2 := ?_) ?_ ?_) ?_
    rotate_left
    (first | (go_simp; done) | (go_simp; rfl))
    · have hB2 : Rds w 1 (some ⟨g2, 0, none⟩) 2 (iv [n.fn, (k : Int)]) := Rds.block (cs := #[.int .i64 n.fn, .int .i64 (k : Int)]) (show w.heap[g2]? = _ from (hG 6 rfl).2) rfl
      refine settle_enter ((packInt_any _ _ _ L _ _ _ [n.fn, (k : Int)] _ (hrL1.non hC) hB2 (by simpa using ⟨hfn, hk64⟩) (by simp; omega)).mono ?_)
      rintro e w6 ⟨v6, rfl, h8, hc6⟩
      obtain ⟨A6, n6, c6, hv6, _⟩ := h8.open_
      rw [show nums [n.fn, (k : Int)] = num n.fn ++ num k from by simp [nums]] at h8
      exact ⟨v6, rfl, ⟨A6, n6, c6, hv6⟩, hc6, trivial, own_mono h8 hC.size⟩
    · rintro v4 ⟨A6, n6, c6, rfl⟩
      simp only [Act.put, List.setIfInBounds_toArray, List.set_cons_succ, List.set_cons_zero]
      repeat (first | (refine st_pass (by rfl) ?_; simp only [Act.put, List.setIfInBounds_toArray, List.set_cons_succ, List.set_cons_zero]) | (refine st_plain (Non) (w1) rfl rfl (f := ?_) (by rfl) rfl rfl (fun w hC hG => ?_) ?_; rotate_left; (clear hG; first | (go_simp; done) | (go_simp; with_reducible rfl) | (simp [*, go_sem, ↓IntWalk.iteOmega]; done) | (simp [*, go_sem, ↓IntWalk.iteOmega]; with_reducible rfl)); simp only [Act.put, List.setIfInBounds_toArray, List.set_cons_succ, List.set_cons_zero]))
      refine st_major (Non) (w1) rfl rfl (by rfl) rfl (⟨.slice none 0 0, none, 0, 0, rfl⟩) (fun v w w2 _ h2 h => Own8.non h h2) (fun _ _ _ _ => trivial) (fun w hC hG hS => settle_of (r2 := ?_) ?_ ?_) ?_
      rotate_left
      (first | (go_simp; done) | (go_simp; rfl))
      · obtain ⟨A8, n8, c8, e8, _, _, _, hr8⟩ := (show Own8 w w1.heap.size (.slice A6 n6 c6) (L ++ (num n.fn ++ num k)) from hG 7 rfl).open_
        cases e8
        have hl1 := (num_len n.fn).2
        have hl2 := (num_len (k : Int)).2
        refine settle_enter ((packInt_any _ _ _ (L ++ (num n.fn ++ num k)) _ _ _ n.args _ hr8 (h1.args.non hC) h.ok.args (by have := Hk8.out; simp only [List.length_append]; omega)).mono ?_)
        rintro e w6 ⟨v6, rfl, h8, hc6⟩
        obtain ⟨A6, n6, c6, hv6, _⟩ := h8.open_
        exact ⟨v6, rfl, ⟨A6, n6, c6, hv6⟩, hc6, trivial, own_mono h8 hC.size⟩
      · rintro v5 ⟨A7, n7, c7, rfl⟩
        simp only [Act.put, List.setIfInBounds_toArray, List.set_cons_succ, List.set_cons_zero]
        repeat (first | (refine st_pass (by rfl) ?_; simp only [Act.put, List.setIfInBounds_toArray, List.set_cons_succ, List.set_cons_zero]) | (refine st_plain (Non) (w1) rfl rfl (f := ?_) (by rfl) rfl rfl (fun w hC hG => ?_) ?_; rotate_left; (clear hG; first | (go_simp; done) | (go_simp; with_reducible rfl) | (simp [*, go_sem, ↓IntWalk.iteOmega]; done) | (simp [*, go_sem, ↓IntWalk.iteOmega]; with_reducible rfl)); simp only [Act.put, List.setIfInBounds_toArray, List.set_cons_succ, List.set_cons_zero]))
        refine st_end Non w1 rfl rfl (fun w5 hC5 _ hG => ?_)
        have h8 : Own8 w5 w.heap.size (.slice A7 n7 c7) (L ++ (num n.fn ++ num k) ++ nums n.args) := own_mono (show Own8 w5 w1.heap.size (.slice A7 n7 c7) _ from hG 10) hs1
        clear hG k5 k6
        go_wp2_with fail
        go_ret
        refine ⟨_, rfl, ?_, hC1.non hC5⟩
        rw [show L ++ putP n 4 = L ++ (num n.fn ++ num k) ++ nums n.args from by have := Hk8.out.2; simp [putP, this]]
        exact h8
  · have x7 := hb1.cell 7
    have x8 := hb1.cell 8
    simp only [NtC, List.getElem?_toArray, List.getElem?_cons_zero, List.getElem?_cons_succ] at x7 x8
    go_enter Try.func59, Try.ntmps59
    go_wp2_with fail
    have hc2 : Chg Non w1 (w1.alloc (.cells #[.int .i64 n.err, .int .i64 n.val] 3)) := (Chg.refl _ _).alloc _
    refine (packInt_any _ _ _ L _ 2 2 [n.err, n.val] _ (hrL1.non hc2) (rds2 _ _ _) (by simpa using ⟨h.ok.err, h.ok.val⟩) (by simp; omega)).mono ?_
    rintro e w3 ⟨v3, rfl, hown, hc3⟩
    have ha := own_mono hown (Nat.le_trans hs1 hc2.size)
    have hC3 := (hC1.non hc2).non hc3
    clear hw1 hown hc2 hc3
    go_wp2_with fail
    go_ret
    refine ⟨_, rfl, ?_, hC3⟩
    rw [show putP n 5 = nums [n.err, n.val] from by simp [putP, nums]]
    exact ha
  · have x9 := hb1.cell 9
    have x10 := hb1.cell 10
    simp only [NtC, List.getElem?_toArray, List.getElem?_cons_zero, List.getElem?_cons_succ] at x9 x10
    have hm16 : m ≤ 16 ∧ n.mems.length = m := by have hm := hmay; unfold Nt.may viewB at hm; simp only [Bool.and_eq_true, decide_eq_true_eq] at hm; have := h.mems.lenM; omega
    have hm64 : i64 (m : Int) := by unfold i64; omega
    have hl1 := (num_len n.vep).2
    have hl2 := (num_len (m : Int)).2
    have hm17 := hm16.1
    have Hm16 := Lib.hid hm16
    clear hm16
    go_enter Try.func59, Try.ntmps59
    go_wp2_with fail
    have hc2 : Chg Non w1 (w1.alloc (.cells #[.int .i64 n.vep, .int .i64 (m : Int)] 3)) := (Chg.refl _ _).alloc _
    refine (packInt_any _ _ _ L _ 2 2 [n.vep, (m : Int)] _ (hrL1.non hc2) (rds2 _ _ _) (by simpa using ⟨h.ok.vep, hm64⟩) (by simp; omega)).mono ?_
    rintro e w3 ⟨v3, rfl, hown, hc3⟩
    rw [show nums [n.vep, (m : Int)] = num n.vep ++ num m from by simp [nums]] at hown
    have ha := own_mono hown (Nat.le_trans hs1 hc2.size)
    have hC3 := (hC1.non hc2).non hc3
    have hb3 := (hb1.non hc2).non hc3
    clear hw1 hown hc2 hc3 x9 x10
    obtain ⟨A4, n4, c4, rfl, hn4, h41, h42, hr4⟩ := Own8.open_ ha
    have x9 := hb3.cell 9
    have x10 := hb3.cell 10
    simp only [NtC, List.getElem?_toArray, List.getElem?_cons_zero, List.getElem?_cons_succ] at x9 x10
    go_wp2_with fail
    clear x9 x10 hb3 hrL1 hr4
    have hmm := h.mems
    have hmo := h.ok.mems
    go_loopw [0, 77] (fun v i wr => ∃ q : Nat, q ≤ m ∧ i = .int .i64 q ∧ Own8 wr w.heap.size v (L ++ (num n.vep ++ num m) ++ (n.mems.take q).flatMap memB) ∧ Chg Non w wr) (fun _ i _ => m - (intOf i).toNat)
    case atStart => exact ⟨0, Nat.zero_le _, rfl, by simpa [Own8] using ha, hC3⟩
    case round =>
      clear ha hC3
      obtain ⟨q, hq, rfl, hown, hC⟩ := hrel
      by_cases hlt : q < m
      · obtain ⟨ad, x, hB, hx, hx0, hx1⟩ := (hmm.non hC).getM hlt
        obtain ⟨hi1, hi2⟩ := hmo x (List.mem_of_getElem? hx)
        have hst : (n.mems.take (q + 1)).flatMap memB = (n.mems.take q).flatMap memB ++ (num x.1 ++ num x.2) := by rw [List.take_add_one, hx]; simp [memB]
        have hlen : ((n.mems.take q).flatMap memB).length ≤ 20 * q := by
          have hg : ∀ l : List Mb, (l.flatMap memB).length ≤ 20 * l.length := by
            intro l
            induction l with
            | nil => simp
            | cons y l ih =>
              have e1 := (num_len y.1).2
              have e2 := (num_len y.2).2
              simp only [List.flatMap_cons, List.length_append, List.length_cons, memB]
              omega
          have h1 := hg (n.mems.take q)
          have h2 : (n.mems.take q).length ≤ q := List.length_take_le _ _
          omega
        have Hst := Lib.hid hst
        clear hst hx
        obtain ⟨A5, n5, c5, rfl, hn5, h51, h52, hr5⟩ := hown.open_
        obtain ⟨w6, hw6⟩ : ∃ w6, wr.alloc (.cells #[.int .i64 x.1, .int .i64 x.2] 116) = w6 := ⟨_, rfl⟩
        have hc6 : Chg Non wr w6 := hw6 ▸ (Chg.refl _ _).alloc _
        have hb6 : Blk w6 wr.heap.size 116 #[.int .i64 x.1, .int .i64 x.2] := hw6 ▸ Blk.new _ _ _
        have y0 := hb6.cell 0
        have y1 := hb6.cell 1
        simp only [List.getElem?_toArray, List.getElem?_cons_zero, List.getElem?_cons_succ] at y0 y1
        have hr6 := hr5.non hc6
        have hC6 := hC.non hc6
        have hsz := hC6.size
        subst hB
        clear hb6 hown hr5
        go_wp2_with fail
        clear hw6 hx0 hx1 y0 y1
        have hc7 : Chg Non w6 (w6.alloc (.cells #[.int .i64 x.1, .int .i64 x.2] 3)) := (Chg.refl _ _).alloc _
        refine (packInt_any _ _ _ (L ++ (num n.vep ++ num m) ++ (n.mems.take q).flatMap memB) _ 2 2 [x.1, x.2] _ (hr6.non hc7) (rds2 _ _ _) (by simpa using ⟨hi1, hi2⟩) (by simp only [List.length_append, List.length_cons, List.length_nil]; omega)).mono ?_
        rintro e w8 ⟨v8, rfl, hown8, hc8⟩
        have ha8 := own_mono hown8 (Nat.le_trans hsz hc7.size)
        have hC8 := (hC6.non hc7).non hc8
        clear hown8 hc7 hc8 hr6
        go_wp2_with fail
        go_roundw
        case rel => exact ⟨q + 1, by omega, by go_num, by rw [Hst.out]; simpa [nums, Own8] using ha8, hC8⟩
        case measure => simp [intOf]; omega
      · obtain rfl : q = m := by omega
        rw [List.take_of_length_le (by have := Hm16.out; omega)] at hown
        obtain ⟨A5, n5, c5, rfl, hn5, h51, h52, hr5⟩ := hown.open_
        go_wp2_with fail
        go_ret
        refine ⟨_, rfl, ?_, hC⟩
        rw [show L ++ putP n 6 = L ++ (num n.vep ++ num q) ++ n.mems.flatMap memB from by have := Hm16.out.2; simp [putP, this]]
        exact hown
end Go.Proofs.Ytflaliomkfbagaa
