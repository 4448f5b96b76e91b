/-
  gleanerlaw1.PackMixed: the walk. (Written by gen_mixed.py: the two ways of 'the shorter of both' are alike.)
-/
import Derived.Test.YtbjpnnpbhocffaaPackTextsWalk
namespace Go.Proofs.Ytbjpnnpbhocffaa
open Go.RowKit
set_option linter.unusedVariables false

def mixAt (l : List Int) (X : List (List UInt8)) (i : Nat) : List UInt8 := num (l.getD i 0) ++ (num i ++ text (X.getD i []))
def mx (l : List Int) (X : List (List UInt8)) (i c : Nat) : List UInt8 := (List.range' i c).flatMap (mixAt l X)
theorem mx_snoc {l : List Int} {X : List (List UInt8)} {k : Nat} {x : Int} {L : List UInt8} (h1 : l[k]? = some x) (h2 : X[k]? = some L) : mx l X 0 (k + 1) = mx l X 0 k ++ (num x ++ (num k ++ text L)) := by
  unfold mx
  rw [List.range'_concat, List.flatMap_append]
  simp [mixAt, h1, h2]
theorem mx_cons {l : List Int} {X : List (List UInt8)} {k c : Nat} {x : Int} {L : List UInt8} (h1 : l[k]? = some x) (h2 : X[k]? = some L) : mx l X k (c + 1) = num x ++ (num k ++ (text L ++ mx l X (k + 1) c)) := by
  unfold mx
  rw [List.range'_succ, List.flatMap_cons]
  simp [mixAt, h1, h2]

theorem mx_len (l : List Int) (X : List (List UInt8)) (i c : Nat) (h : ∀ j L, j < i + c → X[j]? = some L → L.length ≤ 500) : (mx l X i c).length ≤ 530 * c := by
  induction c generalizing i with
  | zero => simp [mx]
  | succ c ih =>
    have h1 := ih (i + 1) (fun j L h2 h3 => h j L (by omega) h3)
    have h2 : mx l X i (c + 1) = mixAt l X i ++ mx l X (i + 1) c := by unfold mx; rw [List.range'_succ, List.flatMap_cons]
    have h3 : (X.getD i []).length ≤ 500 := by
      cases hx : X[i]? with
      | none => simp [List.getD_eq_getElem?_getD, hx]
      | some L => simp [List.getD_eq_getElem?_getD, hx]; exact h i L (by omega) hx
    have h4 := (num_len (l.getD i 0)).2
    have h5 := (num_len (i : Int)).2
    have h6 := (num_len ((X.getD i []).length : Int)).2
    rw [h2, List.length_append]
    unfold mixAt text
    simp only [List.length_append]
    omega

theorem Txts.one {w : World} {g : Nat} {t : TypeId} {B : Option Addr} {m c : Nat} {L : List UInt8} (h : Blk w g t #[.slice B m c]) (hm : m ≤ c) (hc : c ≤ maxLen) (hr : Rds w 1 B m (bv L)) : Txts w (some ⟨g, 0, none⟩) 1 [L] := by
  refine ⟨rfl, fun k M hk => ?_⟩
  cases k with
  | zero =>
    simp at hk
    subst hk
    exact ⟨⟨g, 0, none⟩, B, m, c, rfl, h.cell 0, hm, hc, hr⟩
  | succ k => simp at hk

set_option maxRecDepth 100000 in
set_option maxHeartbeats 1000000 in
theorem packMixed_core (w : World) (A : Option Addr) (n c : Nat) (l : List Int) (hr : Rds w 1 A n (iv l)) (hl : ∀ x ∈ l, i64 x) (A2 : Option Addr) (m c2 : Nat) (X : List (List UInt8)) (hr2 : Txts w A2 m X) (hn1 : n ≤ 100) (hm1 : m ≤ 100) :
    Calls Try.prog 9 #[.slice A n c, .slice A2 m c2] w fun e w2 => e = .returned (.bool true) ∧ Chg Non w w2 := by
  have hrk := Lib.hid hr
  have hr2k := Lib.hid hr2
  clear hr hr2
  go_enter Try.func9, Try.ntmps9
  go_wp2_with fail
  refine (alive_any _).mono ?_
  rintro e w1 ⟨rfl, hc1⟩
  rcases Nat.lt_or_ge m n with hmn | hmn
  · go_wp2_with fail
    go_loopw [6, 8] (fun v i wr => ∃ (k : Nat), k ≤ m ∧ i = .int .i64 k ∧ Own8 wr w.heap.size v (mx l X 0 k) ∧ (mx l X 0 k).length ≤ 530 * k ∧ Hid (∀ j L, j < k → X[j]? = some L → L.length ≤ 500) ∧ Chg Non w wr) (fun _ i _ => m - (intOf i).toNat)
    case atStart => exact ⟨0, Nat.zero_le _, rfl, Own8.nil _ _, by simp [mx], (fun j L h => by omega), hc1⟩
    case round =>
      clear hc1
      obtain ⟨k, hk, rfl, hown, hlen, hall, hC⟩ := hrel
      by_cases hlt : k < m
      · obtain ⟨ad2, x, rfl, hx, hcellx⟩ := hrk.out.getI (k := k) (by omega)
        obtain ⟨ad, B, m3, c3, L, rfl, hX, hcell, hm3, hc3, hrL⟩ := hr2k.out.get (k := k) (by omega)
        have hxi := hl x (List.mem_of_getElem? hx)
        have hcellr := hC.cell hcell id
        have hcellxr := hC.cell hcellx id
        have hmL := hrL.lenMap
        have hm64 : m3 ≤ 9223372036854775807 := by unfold maxLen at hc3; omega
        by_cases hbig : 500 < m3
        · go_wp2_with fail
          go_ret
          exact ⟨rfl, hC⟩
        · have hL5 : L.length ≤ 500 := by omega
          have hall2 : Hid (∀ j L, j < k + 1 → X[j]? = some L → L.length ≤ 500) := by
            intro j M hj hM
            rcases Nat.lt_or_ge j k with h | h
            · exact hall.out j M h hM
            · obtain rfl : j = k := by omega
              rw [hX] at hM; cases hM; exact hL5
          have hst := mx_snoc hx hX
          have hl1 := (num_len x).2
          have hl2 := (num_len (k : Int)).2
          have hl3 := (num_len (L.length : Int)).2
          have hk64 : i64 (k : Int) := by unfold i64; omega
          have hlen2 : (mx l X 0 (k + 1)).length ≤ 530 * (k + 1) := by
            rw [hst]; simp only [List.length_append, text]; omega
          have hlt6 : (texts [L]).length ≤ 510 := by simp [texts, text]; omega
          have HmL := Lib.hid hmL
          have Hst := Lib.hid hst
          have Hall := hall2
          clear hmL hst hx hX hall hall2 hcell hcellx
          have hrLw := hrL.non hC
          obtain ⟨A5, n5, c5, rfl, hn5, h51, h52, hr5⟩ := hown.open_
          have kc : ∀ w, Chg Non wr w → w.cell? (ad.add k) = some (.slice B m3 c3) := fun w h => h.cell hcellr id
          have kx : ∀ w, Chg Non wr w → w.cell? (ad2.add k) = some (.int .i64 x) := fun w h => h.cell hcellxr id
          go_wp2_with fail
          refine st_region 1 Non [7, 13] [6, 12] (fun _ _ _ _ => True) (fun i _ v w2 => if i = 7 then Own8 w2 wr.heap.size v (mx l X 0 k ++ (num x ++ num k)) else Own8 w2 wr.heap.size v (mx l X 0 k ++ (num x ++ num k) ++ text L)) (fun _ _ v => ∃ A n c, v = .slice A n c) (fun _ => True) (by kernel_rfl) (by kernel_rfl) (fun _ h => h.elim) trivial (fun _ _ _ => trivial) ?_
          repeat (first | (refine st_pass (by rfl) ?_; simp only [Act.put, List.setIfInBounds_toArray, List.set_cons_succ, List.set_cons_zero]) | (refine st_plain (Non) (wr) rfl rfl (f := ?_) (by rfl) rfl rfl (fun w hC hG => ?_) ?_; rotate_left; (clear hG; first | (go_simp; done) | (go_simp; with_reducible rfl) | (simp [*, go_sem, ↓IntWalk.iteOmega]; done) | (simp [*, go_sem, ↓IntWalk.iteOmega]; with_reducible rfl)); simp only [Act.put, List.setIfInBounds_toArray, List.set_cons_succ, List.set_cons_zero]))
          refine st_minor Non wr rfl rfl (ob := .cells #[.int .i64 x, .int .i64 (k : Int)] 3) (kd := some (2, 2)) (by rfl) rfl rfl (fun w hC hG => by clear hG; go_simp; rfl) (fun g => ?_)
          simp only [Act.put, List.setIfInBounds_toArray, List.set_cons_succ, List.set_cons_zero]
          refine st_major (Non) (wr) rfl rfl (by rfl) rfl (⟨.slice none 0 0, none, 0, 0, rfl⟩) (fun v w w2 _ h2 h => Own8.non h h2) (fun _ _ _ _ => trivial) (fun w hC hG hS => settle_of (r2 := ?_) ?_ ?_) ?_
          rotate_left
          (first | (go_simp; done) | (go_simp; rfl))
          · have hB : Rds w 1 (some ⟨g, 0, none⟩) 2 (iv [x, (k : Int)]) := Rds.block (cs := #[.int .i64 x, .int .i64 (k : Int)]) (show w.heap[g]? = _ from (hG 6 rfl).2) rfl
            refine settle_enter ((packInt_any _ _ _ (mx l X 0 k) _ _ _ [x, (k : Int)] _ (hr5.non hC) hB (by simpa using ⟨hxi, hk64⟩) (by simp; omega)).mono ?_)
            rintro e w6 ⟨v6, rfl, h8, hc6⟩
            obtain ⟨A6, n6, c6, hv6, _⟩ := h8.open_
            refine ⟨v6, rfl, ⟨A6, n6, c6, hv6⟩, hc6, trivial, ?_⟩
            have := own_mono h8 hC.size
            simpa [nums, Own8] using this
          · rintro v4 ⟨A6, n6, c6, rfl⟩
            simp only [Act.put, List.setIfInBounds_toArray, List.set_cons_succ, List.set_cons_zero]
            repeat (first | (refine st_pass (by rfl) ?_; simp only [Act.put, List.setIfInBounds_toArray, List.set_cons_succ, List.set_cons_zero]) | (refine st_plain (Non) (wr) rfl rfl (f := ?_) (by rfl) rfl rfl (fun w hC hG => ?_) ?_; rotate_left; (clear hG; first | (go_simp; done) | (go_simp; with_reducible rfl) | (simp [*, go_sem, ↓IntWalk.iteOmega]; done) | (simp [*, go_sem, ↓IntWalk.iteOmega]; with_reducible rfl)); simp only [Act.put, List.setIfInBounds_toArray, List.set_cons_succ, List.set_cons_zero]))
            refine st_minor Non wr rfl rfl (ob := .cells #[.slice B m3 c3] 23) (kd := some (1, 1)) (by rfl) rfl rfl (fun w hC hG => by clear hG; go_simp; rfl) (fun g2 => ?_)
            simp only [Act.put, List.setIfInBounds_toArray, List.set_cons_succ, List.set_cons_zero]
            refine st_major (Non) (wr) rfl rfl (by rfl) rfl (⟨.slice none 0 0, none, 0, 0, rfl⟩) (fun v w w2 _ h2 h => Own8.non h h2) (fun _ _ _ _ => trivial) (fun w hC hG hS => settle_of (r2 := ?_) ?_ ?_) ?_
            rotate_left
            (first | (go_simp; done) | (go_simp; rfl))
            · have hB : Txts w (some ⟨g2, 0, none⟩) 1 [L] := Txts.one (show Blk w g2 23 _ from (hG 12 rfl).2) hm3 hc3 (hrLw.non hC)
              obtain ⟨A8, n8, c8, e8, _, _, _, hr8⟩ := (show Own8 w wr.heap.size (.slice A6 n6 c6) (mx l X 0 k ++ (num x ++ num k)) from hG 7 rfl).open_
              cases e8
              refine settle_enter ((packBytes_any _ _ _ (mx l X 0 k ++ (num x ++ num k)) _ _ _ [L] _ hr8 hB (by simp only [List.length_append]; omega)).mono ?_)
              rintro e w6 ⟨v6, rfl, h8, hc6⟩
              obtain ⟨A6, n6, c6, hv6, _⟩ := h8.open_
              refine ⟨v6, rfl, ⟨A6, n6, c6, hv6⟩, hc6, trivial, ?_⟩
              have := own_mono h8 hC.size
              simpa [texts, Own8] using this
            · rintro v5 ⟨A7, n7, c7, rfl⟩
              simp only [Act.put, List.setIfInBounds_toArray, List.set_cons_succ, List.set_cons_zero]
              repeat (first | (refine st_pass (by rfl) ?_; simp only [Act.put, List.setIfInBounds_toArray, List.set_cons_succ, List.set_cons_zero]) | (refine st_plain (Non) (wr) rfl rfl (f := ?_) (by rfl) rfl rfl (fun w hC hG => ?_) ?_; rotate_left; (clear hG; first | (go_simp; done) | (go_simp; with_reducible rfl) | (simp [*, go_sem, ↓IntWalk.iteOmega]; done) | (simp [*, go_sem, ↓IntWalk.iteOmega]; with_reducible rfl)); simp only [Act.put, List.setIfInBounds_toArray, List.set_cons_succ, List.set_cons_zero]))
              refine st_end Non wr rfl rfl (fun w5 hC5 _ hG => ?_)
              have h8 : Own8 w5 w.heap.size (.slice A7 n7 c7) (mx l X 0 k ++ (num x ++ num k) ++ text L) := own_mono (show Own8 w5 wr.heap.size (.slice A7 n7 c7) _ from hG 13) hC.size
              have hC6 := hC.non hC5
              clear hG kc kx
              go_wp2_with fail
              go_roundw
              case rel => exact ⟨k + 1, by omega, by go_num, by rw [Hst.out]; simpa using h8, hlen2, Hall, hC6⟩
              case measure => simp [intOf]; omega
      · obtain rfl : m = k := by omega
        obtain ⟨A5, n5, c5, rfl, hn5, h51, h52, hr5⟩ := hown.open_
        clear hown
        go_wp2_with fail
        refine (new_any _ _ _ _ _ hr5 (by omega)).mono ?_
        rintro e w9 ⟨g, rfl, hg, hcur, hc9⟩
        have hC9 := hC.non hc9
        have hgw : w.heap.size ≤ g := Nat.le_trans hC.size hg
        clear hC hc9 hg hr5
        go_wp2_with fail
        go_loopw [10] (fun i wr => ∃ (k : Nat), k ≤ m ∧ i = .int .i64 k ∧ Cur wr g (mx l X k (m - k)) false ∧ Chg Non w wr) (fun i _ => m - (intOf i).toNat)
        case atStart => exact ⟨0, Nat.zero_le _, rfl, by simpa using hcur, hC9⟩
        case round =>
          clear hcur hC9
          obtain ⟨k, hk2, rfl, hcur, hC⟩ := hrel
          by_cases hlt2 : k < m
          · obtain ⟨ad2, x, rfl, hx, hcellx⟩ := hrk.out.getI (k := k) (by omega)
            obtain ⟨ad, B, m3, c3, L, rfl, hX, hcell, hm3, hc3, hrL⟩ := hr2k.out.get (k := k) (by omega)
            have hxi := hl x (List.mem_of_getElem? hx)
            have hL5 := hall.out k L (by omega) hX
            have hk64 : i64 (k : Int) := by unfold i64; omega
            have hmc := mx_cons (c := m - (k + 1)) hx hX
            rw [show m - (k + 1) + 1 = m - k by omega] at hmc
            rw [hmc] at hcur
            have hi1 := cInt_num hxi (num k ++ (text L ++ mx l X (k + 1) (m - (k + 1)))) false
            have hi2 := cInt_num hk64 (text L ++ mx l X (k + 1) (m - (k + 1))) false
            have hi3 := cBytes_text (t := L) (by omega) (mx l X (k + 1) (m - (k + 1))) false
            have hmxl := mx_len l X (k + 1) (m - (k + 1)) (fun j M h1 h2 => hall.out j M (by omega) h2)
            have htl : (text L).length ≤ 510 := by have := (num_len (L.length : Int)).2; simp [text]; omega
            have hgl := hcur.lt
            clear hmc hX hx
            go_wp2_with fail
            refine (int_any g _ _ _ hcur).mono ?_
            rintro e w2 ⟨rfl, hcur2, hc2⟩
            rw [hi1] at hcur2 ⊢
            simp only at hcur2 ⊢
            go_wp2_with fail
            refine (int_any g _ _ _ hcur2).mono ?_
            rintro e w3 ⟨rfl, hcur3, hc3'⟩
            rw [hi2] at hcur3 ⊢
            simp only at hcur3 ⊢
            go_wp2_with fail
            refine (bytes_any g _ _ _ hcur3 (by simp only [List.length_append]; omega)).mono ?_
            rintro e w4 ⟨v4, rfl, hown, hcur4, hc4⟩
            rw [show text L ++ mx l X (k + 1) (m - (k + 1)) = num L.length ++ L ++ mx l X (k + 1) (m - (k + 1)) from by simp [text], hi3] at hown hcur4
            simp only at hown hcur4
            have hC4 : Chg Non w w4 := ((hC.trans2 hc2 fun b e => .inr (by omega)).trans2 hc3' fun b e => .inr (by omega)).trans2 hc4 fun b e => .inr (by omega)
            obtain ⟨A3, n3, c3', rfl, hn3, h31, h32, hrd3⟩ := hown.open_
            have hrL3 := hrL.non hC4
            have hcell3 := hC4.cell hcell id
            have hcellx3 := hC4.cell hcellx id
            have q1 : ∀ w, Chg Non w4 w → (convert 23 9 (.slice A3 n3 c3')).run Try.prog w = .ok (.string ⟨L.toArray⟩) w := fun w h => run_string_rds Try.underlying23 Try.underlying5 Try.underlying9 (hrd3.non h) c3'
            have q2 : ∀ w, Chg Non w4 w → (convert 23 9 (.slice B m3 c3)).run Try.prog w = .ok (.string ⟨L.toArray⟩) w := fun w h => run_string_rds Try.underlying23 Try.underlying5 Try.underlying9 (hrL3.non h) c3
            have q3 : ∀ w, Chg Non w4 w → w.cell? (ad.add k) = some (.slice B m3 c3) := fun w h => h.cell hcell3 id
            have q4 : ∀ w, Chg Non w4 w → w.cell? (ad2.add k) = some (.int .i64 x) := fun w h => h.cell hcellx3 id
            clear hcell hcell3 hcellx hcellx3 hrL hrL3 hcur hcur2 hcur3 hown hi1 hi2 hi3 hc2 hc3' hc4 hC hmxl
            go_wp2_with fail
            refine st_region 1 Non [] [] (fun _ _ _ _ => True) (fun _ _ _ _ => True) (fun _ _ _ => True) (fun _ => True) (by kernel_rfl) (by kernel_rfl) (fun _ h => h.elim) trivial (fun _ _ _ => trivial) ?_
            repeat (first | (refine st_pass (by rfl) ?_; simp only [Act.put, List.setIfInBounds_toArray, List.set_cons_succ, List.set_cons_zero]) | (refine st_plain (Non) (w4) rfl rfl (f := ?_) (by rfl) rfl rfl (fun w hC hG => ?_) ?_; rotate_left; (clear hG; first | (go_simp; done) | (go_simp; with_reducible rfl) | (simp [*, go_sem, ↓IntWalk.iteOmega]; done) | (simp [*, go_sem, ↓IntWalk.iteOmega]; with_reducible rfl)); simp only [Act.put, List.setIfInBounds_toArray, List.set_cons_succ, List.set_cons_zero]))
            refine st_end Non w4 rfl rfl (fun w5 hC5 _ _ => ?_)
            have hcur5 := hcur4.non hC5
            have hC6 := hC4.non hC5
            clear q1 q2 q3 q4
            go_wp2_with fail
            go_roundw
            case rel => exact ⟨k + 1, by omega, by go_num, hcur5, hC6⟩
            case measure => simp [intOf]; omega
          · have hz : mx l X k (m - k) = [] := by rw [show m - k = 0 by omega]; rfl
            rw [hz] at hcur
            go_wp2_with (go_at_call 17; refine (end_any g _ _ _ hcur).mono ?_; rintro e w9 ⟨rfl, rfl⟩)
            go_ret
            exact ⟨rfl, hC⟩
  · go_wp2_with fail
    go_loopw [6, 8] (fun v i wr => ∃ (k : Nat), k ≤ n ∧ i = .int .i64 k ∧ Own8 wr w.heap.size v (mx l X 0 k) ∧ (mx l X 0 k).length ≤ 530 * k ∧ Hid (∀ j L, j < k → X[j]? = some L → L.length ≤ 500) ∧ Chg Non w wr) (fun _ i _ => n - (intOf i).toNat)
    case atStart => exact ⟨0, Nat.zero_le _, rfl, Own8.nil _ _, by simp [mx], (fun j L h => by omega), hc1⟩
    case round =>
      clear hc1
      obtain ⟨k, hk, rfl, hown, hlen, hall, hC⟩ := hrel
      by_cases hlt : k < n
      · obtain ⟨ad2, x, rfl, hx, hcellx⟩ := hrk.out.getI (k := k) (by omega)
        obtain ⟨ad, B, m3, c3, L, rfl, hX, hcell, hm3, hc3, hrL⟩ := hr2k.out.get (k := k) (by omega)
        have hxi := hl x (List.mem_of_getElem? hx)
        have hcellr := hC.cell hcell id
        have hcellxr := hC.cell hcellx id
        have hmL := hrL.lenMap
        have hm64 : m3 ≤ 9223372036854775807 := by unfold maxLen at hc3; omega
        by_cases hbig : 500 < m3
        · go_wp2_with fail
          go_ret
          exact ⟨rfl, hC⟩
        · have hL5 : L.length ≤ 500 := by omega
          have hall2 : Hid (∀ j L, j < k + 1 → X[j]? = some L → L.length ≤ 500) := by
            intro j M hj hM
            rcases Nat.lt_or_ge j k with h | h
            · exact hall.out j M h hM
            · obtain rfl : j = k := by omega
              rw [hX] at hM; cases hM; exact hL5
          have hst := mx_snoc hx hX
          have hl1 := (num_len x).2
          have hl2 := (num_len (k : Int)).2
          have hl3 := (num_len (L.length : Int)).2
          have hk64 : i64 (k : Int) := by unfold i64; omega
          have hlen2 : (mx l X 0 (k + 1)).length ≤ 530 * (k + 1) := by
            rw [hst]; simp only [List.length_append, text]; omega
          have hlt6 : (texts [L]).length ≤ 510 := by simp [texts, text]; omega
          have HmL := Lib.hid hmL
          have Hst := Lib.hid hst
          have Hall := hall2
          clear hmL hst hx hX hall hall2 hcell hcellx
          have hrLw := hrL.non hC
          obtain ⟨A5, n5, c5, rfl, hn5, h51, h52, hr5⟩ := hown.open_
          have kc : ∀ w, Chg Non wr w → w.cell? (ad.add k) = some (.slice B m3 c3) := fun w h => h.cell hcellr id
          have kx : ∀ w, Chg Non wr w → w.cell? (ad2.add k) = some (.int .i64 x) := fun w h => h.cell hcellxr id
          go_wp2_with fail
          refine st_region 1 Non [7, 13] [6, 12] (fun _ _ _ _ => True) (fun i _ v w2 => if i = 7 then Own8 w2 wr.heap.size v (mx l X 0 k ++ (num x ++ num k)) else Own8 w2 wr.heap.size v (mx l X 0 k ++ (num x ++ num k) ++ text L)) (fun _ _ v => ∃ A n c, v = .slice A n c) (fun _ => True) (by kernel_rfl) (by kernel_rfl) (fun _ h => h.elim) trivial (fun _ _ _ => trivial) ?_
          repeat (first | (refine st_pass (by rfl) ?_; simp only [Act.put, List.setIfInBounds_toArray, List.set_cons_succ, List.set_cons_zero]) | (refine st_plain (Non) (wr) rfl rfl (f := ?_) (by rfl) rfl rfl (fun w hC hG => ?_) ?_; rotate_left; (clear hG; first | (go_simp; done) | (go_simp; with_reducible rfl) | (simp [*, go_sem, ↓IntWalk.iteOmega]; done) | (simp [*, go_sem, ↓IntWalk.iteOmega]; with_reducible rfl)); simp only [Act.put, List.setIfInBounds_toArray, List.set_cons_succ, List.set_cons_zero]))
          refine st_minor Non wr rfl rfl (ob := .cells #[.int .i64 x, .int .i64 (k : Int)] 3) (kd := some (2, 2)) (by rfl) rfl rfl (fun w hC hG => by clear hG; go_simp; rfl) (fun g => ?_)
          simp only [Act.put, List.setIfInBounds_toArray, List.set_cons_succ, List.set_cons_zero]
          refine st_major (Non) (wr) rfl rfl (by rfl) rfl (⟨.slice none 0 0, none, 0, 0, rfl⟩) (fun v w w2 _ h2 h => Own8.non h h2) (fun _ _ _ _ => trivial) (fun w hC hG hS => settle_of (r2 := ?_) ?_ ?_) ?_
          rotate_left
          (first | (go_simp; done) | (go_simp; rfl))
          · have hB : Rds w 1 (some ⟨g, 0, none⟩) 2 (iv [x, (k : Int)]) := Rds.block (cs := #[.int .i64 x, .int .i64 (k : Int)]) (show w.heap[g]? = _ from (hG 6 rfl).2) rfl
            refine settle_enter ((packInt_any _ _ _ (mx l X 0 k) _ _ _ [x, (k : Int)] _ (hr5.non hC) hB (by simpa using ⟨hxi, hk64⟩) (by simp; omega)).mono ?_)
            rintro e w6 ⟨v6, rfl, h8, hc6⟩
            obtain ⟨A6, n6, c6, hv6, _⟩ := h8.open_
            refine ⟨v6, rfl, ⟨A6, n6, c6, hv6⟩, hc6, trivial, ?_⟩
            have := own_mono h8 hC.size
            simpa [nums, Own8] using this
          · rintro v4 ⟨A6, n6, c6, rfl⟩
            simp only [Act.put, List.setIfInBounds_toArray, List.set_cons_succ, List.set_cons_zero]
            repeat (first | (refine st_pass (by rfl) ?_; simp only [Act.put, List.setIfInBounds_toArray, List.set_cons_succ, List.set_cons_zero]) | (refine st_plain (Non) (wr) rfl rfl (f := ?_) (by rfl) rfl rfl (fun w hC hG => ?_) ?_; rotate_left; (clear hG; first | (go_simp; done) | (go_simp; with_reducible rfl) | (simp [*, go_sem, ↓IntWalk.iteOmega]; done) | (simp [*, go_sem, ↓IntWalk.iteOmega]; with_reducible rfl)); simp only [Act.put, List.setIfInBounds_toArray, List.set_cons_succ, List.set_cons_zero]))
            refine st_minor Non wr rfl rfl (ob := .cells #[.slice B m3 c3] 23) (kd := some (1, 1)) (by rfl) rfl rfl (fun w hC hG => by clear hG; go_simp; rfl) (fun g2 => ?_)
            simp only [Act.put, List.setIfInBounds_toArray, List.set_cons_succ, List.set_cons_zero]
            refine st_major (Non) (wr) rfl rfl (by rfl) rfl (⟨.slice none 0 0, none, 0, 0, rfl⟩) (fun v w w2 _ h2 h => Own8.non h h2) (fun _ _ _ _ => trivial) (fun w hC hG hS => settle_of (r2 := ?_) ?_ ?_) ?_
            rotate_left
            (first | (go_simp; done) | (go_simp; rfl))
            · have hB : Txts w (some ⟨g2, 0, none⟩) 1 [L] := Txts.one (show Blk w g2 23 _ from (hG 12 rfl).2) hm3 hc3 (hrLw.non hC)
              obtain ⟨A8, n8, c8, e8, _, _, _, hr8⟩ := (show Own8 w wr.heap.size (.slice A6 n6 c6) (mx l X 0 k ++ (num x ++ num k)) from hG 7 rfl).open_
              cases e8
              refine settle_enter ((packBytes_any _ _ _ (mx l X 0 k ++ (num x ++ num k)) _ _ _ [L] _ hr8 hB (by simp only [List.length_append]; omega)).mono ?_)
              rintro e w6 ⟨v6, rfl, h8, hc6⟩
              obtain ⟨A6, n6, c6, hv6, _⟩ := h8.open_
              refine ⟨v6, rfl, ⟨A6, n6, c6, hv6⟩, hc6, trivial, ?_⟩
              have := own_mono h8 hC.size
              simpa [texts, Own8] using this
            · rintro v5 ⟨A7, n7, c7, rfl⟩
              simp only [Act.put, List.setIfInBounds_toArray, List.set_cons_succ, List.set_cons_zero]
              repeat (first | (refine st_pass (by rfl) ?_; simp only [Act.put, List.setIfInBounds_toArray, List.set_cons_succ, List.set_cons_zero]) | (refine st_plain (Non) (wr) rfl rfl (f := ?_) (by rfl) rfl rfl (fun w hC hG => ?_) ?_; rotate_left; (clear hG; first | (go_simp; done) | (go_simp; with_reducible rfl) | (simp [*, go_sem, ↓IntWalk.iteOmega]; done) | (simp [*, go_sem, ↓IntWalk.iteOmega]; with_reducible rfl)); simp only [Act.put, List.setIfInBounds_toArray, List.set_cons_succ, List.set_cons_zero]))
              refine st_end Non wr rfl rfl (fun w5 hC5 _ hG => ?_)
              have h8 : Own8 w5 w.heap.size (.slice A7 n7 c7) (mx l X 0 k ++ (num x ++ num k) ++ text L) := own_mono (show Own8 w5 wr.heap.size (.slice A7 n7 c7) _ from hG 13) hC.size
              have hC6 := hC.non hC5
              clear hG kc kx
              go_wp2_with fail
              go_roundw
              case rel => exact ⟨k + 1, by omega, by go_num, by rw [Hst.out]; simpa using h8, hlen2, Hall, hC6⟩
              case measure => simp [intOf]; omega
      · obtain rfl : n = k := by omega
        obtain ⟨A5, n5, c5, rfl, hn5, h51, h52, hr5⟩ := hown.open_
        clear hown
        go_wp2_with fail
        refine (new_any _ _ _ _ _ hr5 (by omega)).mono ?_
        rintro e w9 ⟨g, rfl, hg, hcur, hc9⟩
        have hC9 := hC.non hc9
        have hgw : w.heap.size ≤ g := Nat.le_trans hC.size hg
        clear hC hc9 hg hr5
        go_wp2_with fail
        go_loopw [10] (fun i wr => ∃ (k : Nat), k ≤ n ∧ i = .int .i64 k ∧ Cur wr g (mx l X k (n - k)) false ∧ Chg Non w wr) (fun i _ => n - (intOf i).toNat)
        case atStart => exact ⟨0, Nat.zero_le _, rfl, by simpa using hcur, hC9⟩
        case round =>
          clear hcur hC9
          obtain ⟨k, hk2, rfl, hcur, hC⟩ := hrel
          by_cases hlt2 : k < n
          · obtain ⟨ad2, x, rfl, hx, hcellx⟩ := hrk.out.getI (k := k) (by omega)
            obtain ⟨ad, B, m3, c3, L, rfl, hX, hcell, hm3, hc3, hrL⟩ := hr2k.out.get (k := k) (by omega)
            have hxi := hl x (List.mem_of_getElem? hx)
            have hL5 := hall.out k L (by omega) hX
            have hk64 : i64 (k : Int) := by unfold i64; omega
            have hmc := mx_cons (c := n - (k + 1)) hx hX
            rw [show n - (k + 1) + 1 = n - k by omega] at hmc
            rw [hmc] at hcur
            have hi1 := cInt_num hxi (num k ++ (text L ++ mx l X (k + 1) (n - (k + 1)))) false
            have hi2 := cInt_num hk64 (text L ++ mx l X (k + 1) (n - (k + 1))) false
            have hi3 := cBytes_text (t := L) (by omega) (mx l X (k + 1) (n - (k + 1))) false
            have hmxl := mx_len l X (k + 1) (n - (k + 1)) (fun j M h1 h2 => hall.out j M (by omega) h2)
            have htl : (text L).length ≤ 510 := by have := (num_len (L.length : Int)).2; simp [text]; omega
            have hgl := hcur.lt
            clear hmc hX hx
            go_wp2_with fail
            refine (int_any g _ _ _ hcur).mono ?_
            rintro e w2 ⟨rfl, hcur2, hc2⟩
            rw [hi1] at hcur2 ⊢
            simp only at hcur2 ⊢
            go_wp2_with fail
            refine (int_any g _ _ _ hcur2).mono ?_
            rintro e w3 ⟨rfl, hcur3, hc3'⟩
            rw [hi2] at hcur3 ⊢
            simp only at hcur3 ⊢
            go_wp2_with fail
            refine (bytes_any g _ _ _ hcur3 (by simp only [List.length_append]; omega)).mono ?_
            rintro e w4 ⟨v4, rfl, hown, hcur4, hc4⟩
            rw [show text L ++ mx l X (k + 1) (n - (k + 1)) = num L.length ++ L ++ mx l X (k + 1) (n - (k + 1)) from by simp [text], hi3] at hown hcur4
            simp only at hown hcur4
            have hC4 : Chg Non w w4 := ((hC.trans2 hc2 fun b e => .inr (by omega)).trans2 hc3' fun b e => .inr (by omega)).trans2 hc4 fun b e => .inr (by omega)
            obtain ⟨A3, n3, c3', rfl, hn3, h31, h32, hrd3⟩ := hown.open_
            have hrL3 := hrL.non hC4
            have hcell3 := hC4.cell hcell id
            have hcellx3 := hC4.cell hcellx id
            have q1 : ∀ w, Chg Non w4 w → (convert 23 9 (.slice A3 n3 c3')).run Try.prog w = .ok (.string ⟨L.toArray⟩) w := fun w h => run_string_rds Try.underlying23 Try.underlying5 Try.underlying9 (hrd3.non h) c3'
            have q2 : ∀ w, Chg Non w4 w → (convert 23 9 (.slice B m3 c3)).run Try.prog w = .ok (.string ⟨L.toArray⟩) w := fun w h => run_string_rds Try.underlying23 Try.underlying5 Try.underlying9 (hrL3.non h) c3
            have q3 : ∀ w, Chg Non w4 w → w.cell? (ad.add k) = some (.slice B m3 c3) := fun w h => h.cell hcell3 id
            have q4 : ∀ w, Chg Non w4 w → w.cell? (ad2.add k) = some (.int .i64 x) := fun w h => h.cell hcellx3 id
            clear hcell hcell3 hcellx hcellx3 hrL hrL3 hcur hcur2 hcur3 hown hi1 hi2 hi3 hc2 hc3' hc4 hC hmxl
            go_wp2_with fail
            refine st_region 1 Non [] [] (fun _ _ _ _ => True) (fun _ _ _ _ => True) (fun _ _ _ => True) (fun _ => True) (by kernel_rfl) (by kernel_rfl) (fun _ h => h.elim) trivial (fun _ _ _ => trivial) ?_
            repeat (first | (refine st_pass (by rfl) ?_; simp only [Act.put, List.setIfInBounds_toArray, List.set_cons_succ, List.set_cons_zero]) | (refine st_plain (Non) (w4) rfl rfl (f := ?_) (by rfl) rfl rfl (fun w hC hG => ?_) ?_; rotate_left; (clear hG; first | (go_simp; done) | (go_simp; with_reducible rfl) | (simp [*, go_sem, ↓IntWalk.iteOmega]; done) | (simp [*, go_sem, ↓IntWalk.iteOmega]; with_reducible rfl)); simp only [Act.put, List.setIfInBounds_toArray, List.set_cons_succ, List.set_cons_zero]))
            refine st_end Non w4 rfl rfl (fun w5 hC5 _ _ => ?_)
            have hcur5 := hcur4.non hC5
            have hC6 := hC4.non hC5
            clear q1 q2 q3 q4
            go_wp2_with fail
            go_roundw
            case rel => exact ⟨k + 1, by omega, by go_num, hcur5, hC6⟩
            case measure => simp [intOf]; omega
          · have hz : mx l X k (n - k) = [] := by rw [show n - k = 0 by omega]; rfl
            rw [hz] at hcur
            go_wp2_with (go_at_call 17; refine (end_any g _ _ _ hcur).mono ?_; rintro e w9 ⟨rfl, rfl⟩)
            go_ret
            exact ⟨rfl, hC⟩

theorem packMixed_walk (w : World) (A : Option Addr) (n c : Nat) (e0 : Rd Try.prog w 35 (Value.slice A n c).cells.toList) (A2 : Option Addr) (m c2 : Nat) (e1 : Rd Try.prog w 44 (Value.slice A2 m c2).cells.toList) :
    Calls Try.prog 9 #[.slice A n c, .slice A2 m c2] w fun e w2 => e = .returned (.bool true) ∧ Chg Non w w2 := by
  obtain ⟨A', n', c', l, h1, h2, h3, h4, h5⟩ := e0.ints Try.underlying35 (by kernel_rfl) Try.underlying3
  obtain ⟨A2', n2', c2', X, g1, g2, g3, g4⟩ := e1.texts Try.underlying44 (by kernel_rfl) Try.underlying23 (by kernel_rfl) Try.underlying5
  simp only [Value.cells, List.cons.injEq, and_true, Value.slice.injEq] at h1 g1
  obtain ⟨rfl, rfl, rfl⟩ := h1
  obtain ⟨rfl, rfl, rfl⟩ := g1
  by_cases hn : n ≤ 100 ∧ m ≤ 100
  · exact packMixed_core w A n c l h4 h5 A2 m c2 X g4 hn.1 hn.2
  · clear h4 h5 g4 e0 e1
    have hn2 : 100 < n ∨ 100 < m := by omega
    unfold maxLen at h3 g3
    clear hn
    rcases Nat.lt_or_ge 100 n with h | h
    all_goals
      have h5 : 100 < m ∨ 100 < n := by omega
      go_enter Try.func9, Try.ntmps9
      go_wp2_with fail
      refine (alive_any _).mono ?_
      rintro e w1 ⟨rfl, hc1⟩
      go_wp2_with fail
      go_ret
      exact ⟨rfl, hc1⟩
end Go.Proofs.Ytbjpnnpbhocffaa
