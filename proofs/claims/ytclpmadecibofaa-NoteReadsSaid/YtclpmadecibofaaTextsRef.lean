/-
  gleanerref1.Bytes.
-/
import Derived.Test.YtclpmadecibofaaTexts
import Derived.Test.YtclpmadecibofaaRefInt
namespace Go.Proofs.Ytclpmadecibofaa
open Go.RowKit
set_option linter.unusedVariables false

set_option maxRecDepth 100000 in
set_option maxHeartbeats 400000 in
theorem refTexts_any (A : Option Addr) (n c : Nat) (b : List UInt8) (A2 : Option Addr) (m c2 : Nat) (X : List (List UInt8)) (w : World) (hr : Rds w 1 A n (bv b)) (hx : Txts w A2 m X)
    (hn : b.length + (texts X).length ≤ 140737488350000) :
    Calls Try.prog 29 #[.slice A n c, .slice A2 m c2] w fun e w2 => ∃ v, e = .returned v ∧ Own8 w2 w.heap.size v (b ++ texts X) ∧ Chg Non w w2 := by
  have hml := hx.1
  have hmb : m ≤ 140737488350000 := by have := texts_ge X; omega
  go_enter Try.func29, Try.ntmps29
  have Hml := Lib.hid hml; clear hml
  go_wp2_with (at_builtin; refine app8b rfl _ (.tmp 7) rfl (Own8.nil _ w.heap.size) rfl hr rfl ?_ ?_ ?_; (next => (simp; omega)); (next => exact Nat.le_refl _); intro v2 w3 h2 h3 h4; simp only [List.nil_append] at h2)
  have hchg : Chg Non w w3 := h3.mono fun _ e => by cases e
  clear h3 h4
  go_loopw [5, 6] (fun v i wr => ∃ k : Nat, k ≤ m ∧ i = .int .i64 k ∧ Own8 wr w.heap.size v (b ++ texts (X.take k)) ∧ Chg Non w wr) (fun _ i _ => m - (intOf i).toNat)
  case atStart => exact ⟨0, Nat.zero_le _, rfl, by simpa [texts] using h2, hchg⟩
  case round =>
    clear h2 hchg
    obtain ⟨k, hk, rfl, hown, hchg⟩ := hrel
    by_cases hlt : k < m
    · obtain ⟨ad, B, m3, c3, L, rfl, hX, hcell, hm3, hc3, hrL⟩ := hx.get hlt
      have hc2 := hchg.cell hcell (by exact id)
      have hst := texts_step hX
      have hle := texts_le X (k + 1)
      have hm3L := hrL.lenMap
      have h64 : m3 ≤ 9223372036854775807 := by unfold maxLen at hc3; omega
      have hlen : b.length + (texts (X.take k)).length + (num L.length).length + L.length ≤ 140737488350000 := by
        rw [hst] at hle; simp only [List.length_append] at hle; omega
      have Hst := Lib.hid hst; clear hst hle
      have hrLw := hrL.non hchg
      obtain ⟨A5, n5, c5, rfl, hn5, h51, h52, hr5⟩ := hown.open_
      have HmL := Lib.hid hm3L; clear hm3L
      have hL64 : i64 (m3 : Int) := by unfold i64; omega
      have kc : ∀ w, Chg Non wr w → w.cell? (ad.add k) = some (.slice B m3 c3) := fun w h => h.cell hc2 id
      go_wp2_with fail
      refine st_region_tail 8 12 Non [7] [6] (fun _ _ v w2 => Own8 w2 wr.heap.size v (b ++ texts (X.take k) ++ num m3)) (fun _ _ _ _ => True) (fun _ _ v => True) (fun _ => True) (by kernel_rfl) (by kernel_rfl) (by kernel_rfl) (fun _ h => h.elim) trivial (fun _ _ _ => trivial) ?_
      repeat (first | (refine st_pass (by rfl) ?_; simp only [Act.put, List.setIfInBounds_toArray, List.set_cons_succ, List.set_cons_zero]) | (refine st_plain (Non) (wr) rfl rfl (f := ?_) (by rfl) rfl rfl (fun w hC hG => ?_) ?_; rotate_left; (clear hG; first | (go_simp; done) | (go_simp; with_reducible rfl) | (simp [*, go_sem, ↓IntWalk.iteOmega]; done) | (simp [*, go_sem, ↓IntWalk.iteOmega]; with_reducible rfl)); simp only [Act.put, List.setIfInBounds_toArray, List.set_cons_succ, List.set_cons_zero]))
      refine st_minor Non wr rfl rfl (ob := .cells #[.int .i64 (m3 : Int)] 3) (kd := some (1, 1)) (by rfl) rfl rfl (fun w hC hG => by clear hG; go_simp; rfl) (fun g => ?_)
      simp only [Act.put, List.setIfInBounds_toArray, List.set_cons_succ, List.set_cons_zero]
      refine st_major (Non) (wr) rfl rfl (by rfl) rfl (⟨undef, trivial⟩) (fun _ _ _ _ _ _ => trivial) (fun v w ob h => h.alloc ob) (fun w hC hG hS => settle_of (r2 := ?_) ?_ ?_) ?_
      rotate_left
      (first | (go_simp; done) | (go_simp; rfl))
      · have hB : Rds w 1 (some ⟨g, 0, none⟩) 1 [.int .i64 (m3 : Int)] := Rds.block (cs := #[.int .i64 (m3 : Int)]) (show w.heap[g]? = _ from (hG 6 rfl).2) rfl
        refine settle_enter ((refInt_any _ _ _ (b ++ texts (X.take k)) _ _ _ [(m3 : Int)] _ (hr5.non hC) hB (by simpa using hL64) (by simp; omega)).mono ?_)
        rintro e w6 ⟨v6, rfl, h8, hc6⟩
        refine ⟨v6, rfl, trivial, hc6, ?_, trivial⟩
        have := own_mono h8 hC.size
        simpa [nums, Own8] using this
      · intro v4 _
        simp only [Act.put, List.setIfInBounds_toArray, List.set_cons_succ, List.set_cons_zero]
        repeat (first | (refine st_pass (by rfl) ?_; simp only [Act.put, List.setIfInBounds_toArray, List.set_cons_succ, List.set_cons_zero]) | (refine st_plain (Non) (wr) rfl rfl (f := ?_) (by rfl) rfl rfl (fun w hC hG => ?_) ?_; rotate_left; (clear hG; first | (go_simp; done) | (go_simp; with_reducible rfl) | (simp [*, go_sem, ↓IntWalk.iteOmega]; done) | (simp [*, go_sem, ↓IntWalk.iteOmega]; with_reducible rfl)); simp only [Act.put, List.setIfInBounds_toArray, List.set_cons_succ, List.set_cons_zero]))
        refine st_tail Non wr rfl rfl rfl (fun w5 hC5 hS5 _ => ?_)
        have h8 : Own8 w5 w.heap.size v4 (b ++ texts (X.take k) ++ num m3) := own_mono (show Own8 w5 wr.heap.size v4 _ from hS5) hchg.size
        have hrL5 := hrLw.non hC5
        have hC6 := hchg.non hC5
        clear hS5 kc
        simp only [List.drop_succ_cons, List.drop_zero]
        refine app8b rfl (.tmp 22) (.tmp 26) rfl h8 rfl hrL5 rfl ?_ ?_ ?_
        · have := HmL.out; subst this; simp; omega
        · exact hC6.size
        · intro v2 w2 h2 h3 h4
          simp only [Act.put, List.setIfInBounds_toArray, List.set_cons_succ, List.set_cons_zero]
          go_wp2_with fail
          go_roundw
          case rel => exact ⟨k + 1, by omega, by go_num, by rw [Hst.out, ← HmL.out]; simpa using h2, h8.chgApp hC6 (Nat.le_refl _) h3⟩
          case measure => simp [intOf]; omega
    · go_wp2_with fail
      go_ret
      exact ⟨_, rfl, by rw [List.take_of_length_le (by have := Hml.out; omega)] at hown; exact hown, hchg⟩
end Go.Proofs.Ytclpmadecibofaa
