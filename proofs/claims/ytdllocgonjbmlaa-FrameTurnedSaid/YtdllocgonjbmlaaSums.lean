/-
  frame.Sum, gleanerref1.Sealed, gleanerref1.Open.
-/
import Derived.Test.YtdllocgonjbmlaaCrc
import Derived.BigQuiet
namespace Go.Proofs.Ytdllocgonjbmlaa
open Go.RowKit
set_option linter.unusedVariables false
set_option linter.unusedSimpArgs false

theorem and255 (x : Int) : bits .and .i64 x 255 = x % 256 := by
  show IntKind.i64.wrap ((BitVec.ofInt 64 x &&& BitVec.ofInt 64 255).toNat : Int) = _
  rw [BitVec.toNat_and, show (BitVec.ofInt 64 255).toNat = 2 ^ 8 - 1 from rfl, Nat.and_two_pow_sub_one_eq_mod, BitVec.toNat_ofInt, IntKind.wrap_i64]
  omega
theorem Own8.four (w : World) (c : Nat) (hc : c < 4294967296) : Own8 (w.alloc (.cells #[.int .u8 ((c : Int) % 256), .int .u8 ((c : Int) / 256 % 256), .int .u8 ((c : Int) / 65536 % 256), .int .u8 ((c : Int) / 16777216)] 5)) w.heap.size (.slice (some ⟨w.heap.size, 0, none⟩) 4 4) (le4 c) := by
  have h := World.ownsRow_lit (base := w.heap.size) (e := 5) (size := 1) w #[.int .u8 ((c : Int) % 256), .int .u8 ((c : Int) / 256 % 256), .int .u8 ((c : Int) / 65536 % 256), .int .u8 ((c : Int) / 16777216)] 4 (Nat.le_refl _) (by unfold maxLen; omega) rfl
  have e : bv (le4 c) = [.int .u8 ((c : Int) % 256), .int .u8 ((c : Int) / 256 % 256), .int .u8 ((c : Int) / 65536 % 256), .int .u8 ((c : Int) / 16777216)] := by
    unfold bv le4
    simp only [List.map_cons, List.map_nil, UInt8.toNat_ofNat', List.cons.injEq, and_true, Value.int.injEq, true_and]
    omega
  unfold Own8
  rw [e]
  exact h
theorem Own8.four2 (w : World) (c : Nat) (hc : c < 4294967296) : Own8 (w.alloc (.cells #[.int .u8 ((c : Int) % 256), .int .u8 ((c : Int) / 256 % 256), .int .u8 ((c : Int) / 65536 % 256), .int .u8 ((c : Int) / 16777216 % 256)] 5)) w.heap.size (.slice (some ⟨w.heap.size, 0, none⟩) 4 4) (le4 c) := by
  rw [show (c : Int) / 16777216 % 256 = (c : Int) / 16777216 by omega]
  exact Own8.four w c hc

set_option maxRecDepth 100000 in
theorem frameSum_any (w : World) (A : Option Addr) (n c : Nat) (L : List UInt8) (hr : Rds w 1 A n (bv L)) (hn : n ≤ 9223372036854775807) :
    Calls Try.prog 18 #[.slice A n c] w fun e w2 => ∃ g, e = .returned (.slice (some ⟨g, 0, none⟩) 4 4) ∧ Own8 w2 w.heap.size (.slice (some ⟨g, 0, none⟩) 4 4) (le4 (crc L)) ∧ Chg Non w w2 := by
  have hcl : crc L < 4294967296 := crc_lt L
  generalize hs : crc L = s at hcl ⊢
  go_enter Try.func18, Try.ntmps18
  go_wp2_with fail
  have hc1 : Chg Non w (w.alloc (.cells #[.slice A n c] 22)) := (Chg.refl _ _).alloc _
  refine (crcSum_any _ A (some ⟨w.heap.size, 0, none⟩) n c 1 L (hr.non hc1) (Rds.one w (.slice A n c) _) hn).mono ?_
  rintro e w2 ⟨rfl, rfl⟩
  rw [hs]
  obtain ⟨w1, hw1⟩ : ∃ w1, w.alloc (.cells #[.slice A n c] 22) = w1 := ⟨_, rfl⟩
  rw [hw1] at hc1 ⊢
  have h4 := Own8.four w1 s hcl
  have hsz := hc1.size
  clear hr hw1
  go_wp2_with fail
  go_ret
  exact ⟨_, rfl, own_mono h4 hsz, hc1.alloc _⟩

set_option maxRecDepth 100000 in
theorem refSealed_any (w : World) (A : Option Addr) (n c : Nat) (L : List UInt8) (hr : Rds w 1 A n (bv L)) (hn : n ≤ 140737488350000) :
    Calls Try.prog 22 #[.slice A n c] w fun e w2 => ∃ v, e = .returned v ∧ Own8 w2 w.heap.size v (sealB L) ∧ Chg Non w w2 := by
  have hcl : crc L < 4294967296 := crc_lt L
  have Hnl := Lib.hid hr.lenMap
  unfold sealB
  generalize hs : crc L = s at hcl ⊢
  go_enter Try.func22, Try.ntmps22
  go_wp2_with fail
  refine (refSum_any _ A n c L hr (by omega)).mono ?_
  rintro e w2 ⟨rfl, rfl⟩
  rw [hs]
  have h255 := and255 s
  have h2552 := and255 ((s : Int) / 256)
  have h2553 := and255 ((s : Int) / 65536)
  have h2554 := and255 ((s : Int) / 16777216)
  go_wp2_with (first
    | (at_builtin; refine app8b rfl _ (.tmp 6) rfl (Own8.nil _ w.heap.size) rfl hr rfl ?_ ?_ ?_; (next => (have := Hnl.out; simp; omega)); (next => exact Nat.le_refl _); intro v2 w2 h2 h3 h4; simp only [List.nil_append] at h2; have hc2 := h3.mono (S2 := Non) (fun _ e => by cases e); clear h3 h4)
    | (at_builtin; refine app8b rfl (.tmp 7) (.tmp 23) rfl (h2.alloc _) rfl (Own8.four2 w2 s hcl).rdsN rfl ?_ ?_ ?_; (next => (have := Hnl.out; simp [le4]; omega)); (next => (have := hc2.size; rw [World.size_alloc]; omega)); intro v4 w4 h5 h6 _))
  go_ret
  exact ⟨_, rfl, h5, (h2.alloc _).chgApp (hc2.alloc _) (Nat.le_refl _) h6⟩

set_option maxRecDepth 100000 in
theorem refOpen_any (w : World) (A : Option Addr) (n c : Nat) (L : List UInt8) (hr : Rds w 1 A n (bv L)) (hn : n ≤ 140737488350000) (h4 : 4 ≤ n) (hc : n ≤ c) :
    Calls Try.prog 28 #[.slice A n c] w fun e w2 => e = .returned (.tuple #[.slice A (n - 4) c, .bool (sealB (L.take (n - 4)) == L)]) ∧ Chg Non w w2 := by
  have Hnl := Lib.hid hr.lenMap
  obtain ⟨m, hm⟩ : ∃ m, n = m + 4 := ⟨n - 4, by omega⟩
  have hm2 : n - 4 = m := by omega
  rw [hm2]
  have hr1 : Rds w 1 A m (bv (L.take m)) := hr.take8 (by omega) rfl
  go_enter Try.func28, Try.ntmps28
  have qs := fun w => run_slice_hi (P := Try.prog) Try.underlying22 (by kernel_rfl) (kl := .i64) (i := (n : Int) - 4) (k := m) (c := c) (by omega) (by omega) A n w
  go_wp2_with fail
  have Hm := Lib.hid hm
  clear hm hm2 qs
  have q5 : ∀ w1, Chg Non w w1 → (convert 22 9 (.slice A n c)).run Try.prog w1 = .ok (.string ⟨L.toArray⟩) w1 := fun w1 h => run_string_rds Try.underlying22 Try.underlying5 Try.underlying9 (hr.non h) c
  refine st_region 8 Non [2] [] (fun _ _ _ _ => True) (fun _ _ v w => ∃ A n c, v = .slice A n c ∧ Rds w 1 A n (bv (sealB (L.take m)))) (fun _ _ v => ∃ A n c, v = .slice A n c) (fun _ => True) (by kernel_rfl) (by kernel_rfl) (fun _ h => h.elim) trivial (fun _ _ _ => trivial) ?_
  repeat (first | (refine st_pass (by rfl) ?_; simp only [Act.put, List.setIfInBounds_toArray, List.set_cons_succ, List.set_cons_zero]) | (refine st_plain (Non) (w) rfl rfl (f := ?_) (by rfl) rfl rfl (fun w hC hG => ?_) ?_; rotate_left; (clear hG; first | (go_simp; done) | (go_simp; with_reducible rfl) | (simp [*, go_sem, ↓IntWalk.iteOmega]; done) | (simp [*, go_sem, ↓IntWalk.iteOmega]; with_reducible rfl)); simp only [Act.put, List.setIfInBounds_toArray, List.set_cons_succ, List.set_cons_zero]))
  refine st_major (Non) (w) rfl rfl (by rfl) rfl (⟨.slice none 0 0, none, 0, 0, rfl⟩) (fun v w w2 _ h2 ⟨A, n, c, e, h⟩ => ⟨A, n, c, e, h.non h2⟩) (fun _ _ _ _ => trivial) (fun w hC hG hS => settle_of (r2 := ?_) ?_ ?_) ?_
  rotate_left
  (first | (go_simp; done) | (go_simp; rfl))
  · refine settle_enter ((refSealed_any _ _ _ _ _ (hr1.non hC) (by have := Hm.out; omega)).mono ?_)
    rintro e w6 ⟨v6, rfl, h8, hc6⟩
    obtain ⟨A6, n6, c6, rfl, _, _, _, hrd6⟩ := h8.open_
    exact ⟨_, rfl, ⟨_, _, _, rfl⟩, hc6, trivial, _, _, _, rfl, hrd6⟩
  · rintro v ⟨A6, n6, c6, rfl⟩
    simp only [Act.put, List.setIfInBounds_toArray, List.set_cons_succ, List.set_cons_zero]
    refine st_plain Non w rfl rfl (f := .string ⟨(sealB (L.take m)).toArray⟩) (by rfl) rfl rfl (fun w1 hC hG => ?_) ?_
    · obtain ⟨A, n, c, e, h⟩ : ∃ A n c, Value.slice A6 n6 c6 = .slice A n c ∧ Rds w1 1 A n (bv (sealB (L.take m))) := hG 2 rfl
      cases e
      have q := run_string_rds Try.underlying22 Try.underlying5 Try.underlying9 h c6
      clear hG
      go_simp
    simp only [Act.put, List.setIfInBounds_toArray, List.set_cons_succ, List.set_cons_zero]
    repeat (first | (refine st_pass (by rfl) ?_; simp only [Act.put, List.setIfInBounds_toArray, List.set_cons_succ, List.set_cons_zero]) | (refine st_plain (Non) (w) rfl rfl (f := ?_) (by rfl) rfl rfl (fun w hC hG => ?_) ?_; rotate_left; (clear hG; first | (go_simp; done) | (go_simp; with_reducible rfl) | (simp [*, go_sem, ↓IntWalk.iteOmega]; done) | (simp [*, go_sem, ↓IntWalk.iteOmega]; with_reducible rfl)); simp only [Act.put, List.setIfInBounds_toArray, List.set_cons_succ, List.set_cons_zero]))
    refine st_end Non w rfl rfl (fun w6 hC6 _ _ => ?_)
    go_wp2_with fail
    go_ret2
    exact ⟨rfl, hC6⟩
end Go.Proofs.Ytdllocgonjbmlaa
