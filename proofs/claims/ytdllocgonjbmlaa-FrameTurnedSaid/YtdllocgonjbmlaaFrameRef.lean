/-
  gleanerref10.PackFrame.
-/
import Derived.Test.YtdllocgonjbmlaaFramePack
import Derived.Lib.SlBytesConst
namespace Go.Proofs.Ytdllocgonjbmlaa
open Go.RowKit
set_option linter.unusedVariables false
set_option linter.unusedSimpArgs false

theorem rds_F (w : World) : Rds (w.alloc (.cells #[.int .u8 70] 5 (1, 2))) 1 (some ⟨w.heap.size, 0, none⟩) 1 (bv [70]) := by
  refine ⟨rfl, fun _ => ⟨_, rfl, fun i u hu => ?_⟩⟩
  cases i with
  | zero =>
    simp [bv] at hu
    subst hu
    exact World.cell?_alloc_mark w #[.int .u8 70] 5 (1, 2) 0
  | succ i => simp [bv] at hu

set_option maxRecDepth 100000 in
set_option maxHeartbeats 1000000 in
theorem refPack_any (w : World) (f : Fr) (A : Option Addr) (n c : Nat) (hr : Rds w 1 A n (bv f.load)) (hc : n ≤ c) (hm : c ≤ maxLen) :
    Calls Try.prog 10 #[frV f A n c] w fun e w2 => ∃ v, e = .returned (.tuple #[v, .int .i64 f.err]) ∧ Own8 w2 w.heap.size v f.pack ∧ Chg Non w w2 := by
  have Hnl := Lib.hid hr.lenMap
  obtain ⟨w1, hw1⟩ : ∃ w1, w.alloc (.cells (frC f A n c) 24) = w1 := ⟨_, rfl⟩
  have hC2 : Chg Non w w1 := hw1 ▸ (Chg.refl _ _).alloc _
  have hb1 : Blk w1 w.heap.size 24 (frC f A n c) := hw1 ▸ Blk.new _ _ _
  have x0 := hb1.cell 0
  have x1 := hb1.cell 1
  have x2 := hb1.cell 2
  have x3 := hb1.cell 3
  have x4 := hb1.cell 4
  have x5 := hb1.cell 5
  simp only [frC, List.getElem?_toArray, List.getElem?_cons_zero, List.getElem?_cons_succ] at x0 x1 x2 x3 x4 x5
  go_enter Try.func10, Try.ntmps10
  go_wp2_with fail
  clear hw1 hb1
  refine (node_any _ _).mono ?_
  rintro e w9 ⟨rfl, rfl⟩
  cases h0 : nodeB f.a with
  | false =>
    have hf : f.fine = false := by unfold Fr.fine; simp [h0]
    have He := Lib.hid (Fr.err_bad hf)
    have Hp := Lib.hid (Fr.pack_err (f := f) (by rw [He.out]; decide))
    clear hf h0
    go_wp2_with fail
    go_ret2
    exact ⟨_, by rw [He.out]; rfl, by rw [Hp.out]; exact Own8.nil _ _, hC2⟩
  | true =>
    go_wp2_with fail
    refine (node_any _ _).mono ?_
    rintro e w9 ⟨rfl, rfl⟩
    cases h1 : nodeB f.b with
    | false =>
      have hf : f.fine = false := by unfold Fr.fine; simp [h0, h1]
      have He := Lib.hid (Fr.err_bad hf)
      have Hp := Lib.hid (Fr.pack_err (f := f) (by rw [He.out]; decide))
      clear hf h0 h1
      go_wp2_with fail
      go_ret2
      exact ⟨_, by rw [He.out]; rfl, by rw [Hp.out]; exact Own8.nil _ _, hC2⟩
    | true =>
      go_wp2_with fail
      refine (refNum_any _ _).mono ?_
      rintro e w9 ⟨rfl, rfl⟩
      cases h2 : numB f.c with
      | false =>
        have hf : f.fine = false := by unfold Fr.fine; simp [h0, h1, h2]
        have He := Lib.hid (Fr.err_bad hf)
        have Hp := Lib.hid (Fr.pack_err (f := f) (by rw [He.out]; decide))
        clear hf h0 h1 h2
        go_wp2_with fail
        go_ret2
        exact ⟨_, by rw [He.out]; rfl, by rw [Hp.out]; exact Own8.nil _ _, hC2⟩
      | true =>
        go_wp2_with fail
        refine (refNum_any _ _).mono ?_
        rintro e w9 ⟨rfl, rfl⟩
        cases h3 : numB f.d with
        | false =>
          have hf : f.fine = false := by unfold Fr.fine; simp [h0, h1, h2, h3]
          have He := Lib.hid (Fr.err_bad hf)
          have Hp := Lib.hid (Fr.pack_err (f := f) (by rw [He.out]; decide))
          clear hf h0 h1 h2 h3
          go_wp2_with fail
          go_ret2
          exact ⟨_, by rw [He.out]; rfl, by rw [Hp.out]; exact Own8.nil _ _, hC2⟩
        | true =>
          go_wp2_with fail
          refine (refNum_any _ _).mono ?_
          rintro e w9 ⟨rfl, rfl⟩
          cases h4 : numB f.e with
          | false =>
            have hf : f.fine = false := by unfold Fr.fine; simp [h0, h1, h2, h3, h4]
            have He := Lib.hid (Fr.err_bad hf)
            have Hp := Lib.hid (Fr.pack_err (f := f) (by rw [He.out]; decide))
            clear hf h0 h1 h2 h3 h4
            go_wp2_with fail
            go_ret2
            exact ⟨_, by rw [He.out]; rfl, by rw [Hp.out]; exact Own8.nil _ _, hC2⟩
          | true =>
            have hf : f.fine = true := by unfold Fr.fine; simp [h0, h1, h2, h3, h4]
            clear h0 h1 h2 h3 h4
            by_cases hl : 4096 < n
            · have He := Lib.hid (Fr.err_long hf (by have := Hnl.out; omega))
              have Hp := Lib.hid (Fr.pack_err (f := f) (by rw [He.out]; decide))
              clear hf
              go_wp2_with fail
              go_ret2
              exact ⟨_, by rw [He.out]; rfl, by rw [Hp.out]; exact Own8.nil _ _, hC2⟩
            · have He := Lib.hid (Fr.err0.2 ⟨hf, by have := Hnl.out; omega⟩)
              have Hp := Lib.hid (Fr.pack_ok (f := f) He.out)
              have Hi := Lib.hid (Fr.fine_i64 hf)
              have hr2 := hr.non hC2
              clear hf
              have kc := fun (w : World) (C : Array Value) (n c : Nat) => Lib.run_convert_bytes_const (P := Try.prog) w 22 5 C n c Try.underlying22 Try.underlying5
              obtain ⟨w3, hw3⟩ : ∃ w3, w1.alloc (.cells #[.int .u8 70] 5 (1, 2)) = w3 := ⟨_, rfl⟩
              have hc3 : Chg Non w1 w3 := hw3 ▸ (Chg.refl _ _).alloc _
              have hF : Rds w3 1 (some ⟨w1.heap.size, 0, none⟩) 1 (bv [70]) := hw3 ▸ rds_F w1
              have k0 := hc3.cell x0 id
              have k1 := hc3.cell x1 id
              have k2 := hc3.cell x2 id
              have k3 := hc3.cell x3 id
              have k4 := hc3.cell x4 id
              have k5 := hc3.cell x5 id
              go_wp2_with fail
              have hc4 : Chg Non w3 (w3.alloc (.cells #[.int .i64 f.a, .int .i64 f.b, .int .i64 f.c, .int .i64 f.d, .int .i64 f.e] 3)) := (Chg.refl _ _).alloc _
              refine (refInt_any _ 1 1 [70] _ 5 5 f.ints _ (hF.non hc4) (rds5 w3 f.a f.b f.c f.d f.e) (Fr.mem_i64 Hi.out) (by simp [Fr.ints])).mono ?_
              rintro e w5 ⟨v5, rfl, h5, hc5⟩
              obtain ⟨A5, n5, c5, rfl, _, _, _, hr5⟩ := h5.open_
              have hC5 := ((hC2.non hc3).non hc4).non hc5
              have hc35 := (hc3.non hc4).non hc5
              have hrL := hr2.non hc35
              have z5 := hc35.cell x5 id
              clear kc hw3 hF k0 k1 k2 k3 k4 k5 x0 x1 x2 x3 x4 x5 hc3 hc4 hc5 hc35 h5
              go_wp2_with fail
              have hc6 : Chg Non w5 (w5.alloc (.cells #[.slice A n c] 22)) := (Chg.refl _ _).alloc _
              have hB : Txts (w5.alloc (.cells #[.slice A n c] 22)) (some ⟨w5.heap.size, 0, none⟩) 1 [f.load] := Txts.one (Blk.new _ _ _) hc hm (hrL.non hc6)
              have hl1 := f.ints_len
              have hl2 := f.text_len
              refine (refTexts_any _ _ _ (70 :: nums f.ints) _ _ _ [f.load] _ (hr5.non hc6) hB (by have := Hnl.out; simp only [List.length_cons]; omega)).mono ?_
              rintro e w7 ⟨v7, rfl, h7, hc7⟩
              rw [f.body_eq] at h7
              obtain ⟨A7, n7, c7, rfl, hn7, _, _, hr7⟩ := h7.open_
              have hbl : f.body.length ≤ 5000 := by
                have h1 := f.tail_len
                have h2 := Hnl.out
                show f.tail.length + 1 ≤ _
                omega
              have hC7 := (hC5.non hc6).non hc7
              clear hc6 hc7 hB h7 hC5
              go_wp2_with fail
              refine (refSealed_any _ _ _ _ f.body hr7 (by have := hn7.out; omega)).mono ?_
              rintro e w8 ⟨v8, rfl, h8, hc8⟩
              go_wp2_with fail
              go_ret2
              exact ⟨_, by rw [He.out]; rfl, by rw [Hp.out]; exact own_mono h8 hC7.size, hC7.non hc8⟩
end Go.Proofs.Ytdllocgonjbmlaa
