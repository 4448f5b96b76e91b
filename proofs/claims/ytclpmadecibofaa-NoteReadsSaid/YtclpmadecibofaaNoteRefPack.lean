/-
  gleanerref10.PackNote.
-/
import Derived.Test.YtclpmadecibofaaNoteRefMayN
import Derived.Test.YtclpmadecibofaaTextsRef
import Derived.Deep.Cut
namespace Go.Proofs.Ytclpmadecibofaa
open Go.RowKit
set_option linter.unusedVariables false
set_option linter.unusedSimpArgs false

theorem iv_cons (a : Int) (l : List Int) : iv (a :: l) = .int .i64 a :: iv l := rfl
theorem Own8.base {w : World} {base b2 : Nat} {v : Value} {L : List UInt8} (h : Own8 w base v L) (hb : b2 ≤ base) : Own8 w b2 v L := own_mono h hb
theorem mems_len (l : List Mb) : (l.flatMap memB).length ≤ 20 * l.length := by
  induction l with
  | nil => simp
  | cons y l ih =>
    have e1 := (num_len y.1).2
    have e2 := (num_len y.2).2
    simp only [List.flatMap_cons, List.length_append, List.length_cons, memB]
    omega

set_option maxRecDepth 100000 in
set_option maxHeartbeats 40000000 in
theorem refPack_any (w : World) (n : Nt) (A : Option Addr) (k c : Nat) (B : Option Addr) (m d : Nat) (h : NtAt w n A k c B m d) :
    Calls Try.prog 16 #[.agg (NtC n A k c B m d)] w fun e w2 => ∃ v, e = .returned (.tuple #[v, .int .i64 n.packErr]) ∧ Own8 w2 w.heap.size v n.pack ∧ Chg Non w w2 := by
  obtain ⟨w1, ew1⟩ : ∃ wq, w.alloc (.cells (NtC n A k c B m d) 31) = wq := ⟨_, rfl⟩
  have hC : Chg Non w w1 := ew1 ▸ (Chg.refl _ _).alloc _
  have hb : Blk w1 w.heap.size 31 (NtC n A k c B m d) := ew1 ▸ Blk.new _ _ _
  have h0 := h
  replace h := h.non hC
  have hs1 := hC.size
  have Hpe : Hid (n.packErr = if n.clear.may then 0 else 1) := rfl
  have Hpp : Hid (n.pack = if n.clear.may then n.clear.bytes else []) := rfl
  have x0 := hb.cell 0
  have x1 := hb.cell 1
  have x2 := hb.cell 2
  have x3 := hb.cell 3
  have x4 := hb.cell 4
  have x5 := hb.cell 5
  have x6 := hb.cell 6
  have x7 := hb.cell 7
  have x8 := hb.cell 8
  have x9 := hb.cell 9
  have x10 := hb.cell 10
  simp only [NtC, List.getElem?_toArray, List.getElem?_cons_zero, List.getElem?_cons_succ] at x0 x1 x2 x3 x4 x5 x6 x7 x8 x9 x10
  unfold NtC at ew1
  go_enter Try.func16, Try.ntmps16
  go_wp2_with fail
  refine (refMay_any _ n A k c B m d h).mono ?_
  rintro e w2 ⟨rfl, hc⟩
  replace hC := hC.non hc
  replace hb := hb.non hc
  replace h := h.non hc
  clear hc ew1 x0 x1 x2 x3 x4 x5 x6 x7 x8 x9 x10
  cases hmay : n.clear.may with
  | false =>
    have He : Hid (n.packErr = 1) := by show _ = _; rw [Hpe.out, hmay]; rfl
    have Hp : Hid (n.pack = []) := by show _ = _; rw [Hpp.out, hmay]; rfl
    clear hmay
    go_wp2_with fail
    go_ret2
    exact ⟨_, by rw [He.out]; rfl, by rw [Hp.out]; exact Own8.nil _ _, hC⟩
  | true =>
    have He : Hid (n.packErr = 0) := by show _ = _; rw [Hpe.out, hmay]; rfl
    have Hp : Hid (n.pack = n.clear.bytes) := by show _ = _; rw [Hpp.out, hmay]; rfl
    have Hmay := Lib.hid hmay
    clear hmay Hpe Hpp
    have x0 := hb.cell 0
    have x1 := hb.cell 1
    have x2 := hb.cell 2
    have x3 := hb.cell 3
    have x4 := hb.cell 4
    have x5 := hb.cell 5
    have x6 := hb.cell 6
    have x7 := hb.cell 7
    have x8 := hb.cell 8
    have x9 := hb.cell 9
    have x10 := hb.cell 10
    simp only [NtC, List.getElem?_toArray, List.getElem?_cons_zero, List.getElem?_cons_succ] at x0 x1 x2 x3 x4 x5 x6 x7 x8 x9 x10
    go_wp2_with fail
    clear x0 x1 x2 x3 x4 x5 x6 x7 x8 x9 x10
    refine (refClear_any _ n A k c B m d).mono ?_
    rintro e w3 ⟨A3, k3, c3, B3, m3, d3, rfl, hat, hc⟩
    obtain ⟨C, hCe⟩ : ∃ C, n.clear = C := ⟨_, rfl⟩
    rw [hCe] at Hp Hmay ⊢
    simp only [hCe] at hat
    clear hCe
    have hatw := hat _ h
    have Hkl := Lib.hid hatw.args.lenMap
    have Hml := Lib.hid hatw.mems.lenM
    replace hC := hC.non hc
    replace hb := hb.non hc
    have x0 := hb.cell 0
    have x1 := hb.cell 1
    have x2 := hb.cell 2
    have x3 := hb.cell 3
    have x4 := hb.cell 4
    have x5 := hb.cell 5
    have x6 := hb.cell 6
    have x7 := hb.cell 7
    have x8 := hb.cell 8
    have x9 := hb.cell 9
    have x10 := hb.cell 10
    simp only [NtC, List.getElem?_toArray, List.getElem?_cons_zero, List.getElem?_cons_succ] at x0 x1 x2 x3 x4 x5 x6 x7 x8 x9 x10
    have f0 := hb.frozen 0
    have f1 := hb.frozen 1
    have f2 := hb.frozen 2
    have f3 := hb.frozen 3
    have f4 := hb.frozen 4
    have f5 := hb.frozen 5
    have f6 := hb.frozen 6
    have f7 := hb.frozen 7
    have f8 := hb.frozen 8
    have f9 := hb.frozen 9
    have f10 := hb.frozen 10
    go_wp2_with fail
    clear x0 x1 x2 x3 x4 x5 x6 x7 x8 x9 x10 f0 f1 f2 f3 f4 f5 f6 f7 f8 f9 f10
    obtain ⟨w4, hw4⟩ : ∃ w4, (((((((((((w3.setCell ⟨w.heap.size, 0, none⟩ (.int .i64 C.kind)).setCell ⟨w.heap.size, 1, none⟩ (.int .i64 C.node)).setCell ⟨w.heap.size, 2, none⟩ (.int .i64 C.life)).setCell ⟨w.heap.size, 3, none⟩ (.int .i64 C.epoch)).setCell ⟨w.heap.size, 4, none⟩ (.string C.id)).setCell ⟨w.heap.size, 5, none⟩ (.int .i64 C.fn)).setCell ⟨w.heap.size, 6, none⟩ (.slice A3 k3 c3)).setCell ⟨w.heap.size, 7, none⟩ (.int .i64 C.err)).setCell ⟨w.heap.size, 8, none⟩ (.int .i64 C.val)).setCell ⟨w.heap.size, 9, none⟩ (.int .i64 C.vep)).setCell ⟨w.heap.size, 10, none⟩ (.slice B3 m3 d3)) = w4 := ⟨_, rfl⟩
    have hE : Chg (fun b => b = w.heap.size) w3 w4 := hw4 ▸ chg11 w3 w.heap.size (.int .i64 C.kind) (.int .i64 C.node) (.int .i64 C.life) (.int .i64 C.epoch) (.string C.id) (.int .i64 C.fn) (.slice A3 k3 c3) (.int .i64 C.err) (.int .i64 C.val) (.int .i64 C.vep) (.slice B3 m3 d3)
    have hb4 : Blk w4 w.heap.size 31 (NtC C A3 k3 c3 B3 m3 d3) := hw4 ▸ hb.put11 (.int .i64 C.kind) (.int .i64 C.node) (.int .i64 C.life) (.int .i64 C.epoch) (.string C.id) (.int .i64 C.fn) (.slice A3 k3 c3) (.int .i64 C.err) (.int .i64 C.val) (.int .i64 C.vep) (.slice B3 m3 d3)
    replace hC := hC.trans2 hE (fun b e => .inr (by have e : b = w.heap.size := e; omega))
    have hat4 := (hat _ h0).non hC
    have hz : w4.heap.size = w3.heap.size := by rw [← hw4]; simp
    rw [hw4]
    clear hw4 hE hb hat h hc
    have hok := hat4.ok
    have hsz := hC.size
    have hmem := Hmay.out
    unfold Nt.may viewB at hmem
    simp only [Bool.and_eq_true, decide_eq_true_eq] at hmem
    obtain ⟨⟨⟨⟨⟨⟨⟨hK, _⟩, _⟩, hv3⟩, _⟩, hv5⟩, _⟩, _, hv8⟩ := hmem
    have hid := vid_small hv3
    have hk8 : k3 ≤ 8 := by have := Hkl.out; omega
    have hm16 : m3 ≤ 16 := by have := Hml.out; omega
    clear hv3 hv5 hv8
    have hidl : (idL C.id).length = C.id.size := by unfold idL; rw [Array.length_toList]; rfl
    have Hid := Lib.hid hidl
    clear hidl hatw
    obtain ⟨w5, ew5⟩ : ∃ wq, w4.alloc (.cells #[.int .i64 C.kind] 3) = wq := ⟨_, rfl⟩
    have hc : Chg Non w4 w5 := ew5 ▸ (Chg.refl _ _).alloc _
    have hr1 : Rds w5 1 (some ⟨w3.heap.size, 0, none⟩) 1 (iv [C.kind]) := by rw [← ew5, ← hz]; exact rds1 w4 C.kind
    rw [ew5]
    clear ew5 hz
    replace hC := hC.non hc
    replace hb4 := hb4.non hc
    replace hat4 := hat4.non hc
    refine (refInt_any none 0 0 [] _ 1 1 [C.kind] w5 Rds.nil_ hr1 (by simpa using hok.kind) (by simp)).mono ?_
    rintro e w6 ⟨v6, rfl, hv6, hc6⟩
    rw [show ([] : List UInt8) ++ nums [C.kind] = num C.kind from by simp [nums]] at hv6
    replace hv6 := Own8.base hv6 hC.size
    clear hr1 hc
    replace hC := hC.non hc6
    replace hb4 := hb4.non hc6
    replace hat4 := hat4.non hc6
    obtain ⟨A6, n6, c6, rfl, hn6, _⟩ := Own8.open_ hv6
    clear hc6
    obtain ⟨w7, c7, hq, hc71, hc72, hrb, hc7⟩ := run_bytes_of w6 C.id hok.id
    have x4 := hb4.cell 4
    simp only [List.getElem?_toArray, List.getElem?_cons_zero, List.getElem?_cons_succ] at x4
    replace hC := hC.non hc7
    replace hb4 := hb4.non hc7
    replace hat4 := hat4.non hc7
    replace hv6 := hv6.non hc7
    have x5 := hb4.cell 5
    have x6 := hb4.cell 6
    have x7 := hb4.cell 7
    have x8 := hb4.cell 8
    have x0 := hb4.cell 0
    simp only [List.getElem?_toArray, List.getElem?_cons_zero, List.getElem?_cons_succ] at x0 x5 x6 x7 x8
    have hown : OwnR rkN (((w7.alloc (.cells #[.slice (some ⟨w6.heap.size, 0, none⟩) C.id.size c7] 34)).alloc (.cells #[.int .i64 C.err, .int .i64 C.val] 3)).alloc (.cells #[.int .i64 C.fn, .int .i64 (k3 : Int)] 3)) ((w7.alloc (.cells #[.slice (some ⟨w6.heap.size, 0, none⟩) C.id.size c7] 34)).alloc (.cells #[.int .i64 C.err, .int .i64 C.val] 3)).heap.size (.slice (some ⟨((w7.alloc (.cells #[.slice (some ⟨w6.heap.size, 0, none⟩) C.id.size c7] 34)).alloc (.cells #[.int .i64 C.err, .int .i64 C.val] 3)).heap.size, 0, none⟩) 2 2) 2 (iv [C.fn, (k3 : Int)]) := World.ownsRow_lit (base := ((w7.alloc (.cells #[.slice (some ⟨w6.heap.size, 0, none⟩) C.id.size c7] 34)).alloc (.cells #[.int .i64 C.err, .int .i64 C.val] 3)).heap.size) (e := 3) (size := 1) ((w7.alloc (.cells #[.slice (some ⟨w6.heap.size, 0, none⟩) C.id.size c7] 34)).alloc (.cells #[.int .i64 C.err, .int .i64 C.val] 3)) #[.int .i64 C.fn, .int .i64 (k3 : Int)] 2 (Nat.le_refl _) (by unfold maxLen; omega) rfl
    have hcE : Chg Non ((w7.alloc (.cells #[.slice (some ⟨w6.heap.size, 0, none⟩) C.id.size c7] 34)).alloc (.cells #[.int .i64 C.err, .int .i64 C.val] 3)) (((w7.alloc (.cells #[.slice (some ⟨w6.heap.size, 0, none⟩) C.id.size c7] 34)).alloc (.cells #[.int .i64 C.err, .int .i64 C.val] 3)).alloc (.cells #[.int .i64 C.fn, .int .i64 (k3 : Int)] 3)) := (Chg.refl _ _).alloc _
    have hcI : Chg Non (w7.alloc (.cells #[.slice (some ⟨w6.heap.size, 0, none⟩) C.id.size c7] 34)) (((w7.alloc (.cells #[.slice (some ⟨w6.heap.size, 0, none⟩) C.id.size c7] 34)).alloc (.cells #[.int .i64 C.err, .int .i64 C.val] 3)).alloc (.cells #[.int .i64 C.fn, .int .i64 (k3 : Int)] 3)) := ((Chg.refl _ _).alloc _).alloc _
    have hc9 : Chg Non w7 (((w7.alloc (.cells #[.slice (some ⟨w6.heap.size, 0, none⟩) C.id.size c7] 34)).alloc (.cells #[.int .i64 C.err, .int .i64 C.val] 3)).alloc (.cells #[.int .i64 C.fn, .int .i64 (k3 : Int)] 3)) := (((Chg.refl _ _).alloc _).alloc _).alloc _
    have hT : Txts (w7.alloc (.cells #[.slice (some ⟨w6.heap.size, 0, none⟩) C.id.size c7] 34)) (some ⟨w7.heap.size, 0, none⟩) 1 [idL C.id] := Txts.one (Blk.new w7 34 #[.slice (some ⟨w6.heap.size, 0, none⟩) C.id.size c7]) hc71 hc72 (hrb.non ((Chg.refl _ _).alloc _))
    have hE : Rds ((w7.alloc (.cells #[.slice (some ⟨w6.heap.size, 0, none⟩) C.id.size c7] 34)).alloc (.cells #[.int .i64 C.err, .int .i64 C.val] 3)) 1 (some ⟨w7.heap.size + 1, 0, none⟩) 2 (iv [C.err, C.val]) := by
      have h9 := rds2 (w7.alloc (.cells #[.slice (some ⟨w6.heap.size, 0, none⟩) C.id.size c7] 34)) C.err C.val
      rw [World.size_alloc] at h9
      exact h9
    have hra := hat4.args.non hc9
    have hsI : (w7.alloc (.cells #[.slice (some ⟨w6.heap.size, 0, none⟩) C.id.size c7] 34)).heap.size ≤ ((w7.alloc (.cells #[.slice (some ⟨w6.heap.size, 0, none⟩) C.id.size c7] 34)).alloc (.cells #[.int .i64 C.err, .int .i64 C.val] 3)).heap.size := by simp only [World.size_alloc]; omega
    have hs7 : w7.heap.size ≤ ((w7.alloc (.cells #[.slice (some ⟨w6.heap.size, 0, none⟩) C.id.size c7] 34)).alloc (.cells #[.int .i64 C.err, .int .i64 C.val] 3)).heap.size := by simp only [World.size_alloc]; omega
    clear hc7
    have hl7 := hb4.lt
    have hl71 : w.heap.size < w7.heap.size + 1 := by omega
    have hl72 : w.heap.size < w7.heap.size + 1 + 1 := by omega
    have Hown := Lib.hid hown
    have HT := Lib.hid hT
    have HE := Lib.hid hE
    have HsI := Lib.hid hsI
    have Hs7 := Lib.hid hs7
    simp only [World.size_alloc] at hown
    clear hT hE hsI hs7 hl7
    have hl7 := hb4.lt
    have hlen6 : (num C.kind).length ≤ 10 := (num_len C.kind).2
    go_upto_region 9 with (at_builtin; go_must (refine appR (K := rkN) rfl (.tmp 36) (.tmp 38) rfl hown rfl hra rfl (iv_one' C.args) ?_ ?_ ?_; (next => omega); (next => simp only [World.size_alloc]; omega); intro v9 w9 hown9 hc9b _; have hC9 := OwnR.chgApp hown hc9 (by omega) hc9b; have hT := HT.out.non (OwnR.chgApp hown hcI (by simp only [World.size_alloc]; omega) hc9b); have hE := HE.out.non (OwnR.chgApp hown hcE (by simp only [World.size_alloc]; exact Nat.le_refl _) hc9b); obtain ⟨A8, c8, rfl, _, _, hr8, _⟩ := hown9.open_; replace hC := hC.non hC9; replace hb4 := hb4.non hC9; replace hat4 := hat4.non hC9; replace hv6 := hv6.non hC9; clear hown hc9 hcI hcE hra hc9b hC9 HT HE HsI Hs7 Hown hown9))
    have hr8 : Rds w9 1 A8 (2 + k3) (iv (C.fn :: (k3 : Int) :: C.args)) := hr8
    have x0 := hb4.cell 0
    have x1 := hb4.cell 1
    have x2 := hb4.cell 2
    have x3 := hb4.cell 3
    have x9 := hb4.cell 9
    have x10 := hb4.cell 10
    simp only [NtC, List.getElem?_toArray, List.getElem?_cons_zero, List.getElem?_cons_succ] at x0 x1 x2 x3 x9 x10
    rcases kinds hK with hk | hk | hk | hk | hk | hk | hk | hk | hk | hk
    · skip
      go_wp2_with fail
      clear x0 x1 x2 x3 x9 x10
      obtain ⟨w10, ew10⟩ : ∃ wq, w9.alloc (.cells #[.int .i64 C.node, .int .i64 C.life] 3) = wq := ⟨_, rfl⟩
      have hc : Chg Non w9 w10 := ew10 ▸ (Chg.refl _ _).alloc _
      have hr : Rds w10 1 (some ⟨w9.heap.size, 0, none⟩) 2 (iv [C.node, C.life]) := by rw [← ew10]; exact rds2 w9 C.node C.life
      rw [ew10]
      clear ew10
      replace hC := hC.non hc
      replace hb4 := hb4.non hc
      replace hv6 := hv6.non hc
      replace hT := hT.non hc
      replace hE := hE.non hc
      replace hr8 := hr8.non hc
      clear hc
      have hnl := nums_len [C.node, C.life]
      simp only [List.length_cons, List.length_nil] at hnl
      refine (refInt_any A6 n6 c6 (num C.kind) _ 2 2 [C.node, C.life] w10 hv6.rdsN hr (by simpa using ⟨hok.node, hok.life⟩) (by simp only [List.length_cons, List.length_nil]; omega)).mono ?_
      rintro e w11 ⟨v6, rfl, hv6n, hc⟩
      clear hv6
      have hv6 := hv6n
      clear hv6n hr
      replace hv6 := Own8.base hv6 hC.size
      replace hC := hC.non hc
      replace hb4 := hb4.non hc
      replace hT := hT.non hc
      replace hE := hE.non hc
      replace hr8 := hr8.non hc
      have hlen7 : (num C.kind ++ nums [C.node, C.life]).length ≤ 30 := by rw [List.length_append]; omega
      clear hlen6
      have hlen6 := hlen7
      clear hlen7 hc
      obtain ⟨A6, n6, c6, rfl, _⟩ := Own8.open_ hv6
      go_wp2_with fail
      go_ret2
      have hbs : C.bytes = num C.kind ++ nums [C.node, C.life] := by have := Hkl.out; simp [Nt.bytes, hk, partsL, putP, nums, texts, *]
      exact ⟨_, by rw [He.out]; rfl, by rw [Hp.out, hbs]; exact hv6, hC⟩
    · skip
      go_wp2_with fail
      clear x0 x1 x2 x3
      have hm64 : i64 (m3 : Int) := by unfold i64; omega
      clear x9 x10
      obtain ⟨w10, ew10⟩ : ∃ wq, w9.alloc (.cells #[.int .i64 C.vep, .int .i64 (m3 : Int)] 3) = wq := ⟨_, rfl⟩
      have hc : Chg Non w9 w10 := ew10 ▸ (Chg.refl _ _).alloc _
      have hr : Rds w10 1 (some ⟨w9.heap.size, 0, none⟩) 2 (iv [C.vep, (m3 : Int)]) := by rw [← ew10]; exact rds2 w9 C.vep (m3 : Int)
      rw [ew10]
      clear ew10
      replace hC := hC.non hc
      replace hb4 := hb4.non hc
      replace hv6 := hv6.non hc
      replace hT := hT.non hc
      replace hE := hE.non hc
      replace hr8 := hr8.non hc
      have hcKeep := hc
      clear hc
      have hnl := nums_len [C.vep, (m3 : Int)]
      simp only [List.length_cons, List.length_nil] at hnl
      have hc910 : Chg Non w9 w10 := hcKeep
      clear hcKeep
      refine (refInt_any A6 n6 c6 (num C.kind) _ 2 2 [C.vep, (m3 : Int)] w10 hv6.rdsN hr (by simpa using ⟨hok.vep, hm64⟩) (by simp only [List.length_cons, List.length_nil]; omega)).mono ?_
      rintro e w11 ⟨v6, rfl, hv6n, hc⟩
      clear hv6
      have hv6 := hv6n
      clear hv6n hr
      have hc911 := hc910.non hc
      replace hv6 := Own8.base hv6 hC.size
      replace hC := hC.non hc
      replace hb4 := hb4.non hc
      replace hT := hT.non hc
      replace hE := hE.non hc
      replace hr8 := hr8.non hc
      have hlen7 : (num C.kind ++ nums [C.vep, (m3 : Int)]).length ≤ 30 := by rw [List.length_append]; omega
      clear hlen6
      have hlen6 := hlen7
      clear hlen7 hc
      obtain ⟨A6, n6, c6, rfl, _⟩ := Own8.open_ hv6
      have x10 := hb4.cell 10
      simp only [NtC, List.getElem?_toArray, List.getElem?_cons_zero, List.getElem?_cons_succ] at x10
      have hmm := hat4.mems.non (show Chg Non w9 w11 from hc911)
      have hmo := hok.mems
      go_wp2_with fail
      clear x10
      go_loopw [5, 9] (fun v i wr => ∃ q : Nat, q ≤ m3 ∧ i = .int .i64 q ∧ Own8 wr w.heap.size v (num C.kind ++ nums [C.vep, (m3 : Int)] ++ (C.mems.take q).flatMap memB) ∧ Chg Non w11 wr) (fun _ i _ => m3 - (intOf i).toNat)
      case atStart => exact ⟨0, Nat.zero_le _, rfl, by simpa [Own8] using hv6, Chg.refl _ _⟩
      case round =>
        obtain ⟨q, hq, rfl, hown, hCr⟩ := hrel
        have hbr := hb4.non hCr
        have hCw := hC.non hCr
        by_cases hlt : q < m3
        · obtain ⟨ad, x, hB, hx, hx0, hx1⟩ := (hmm.non hCr).getM hlt
          obtain ⟨hi1, hi2⟩ := hmo x (List.mem_of_getElem? hx)
          have hst : (C.mems.take (q + 1)).flatMap memB = (C.mems.take q).flatMap memB ++ (num x.1 ++ num x.2) := by rw [List.take_add_one, hx]; simp [memB]
          have hl9 : ((C.mems.take q).flatMap memB).length ≤ 320 := by
            have h1 := mems_len (C.mems.take q)
            have h2 : (C.mems.take q).length ≤ q := List.length_take_le _ _
            omega
          have Hst := Lib.hid hst
          clear hst hx
          obtain ⟨A5, n5, c5, rfl, hn5, h51, h52, hr5⟩ := hown.open_
          subst hB
          have x10 := hbr.cell 10
          simp only [NtC, List.getElem?_toArray, List.getElem?_cons_zero, List.getElem?_cons_succ] at x10
          have kv : ∀ w2, Chg Non wr w2 → w2.cell? ⟨w.heap.size, 10, none⟩ = some (.slice (some ad) m3 d3) := fun w2 h => h.cell x10 id
          have kx0 : ∀ w2, Chg Non wr w2 → _ := fun w2 h => h.cell hx0 id
          have kx1 : ∀ w2, Chg Non wr w2 → _ := fun w2 h => h.cell hx1 id
          clear hx0 hx1 hr8 hE hT
          go_wp2_with fail
          clear x10
          refine st_region 8 Non [16] [15] (fun _ _ _ _ => True) (fun i _ v w2 => Own8 w2 w.heap.size v (num C.kind ++ nums [C.vep, (m3 : Int)] ++ (C.mems.take q).flatMap memB ++ (num x.1 ++ num x.2))) (fun _ _ v => ∃ A n c, v = .slice A n c) (fun _ => True) (by kernel_rfl) (by kernel_rfl) (fun _ h => h.elim) trivial (fun _ _ _ => trivial) ?_
          repeat (first | (refine st_pass (by rfl) ?_; simp only [Act.put, List.setIfInBounds_toArray, List.set_cons_succ, List.set_cons_zero]) | (refine st_plain (Non) (wr) rfl rfl (f := ?_) (by rfl) rfl rfl (fun w hC hG => ?_) ?_; rotate_left; (clear hG; first | (go_simp; done) | (go_simp; with_reducible rfl) | (simp [*, go_sem, ↓IntWalk.iteOmega]; done) | (simp [*, go_sem, ↓IntWalk.iteOmega]; with_reducible rfl)); simp only [Act.put, List.setIfInBounds_toArray, List.set_cons_succ, List.set_cons_zero]))
          refine st_minor Non wr rfl rfl (ob := .cells #[.int .i64 x.1, .int .i64 x.2] 3) (kd := some (2, 2)) (by rfl) rfl rfl (fun w hC hG => by clear hG; go_simp; rfl) (fun g2 => ?_)
          simp only [Act.put, List.setIfInBounds_toArray, List.set_cons_succ, List.set_cons_zero]
          refine st_major (Non) (wr) rfl rfl (by rfl) rfl (⟨.slice none 0 0, none, 0, 0, rfl⟩) (fun v w w2 _ h2 h => Own8.non h h2) (fun _ _ _ _ => trivial) (fun w hC hG hS => settle_of (r2 := ?_) ?_ ?_) ?_
          rotate_left
          (first | (go_simp; done) | (go_simp; rfl))
          · have hB2 : Rds w 1 (some ⟨g2, 0, none⟩) 2 (iv [x.1, x.2]) := Rds.block (cs := #[.int .i64 x.1, .int .i64 x.2]) (show w.heap[g2]? = _ from (hG 15 rfl).2) rfl
            refine settle_enter ((refInt_any _ _ _ (num C.kind ++ nums [C.vep, (m3 : Int)] ++ (C.mems.take q).flatMap memB) _ _ _ [x.1, x.2] _ (hr5.non hC) hB2 (by simpa using ⟨hi1, hi2⟩) (by simp only [List.length_append, List.length_cons, List.length_nil] at hlen6 ⊢; omega)).mono ?_)
            rintro e w6 ⟨v6, rfl, h8, hc6⟩
            obtain ⟨A6, n6, c6, hv6, _⟩ := h8.open_
            rw [show nums [x.1, x.2] = num x.1 ++ num x.2 from by simp [nums]] at h8
            exact ⟨v6, rfl, ⟨A6, n6, c6, hv6⟩, hc6, trivial, Own8.base h8 (Nat.le_trans hCw.size hC.size)⟩
          · rintro v4 ⟨A6, n6, c6, rfl⟩
            simp only [Act.put, List.setIfInBounds_toArray, List.set_cons_succ, List.set_cons_zero]
            repeat (first | (refine st_pass (by rfl) ?_; simp only [Act.put, List.setIfInBounds_toArray, List.set_cons_succ, List.set_cons_zero]) | (refine st_plain (Non) (wr) rfl rfl (f := ?_) (by rfl) rfl rfl (fun w hC hG => ?_) ?_; rotate_left; (clear hG; first | (go_simp; done) | (go_simp; with_reducible rfl) | (simp [*, go_sem, ↓IntWalk.iteOmega]; done) | (simp [*, go_sem, ↓IntWalk.iteOmega]; with_reducible rfl)); simp only [Act.put, List.setIfInBounds_toArray, List.set_cons_succ, List.set_cons_zero]))
            refine st_end Non wr rfl rfl (fun w5 hC5 _ hG => ?_)
            have h8 : Own8 w5 w.heap.size (.slice A6 n6 c6) (num C.kind ++ nums [C.vep, (m3 : Int)] ++ (C.mems.take q).flatMap memB ++ (num x.1 ++ num x.2)) := hG 16
            have hC6 := hCr.non hC5
            clear hG kv kx0 kx1
            go_wp2_with fail
            go_roundw
            case rel => exact ⟨q + 1, by omega, by go_num, by rw [Hst.out, ← List.append_assoc]; exact h8, hC6⟩
            case measure => simp [intOf]; omega
        · obtain rfl : q = m3 := by omega
          rw [List.take_of_length_le (by have := Hml.out; omega)] at hown
          obtain ⟨A5, n5, c5, rfl, hn5, h51, h52, hr5⟩ := hown.open_
          have x10 := hbr.cell 10
          simp only [NtC, List.getElem?_toArray, List.getElem?_cons_zero, List.getElem?_cons_succ] at x10
          go_wp2_with fail
          go_ret2
          have hbs : C.bytes = num C.kind ++ nums [C.vep, (q : Int)] ++ C.mems.flatMap memB := by have := Hml.out; simp [Nt.bytes, hk, partsL, putP, nums, this]
          exact ⟨_, by rw [He.out]; rfl, by rw [Hp.out, hbs]; exact hown, hCw⟩
    · skip
      go_wp2_with fail
      clear x0 x1 x2 x3 x9 x10
      obtain ⟨w10, ew10⟩ : ∃ wq, w9.alloc (.cells #[.int .i64 C.epoch, .int .i64 C.node] 3) = wq := ⟨_, rfl⟩
      have hc : Chg Non w9 w10 := ew10 ▸ (Chg.refl _ _).alloc _
      have hr : Rds w10 1 (some ⟨w9.heap.size, 0, none⟩) 2 (iv [C.epoch, C.node]) := by rw [← ew10]; exact rds2 w9 C.epoch C.node
      rw [ew10]
      clear ew10
      replace hC := hC.non hc
      replace hb4 := hb4.non hc
      replace hv6 := hv6.non hc
      replace hT := hT.non hc
      replace hE := hE.non hc
      replace hr8 := hr8.non hc
      clear hc
      have hnl := nums_len [C.epoch, C.node]
      simp only [List.length_cons, List.length_nil] at hnl
      refine (refInt_any A6 n6 c6 (num C.kind) _ 2 2 [C.epoch, C.node] w10 hv6.rdsN hr (by simpa using ⟨hok.epoch, hok.node⟩) (by simp only [List.length_cons, List.length_nil]; omega)).mono ?_
      rintro e w11 ⟨v6, rfl, hv6n, hc⟩
      clear hv6
      have hv6 := hv6n
      clear hv6n hr
      replace hv6 := Own8.base hv6 hC.size
      replace hC := hC.non hc
      replace hb4 := hb4.non hc
      replace hT := hT.non hc
      replace hE := hE.non hc
      replace hr8 := hr8.non hc
      have hlen7 : (num C.kind ++ nums [C.epoch, C.node]).length ≤ 30 := by rw [List.length_append]; omega
      clear hlen6
      have hlen6 := hlen7
      clear hlen7 hc
      obtain ⟨A6, n6, c6, rfl, _⟩ := Own8.open_ hv6
      go_wp2_with fail
      go_ret2
      have hbs : C.bytes = num C.kind ++ nums [C.epoch, C.node] := by have := Hkl.out; simp [Nt.bytes, hk, partsL, putP, nums, texts, *]
      exact ⟨_, by rw [He.out]; rfl, by rw [Hp.out, hbs]; exact hv6, hC⟩
    · skip
      go_wp2_with fail
      clear x0 x1 x2 x3 x9 x10
      obtain ⟨w10, ew10⟩ : ∃ wq, w9.alloc (.cells #[.int .i64 C.epoch, .int .i64 C.life] 3) = wq := ⟨_, rfl⟩
      have hc : Chg Non w9 w10 := ew10 ▸ (Chg.refl _ _).alloc _
      have hr : Rds w10 1 (some ⟨w9.heap.size, 0, none⟩) 2 (iv [C.epoch, C.life]) := by rw [← ew10]; exact rds2 w9 C.epoch C.life
      rw [ew10]
      clear ew10
      replace hC := hC.non hc
      replace hb4 := hb4.non hc
      replace hv6 := hv6.non hc
      replace hT := hT.non hc
      replace hE := hE.non hc
      replace hr8 := hr8.non hc
      clear hc
      have hnl := nums_len [C.epoch, C.life]
      simp only [List.length_cons, List.length_nil] at hnl
      refine (refInt_any A6 n6 c6 (num C.kind) _ 2 2 [C.epoch, C.life] w10 hv6.rdsN hr (by simpa using ⟨hok.epoch, hok.life⟩) (by simp only [List.length_cons, List.length_nil]; omega)).mono ?_
      rintro e w11 ⟨v6, rfl, hv6n, hc⟩
      clear hv6
      have hv6 := hv6n
      clear hv6n hr
      replace hv6 := Own8.base hv6 hC.size
      replace hC := hC.non hc
      replace hb4 := hb4.non hc
      replace hT := hT.non hc
      replace hE := hE.non hc
      replace hr8 := hr8.non hc
      have hlen7 : (num C.kind ++ nums [C.epoch, C.life]).length ≤ 30 := by rw [List.length_append]; omega
      clear hlen6
      have hlen6 := hlen7
      clear hlen7 hc
      obtain ⟨A6, n6, c6, rfl, _⟩ := Own8.open_ hv6
      go_wp2_with fail
      have hnl : (texts [idL C.id]).length ≤ 30 := by have := (num_len ((idL C.id).length : Int)).2; have := Hid.out; simp [texts, text]; omega
      refine (refTexts_any A6 n6 c6 (num C.kind ++ nums [C.epoch, C.life]) _ _ _ [idL C.id] w11 hv6.rdsN hT (by omega)).mono ?_
      rintro e w12 ⟨v6, rfl, hv6n, hc⟩
      clear hv6
      have hv6 := hv6n
      clear hv6n
      replace hv6 := Own8.base hv6 hC.size
      replace hC := hC.non hc
      replace hb4 := hb4.non hc
      replace hT := hT.non hc
      replace hE := hE.non hc
      replace hr8 := hr8.non hc
      have hlen7 : (num C.kind ++ nums [C.epoch, C.life] ++ texts [idL C.id]).length ≤ 60 := by rw [List.length_append]; omega
      clear hlen6
      have hlen6 := hlen7
      clear hlen7 hc
      obtain ⟨A6, n6, c6, rfl, _⟩ := Own8.open_ hv6
      go_wp2_with fail
      have hnl := nums_len (C.fn :: (k3 : Int) :: C.args)
      simp only [List.length_cons, List.length_nil] at hnl
      refine (refInt_any A6 n6 c6 (num C.kind ++ nums [C.epoch, C.life] ++ texts [idL C.id]) _ _ _ (C.fn :: (k3 : Int) :: C.args) w12 hv6.rdsN hr8 (by intro x hx; simp only [List.mem_cons] at hx; rcases hx with rfl | rfl | hx; (· exact hok.fn); (· unfold i64; omega); exact hok.args x hx) (by simp only [List.length_cons, List.length_nil]; have := Hkl.out; omega)).mono ?_
      rintro e w13 ⟨v6, rfl, hv6n, hc⟩
      clear hv6
      have hv6 := hv6n
      clear hv6n
      have := Hkl.out
      replace hv6 := Own8.base hv6 hC.size
      replace hC := hC.non hc
      replace hb4 := hb4.non hc
      replace hT := hT.non hc
      replace hE := hE.non hc
      replace hr8 := hr8.non hc
      have hlen7 : (num C.kind ++ nums [C.epoch, C.life] ++ texts [idL C.id] ++ nums (C.fn :: (k3 : Int) :: C.args)).length ≤ 160 := by rw [List.length_append]; omega
      clear hlen6
      have hlen6 := hlen7
      clear hlen7 hc
      obtain ⟨A6, n6, c6, rfl, _⟩ := Own8.open_ hv6
      go_wp2_with fail
      go_ret2
      have hbs : C.bytes = num C.kind ++ nums [C.epoch, C.life] ++ texts [idL C.id] ++ nums (C.fn :: (k3 : Int) :: C.args) := by have := Hkl.out; simp [Nt.bytes, hk, partsL, putP, nums, texts, *]
      exact ⟨_, by rw [He.out]; rfl, by rw [Hp.out, hbs]; exact hv6, hC⟩
    · skip
      go_wp2_with fail
      clear x0 x1 x2 x3 x9 x10
      obtain ⟨w10, ew10⟩ : ∃ wq, w9.alloc (.cells #[.int .i64 C.epoch, .int .i64 C.life, .int .i64 C.node] 3) = wq := ⟨_, rfl⟩
      have hc : Chg Non w9 w10 := ew10 ▸ (Chg.refl _ _).alloc _
      have hr : Rds w10 1 (some ⟨w9.heap.size, 0, none⟩) 3 (iv [C.epoch, C.life, C.node]) := by rw [← ew10]; exact rds3 w9 C.epoch C.life C.node
      rw [ew10]
      clear ew10
      replace hC := hC.non hc
      replace hb4 := hb4.non hc
      replace hv6 := hv6.non hc
      replace hT := hT.non hc
      replace hE := hE.non hc
      replace hr8 := hr8.non hc
      clear hc
      have hnl := nums_len [C.epoch, C.life, C.node]
      simp only [List.length_cons, List.length_nil] at hnl
      refine (refInt_any A6 n6 c6 (num C.kind) _ 3 3 [C.epoch, C.life, C.node] w10 hv6.rdsN hr (by simpa using ⟨hok.epoch, hok.life, hok.node⟩) (by simp only [List.length_cons, List.length_nil]; omega)).mono ?_
      rintro e w11 ⟨v6, rfl, hv6n, hc⟩
      clear hv6
      have hv6 := hv6n
      clear hv6n hr
      replace hv6 := Own8.base hv6 hC.size
      replace hC := hC.non hc
      replace hb4 := hb4.non hc
      replace hT := hT.non hc
      replace hE := hE.non hc
      replace hr8 := hr8.non hc
      have hlen7 : (num C.kind ++ nums [C.epoch, C.life, C.node]).length ≤ 40 := by rw [List.length_append]; omega
      clear hlen6
      have hlen6 := hlen7
      clear hlen7 hc
      obtain ⟨A6, n6, c6, rfl, _⟩ := Own8.open_ hv6
      go_wp2_with fail
      have hnl : (texts [idL C.id]).length ≤ 30 := by have := (num_len ((idL C.id).length : Int)).2; have := Hid.out; simp [texts, text]; omega
      refine (refTexts_any A6 n6 c6 (num C.kind ++ nums [C.epoch, C.life, C.node]) _ _ _ [idL C.id] w11 hv6.rdsN hT (by omega)).mono ?_
      rintro e w12 ⟨v6, rfl, hv6n, hc⟩
      clear hv6
      have hv6 := hv6n
      clear hv6n
      replace hv6 := Own8.base hv6 hC.size
      replace hC := hC.non hc
      replace hb4 := hb4.non hc
      replace hT := hT.non hc
      replace hE := hE.non hc
      replace hr8 := hr8.non hc
      have hlen7 : (num C.kind ++ nums [C.epoch, C.life, C.node] ++ texts [idL C.id]).length ≤ 70 := by rw [List.length_append]; omega
      clear hlen6
      have hlen6 := hlen7
      clear hlen7 hc
      obtain ⟨A6, n6, c6, rfl, _⟩ := Own8.open_ hv6
      go_wp2_with fail
      go_ret2
      have hbs : C.bytes = num C.kind ++ nums [C.epoch, C.life, C.node] ++ texts [idL C.id] := by have := Hkl.out; simp [Nt.bytes, hk, partsL, putP, nums, texts, *]
      exact ⟨_, by rw [He.out]; rfl, by rw [Hp.out, hbs]; exact hv6, hC⟩
    · skip
      go_wp2_with fail
      clear x0 x1 x2 x3 x9 x10
      obtain ⟨w10, ew10⟩ : ∃ wq, w9.alloc (.cells #[.int .i64 C.epoch, .int .i64 C.life, .int .i64 C.node] 3) = wq := ⟨_, rfl⟩
      have hc : Chg Non w9 w10 := ew10 ▸ (Chg.refl _ _).alloc _
      have hr : Rds w10 1 (some ⟨w9.heap.size, 0, none⟩) 3 (iv [C.epoch, C.life, C.node]) := by rw [← ew10]; exact rds3 w9 C.epoch C.life C.node
      rw [ew10]
      clear ew10
      replace hC := hC.non hc
      replace hb4 := hb4.non hc
      replace hv6 := hv6.non hc
      replace hT := hT.non hc
      replace hE := hE.non hc
      replace hr8 := hr8.non hc
      clear hc
      have hnl := nums_len [C.epoch, C.life, C.node]
      simp only [List.length_cons, List.length_nil] at hnl
      refine (refInt_any A6 n6 c6 (num C.kind) _ 3 3 [C.epoch, C.life, C.node] w10 hv6.rdsN hr (by simpa using ⟨hok.epoch, hok.life, hok.node⟩) (by simp only [List.length_cons, List.length_nil]; omega)).mono ?_
      rintro e w11 ⟨v6, rfl, hv6n, hc⟩
      clear hv6
      have hv6 := hv6n
      clear hv6n hr
      replace hv6 := Own8.base hv6 hC.size
      replace hC := hC.non hc
      replace hb4 := hb4.non hc
      replace hT := hT.non hc
      replace hE := hE.non hc
      replace hr8 := hr8.non hc
      have hlen7 : (num C.kind ++ nums [C.epoch, C.life, C.node]).length ≤ 40 := by rw [List.length_append]; omega
      clear hlen6
      have hlen6 := hlen7
      clear hlen7 hc
      obtain ⟨A6, n6, c6, rfl, _⟩ := Own8.open_ hv6
      go_wp2_with fail
      have hnl : (texts [idL C.id]).length ≤ 30 := by have := (num_len ((idL C.id).length : Int)).2; have := Hid.out; simp [texts, text]; omega
      refine (refTexts_any A6 n6 c6 (num C.kind ++ nums [C.epoch, C.life, C.node]) _ _ _ [idL C.id] w11 hv6.rdsN hT (by omega)).mono ?_
      rintro e w12 ⟨v6, rfl, hv6n, hc⟩
      clear hv6
      have hv6 := hv6n
      clear hv6n
      replace hv6 := Own8.base hv6 hC.size
      replace hC := hC.non hc
      replace hb4 := hb4.non hc
      replace hT := hT.non hc
      replace hE := hE.non hc
      replace hr8 := hr8.non hc
      have hlen7 : (num C.kind ++ nums [C.epoch, C.life, C.node] ++ texts [idL C.id]).length ≤ 70 := by rw [List.length_append]; omega
      clear hlen6
      have hlen6 := hlen7
      clear hlen7 hc
      obtain ⟨A6, n6, c6, rfl, _⟩ := Own8.open_ hv6
      go_wp2_with fail
      go_ret2
      have hbs : C.bytes = num C.kind ++ nums [C.epoch, C.life, C.node] ++ texts [idL C.id] := by have := Hkl.out; simp [Nt.bytes, hk, partsL, putP, nums, texts, *]
      exact ⟨_, by rw [He.out]; rfl, by rw [Hp.out, hbs]; exact hv6, hC⟩
    · skip
      go_wp2_with fail
      clear x0 x1 x2 x3 x9 x10
      obtain ⟨w10, ew10⟩ : ∃ wq, w9.alloc (.cells #[.int .i64 C.epoch, .int .i64 C.node] 3) = wq := ⟨_, rfl⟩
      have hc : Chg Non w9 w10 := ew10 ▸ (Chg.refl _ _).alloc _
      have hr : Rds w10 1 (some ⟨w9.heap.size, 0, none⟩) 2 (iv [C.epoch, C.node]) := by rw [← ew10]; exact rds2 w9 C.epoch C.node
      rw [ew10]
      clear ew10
      replace hC := hC.non hc
      replace hb4 := hb4.non hc
      replace hv6 := hv6.non hc
      replace hT := hT.non hc
      replace hE := hE.non hc
      replace hr8 := hr8.non hc
      clear hc
      have hnl := nums_len [C.epoch, C.node]
      simp only [List.length_cons, List.length_nil] at hnl
      refine (refInt_any A6 n6 c6 (num C.kind) _ 2 2 [C.epoch, C.node] w10 hv6.rdsN hr (by simpa using ⟨hok.epoch, hok.node⟩) (by simp only [List.length_cons, List.length_nil]; omega)).mono ?_
      rintro e w11 ⟨v6, rfl, hv6n, hc⟩
      clear hv6
      have hv6 := hv6n
      clear hv6n hr
      replace hv6 := Own8.base hv6 hC.size
      replace hC := hC.non hc
      replace hb4 := hb4.non hc
      replace hT := hT.non hc
      replace hE := hE.non hc
      replace hr8 := hr8.non hc
      have hlen7 : (num C.kind ++ nums [C.epoch, C.node]).length ≤ 30 := by rw [List.length_append]; omega
      clear hlen6
      have hlen6 := hlen7
      clear hlen7 hc
      obtain ⟨A6, n6, c6, rfl, _⟩ := Own8.open_ hv6
      go_wp2_with fail
      have hnl : (texts [idL C.id]).length ≤ 30 := by have := (num_len ((idL C.id).length : Int)).2; have := Hid.out; simp [texts, text]; omega
      refine (refTexts_any A6 n6 c6 (num C.kind ++ nums [C.epoch, C.node]) _ _ _ [idL C.id] w11 hv6.rdsN hT (by omega)).mono ?_
      rintro e w12 ⟨v6, rfl, hv6n, hc⟩
      clear hv6
      have hv6 := hv6n
      clear hv6n
      replace hv6 := Own8.base hv6 hC.size
      replace hC := hC.non hc
      replace hb4 := hb4.non hc
      replace hT := hT.non hc
      replace hE := hE.non hc
      replace hr8 := hr8.non hc
      have hlen7 : (num C.kind ++ nums [C.epoch, C.node] ++ texts [idL C.id]).length ≤ 60 := by rw [List.length_append]; omega
      clear hlen6
      have hlen6 := hlen7
      clear hlen7 hc
      obtain ⟨A6, n6, c6, rfl, _⟩ := Own8.open_ hv6
      go_wp2_with fail
      have hnl := nums_len ([C.err, C.val])
      simp only [List.length_cons, List.length_nil] at hnl
      refine (refInt_any A6 n6 c6 (num C.kind ++ nums [C.epoch, C.node] ++ texts [idL C.id]) _ _ _ ([C.err, C.val]) w12 hv6.rdsN hE (by simpa using ⟨hok.err, hok.val⟩) (by simp only [List.length_cons, List.length_nil]; omega)).mono ?_
      rintro e w13 ⟨v6, rfl, hv6n, hc⟩
      clear hv6
      have hv6 := hv6n
      clear hv6n
      replace hv6 := Own8.base hv6 hC.size
      replace hC := hC.non hc
      replace hb4 := hb4.non hc
      replace hT := hT.non hc
      replace hE := hE.non hc
      replace hr8 := hr8.non hc
      have hlen7 : (num C.kind ++ nums [C.epoch, C.node] ++ texts [idL C.id] ++ nums ([C.err, C.val])).length ≤ 160 := by rw [List.length_append]; omega
      clear hlen6
      have hlen6 := hlen7
      clear hlen7 hc
      obtain ⟨A6, n6, c6, rfl, _⟩ := Own8.open_ hv6
      go_wp2_with fail
      go_ret2
      have hbs : C.bytes = num C.kind ++ nums [C.epoch, C.node] ++ texts [idL C.id] ++ nums ([C.err, C.val]) := by have := Hkl.out; simp [Nt.bytes, hk, partsL, putP, nums, texts, *]
      exact ⟨_, by rw [He.out]; rfl, by rw [Hp.out, hbs]; exact hv6, hC⟩
    · skip
      go_wp2_with fail
      clear x0 x1 x2 x3 x9 x10
      have hnl : (texts [idL C.id]).length ≤ 30 := by have := (num_len ((idL C.id).length : Int)).2; have := Hid.out; simp [texts, text]; omega
      refine (refTexts_any A6 n6 c6 (num C.kind) _ _ _ [idL C.id] w9 hv6.rdsN hT (by omega)).mono ?_
      rintro e w10 ⟨v6, rfl, hv6n, hc⟩
      clear hv6
      have hv6 := hv6n
      clear hv6n
      replace hv6 := Own8.base hv6 hC.size
      replace hC := hC.non hc
      replace hb4 := hb4.non hc
      replace hT := hT.non hc
      replace hE := hE.non hc
      replace hr8 := hr8.non hc
      have hlen7 : (num C.kind ++ texts [idL C.id]).length ≤ 40 := by rw [List.length_append]; omega
      clear hlen6
      have hlen6 := hlen7
      clear hlen7 hc
      obtain ⟨A6, n6, c6, rfl, _⟩ := Own8.open_ hv6
      go_wp2_with fail
      have hnl := nums_len ([C.err, C.val])
      simp only [List.length_cons, List.length_nil] at hnl
      refine (refInt_any A6 n6 c6 (num C.kind ++ texts [idL C.id]) _ _ _ ([C.err, C.val]) w10 hv6.rdsN hE (by simpa using ⟨hok.err, hok.val⟩) (by simp only [List.length_cons, List.length_nil]; omega)).mono ?_
      rintro e w11 ⟨v6, rfl, hv6n, hc⟩
      clear hv6
      have hv6 := hv6n
      clear hv6n
      replace hv6 := Own8.base hv6 hC.size
      replace hC := hC.non hc
      replace hb4 := hb4.non hc
      replace hT := hT.non hc
      replace hE := hE.non hc
      replace hr8 := hr8.non hc
      have hlen7 : (num C.kind ++ texts [idL C.id] ++ nums ([C.err, C.val])).length ≤ 140 := by rw [List.length_append]; omega
      clear hlen6
      have hlen6 := hlen7
      clear hlen7 hc
      obtain ⟨A6, n6, c6, rfl, _⟩ := Own8.open_ hv6
      go_wp2_with fail
      go_ret2
      have hbs : C.bytes = num C.kind ++ texts [idL C.id] ++ nums ([C.err, C.val]) := by have := Hkl.out; simp [Nt.bytes, hk, partsL, putP, nums, texts, *]
      exact ⟨_, by rw [He.out]; rfl, by rw [Hp.out, hbs]; exact hv6, hC⟩
    · skip
      go_wp2_with fail
      clear x0 x1 x2 x3 x9 x10
      obtain ⟨w10, ew10⟩ : ∃ wq, w9.alloc (.cells #[.int .i64 C.node] 3) = wq := ⟨_, rfl⟩
      have hc : Chg Non w9 w10 := ew10 ▸ (Chg.refl _ _).alloc _
      have hr : Rds w10 1 (some ⟨w9.heap.size, 0, none⟩) 1 (iv [C.node]) := by rw [← ew10]; exact rds1 w9 C.node
      rw [ew10]
      clear ew10
      replace hC := hC.non hc
      replace hb4 := hb4.non hc
      replace hv6 := hv6.non hc
      replace hT := hT.non hc
      replace hE := hE.non hc
      replace hr8 := hr8.non hc
      clear hc
      have hnl := nums_len [C.node]
      simp only [List.length_cons, List.length_nil] at hnl
      refine (refInt_any A6 n6 c6 (num C.kind) _ 1 1 [C.node] w10 hv6.rdsN hr (by simpa using hok.node) (by simp only [List.length_cons, List.length_nil]; omega)).mono ?_
      rintro e w11 ⟨v6, rfl, hv6n, hc⟩
      clear hv6
      have hv6 := hv6n
      clear hv6n hr
      replace hv6 := Own8.base hv6 hC.size
      replace hC := hC.non hc
      replace hb4 := hb4.non hc
      replace hT := hT.non hc
      replace hE := hE.non hc
      replace hr8 := hr8.non hc
      have hlen7 : (num C.kind ++ nums [C.node]).length ≤ 20 := by rw [List.length_append]; omega
      clear hlen6
      have hlen6 := hlen7
      clear hlen7 hc
      obtain ⟨A6, n6, c6, rfl, _⟩ := Own8.open_ hv6
      go_wp2_with fail
      have hnl : (texts [idL C.id]).length ≤ 30 := by have := (num_len ((idL C.id).length : Int)).2; have := Hid.out; simp [texts, text]; omega
      refine (refTexts_any A6 n6 c6 (num C.kind ++ nums [C.node]) _ _ _ [idL C.id] w11 hv6.rdsN hT (by omega)).mono ?_
      rintro e w12 ⟨v6, rfl, hv6n, hc⟩
      clear hv6
      have hv6 := hv6n
      clear hv6n
      replace hv6 := Own8.base hv6 hC.size
      replace hC := hC.non hc
      replace hb4 := hb4.non hc
      replace hT := hT.non hc
      replace hE := hE.non hc
      replace hr8 := hr8.non hc
      have hlen7 : (num C.kind ++ nums [C.node] ++ texts [idL C.id]).length ≤ 50 := by rw [List.length_append]; omega
      clear hlen6
      have hlen6 := hlen7
      clear hlen7 hc
      obtain ⟨A6, n6, c6, rfl, _⟩ := Own8.open_ hv6
      go_wp2_with fail
      go_ret2
      have hbs : C.bytes = num C.kind ++ nums [C.node] ++ texts [idL C.id] := by have := Hkl.out; simp [Nt.bytes, hk, partsL, putP, nums, texts, *]
      exact ⟨_, by rw [He.out]; rfl, by rw [Hp.out, hbs]; exact hv6, hC⟩
    · skip
      go_wp2_with fail
      clear x0 x1 x2 x3 x9 x10
      obtain ⟨w10, ew10⟩ : ∃ wq, w9.alloc (.cells #[.int .i64 C.epoch, .int .i64 C.node] 3) = wq := ⟨_, rfl⟩
      have hc : Chg Non w9 w10 := ew10 ▸ (Chg.refl _ _).alloc _
      have hr : Rds w10 1 (some ⟨w9.heap.size, 0, none⟩) 2 (iv [C.epoch, C.node]) := by rw [← ew10]; exact rds2 w9 C.epoch C.node
      rw [ew10]
      clear ew10
      replace hC := hC.non hc
      replace hb4 := hb4.non hc
      replace hv6 := hv6.non hc
      replace hT := hT.non hc
      replace hE := hE.non hc
      replace hr8 := hr8.non hc
      clear hc
      have hnl := nums_len [C.epoch, C.node]
      simp only [List.length_cons, List.length_nil] at hnl
      refine (refInt_any A6 n6 c6 (num C.kind) _ 2 2 [C.epoch, C.node] w10 hv6.rdsN hr (by simpa using ⟨hok.epoch, hok.node⟩) (by simp only [List.length_cons, List.length_nil]; omega)).mono ?_
      rintro e w11 ⟨v6, rfl, hv6n, hc⟩
      clear hv6
      have hv6 := hv6n
      clear hv6n hr
      replace hv6 := Own8.base hv6 hC.size
      replace hC := hC.non hc
      replace hb4 := hb4.non hc
      replace hT := hT.non hc
      replace hE := hE.non hc
      replace hr8 := hr8.non hc
      have hlen7 : (num C.kind ++ nums [C.epoch, C.node]).length ≤ 30 := by rw [List.length_append]; omega
      clear hlen6
      have hlen6 := hlen7
      clear hlen7 hc
      obtain ⟨A6, n6, c6, rfl, _⟩ := Own8.open_ hv6
      go_wp2_with fail
      have hnl : (texts [idL C.id]).length ≤ 30 := by have := (num_len ((idL C.id).length : Int)).2; have := Hid.out; simp [texts, text]; omega
      refine (refTexts_any A6 n6 c6 (num C.kind ++ nums [C.epoch, C.node]) _ _ _ [idL C.id] w11 hv6.rdsN hT (by omega)).mono ?_
      rintro e w12 ⟨v6, rfl, hv6n, hc⟩
      clear hv6
      have hv6 := hv6n
      clear hv6n
      replace hv6 := Own8.base hv6 hC.size
      replace hC := hC.non hc
      replace hb4 := hb4.non hc
      replace hT := hT.non hc
      replace hE := hE.non hc
      replace hr8 := hr8.non hc
      have hlen7 : (num C.kind ++ nums [C.epoch, C.node] ++ texts [idL C.id]).length ≤ 60 := by rw [List.length_append]; omega
      clear hlen6
      have hlen6 := hlen7
      clear hlen7 hc
      obtain ⟨A6, n6, c6, rfl, _⟩ := Own8.open_ hv6
      go_wp2_with fail
      have hnl := nums_len (C.fn :: (k3 : Int) :: C.args)
      simp only [List.length_cons, List.length_nil] at hnl
      refine (refInt_any A6 n6 c6 (num C.kind ++ nums [C.epoch, C.node] ++ texts [idL C.id]) _ _ _ (C.fn :: (k3 : Int) :: C.args) w12 hv6.rdsN hr8 (by intro x hx; simp only [List.mem_cons] at hx; rcases hx with rfl | rfl | hx; (· exact hok.fn); (· unfold i64; omega); exact hok.args x hx) (by simp only [List.length_cons, List.length_nil]; have := Hkl.out; omega)).mono ?_
      rintro e w13 ⟨v6, rfl, hv6n, hc⟩
      clear hv6
      have hv6 := hv6n
      clear hv6n
      have := Hkl.out
      replace hv6 := Own8.base hv6 hC.size
      replace hC := hC.non hc
      replace hb4 := hb4.non hc
      replace hT := hT.non hc
      replace hE := hE.non hc
      replace hr8 := hr8.non hc
      have hlen7 : (num C.kind ++ nums [C.epoch, C.node] ++ texts [idL C.id] ++ nums (C.fn :: (k3 : Int) :: C.args)).length ≤ 160 := by rw [List.length_append]; omega
      clear hlen6
      have hlen6 := hlen7
      clear hlen7 hc
      obtain ⟨A6, n6, c6, rfl, _⟩ := Own8.open_ hv6
      go_wp2_with fail
      go_ret2
      have hbs : C.bytes = num C.kind ++ nums [C.epoch, C.node] ++ texts [idL C.id] ++ nums (C.fn :: (k3 : Int) :: C.args) := by have := Hkl.out; simp [Nt.bytes, hk, partsL, putP, nums, texts, *]
      exact ⟨_, by rw [He.out]; rfl, by rw [Hp.out, hbs]; exact hv6, hC⟩
end Go.Proofs.Ytclpmadecibofaa
