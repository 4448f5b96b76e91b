/-
  note.Pack.
-/
import Derived.Test.YtflaliomkfbagaaNotePut
namespace Go.Proofs.Ytflaliomkfbagaa
open Go.RowKit
set_option linter.unusedVariables false
set_option linter.unusedSimpArgs false

theorem putP_len {n : Nt} (hmay : n.may = true) {p : Int} (hp : p = 0 ∨ p = 1 ∨ p = 2 ∨ p = 3 ∨ p = 4 ∨ p = 5 ∨ p = 6) : (putP n p).length ≤ 1000 := by
  unfold Nt.may viewB at hmay
  simp only [Bool.and_eq_true, decide_eq_true_eq] at hmay
  obtain ⟨⟨⟨⟨⟨⟨⟨_, _⟩, _⟩, h3⟩, _⟩, h5⟩, _⟩, _, h8⟩ := hmay
  have hid := vid_small h3
  have hidl : (idL n.id).length = n.id.size := by unfold idL; rw [Array.length_toList]; rfl
  have g : ∀ x, (num x).length ≤ 10 := fun x => (num_len x).2
  have hm : ∀ l : List Mb, (l.flatMap memB).length ≤ 20 * l.length := by
    intro l
    induction l with
    | nil => simp
    | cons y l ih =>
      have e1 := g y.1
      have e2 := g y.2
      simp only [List.flatMap_cons, List.length_append, List.length_cons, memB]
      omega
  have h1 := nums_len n.args
  have h2 := hm n.mems
  rcases hp with rfl | rfl | rfl | rfl | rfl | rfl | rfl
  · have := g n.epoch; simp [putP]; omega
  · have := g n.life; simp [putP]; omega
  · have := g n.node; simp [putP]; omega
  · have := g ((idL n.id).length : Int); simp [putP, text]; omega
  · have := g n.fn; have := g (n.args.length : Int); simp [putP]; omega
  · have := g n.err; have := g n.val; simp [putP]; omega
  · have e1 := g n.vep; have e2 := g (n.mems.length : Int); have e3 : (n.mems.flatMap memB).length ≤ 320 := by omega
    show (num n.vep ++ (num n.mems.length ++ n.mems.flatMap memB)).length ≤ 1000
    simp only [List.length_append]; omega
theorem fold_len {n : Nt} (hmay : n.may = true) (q : Nat) : (((partsL n.kind).take q).flatMap (putP n)).length ≤ 4000 := by
  have h0 : ∀ l : List Int, (∀ p ∈ l, p ∈ partsL n.kind) → (l.flatMap (putP n)).length ≤ 1000 * l.length := by
    intro l
    induction l with
    | nil => simp
    | cons p l ih =>
      intro h
      have e1 := putP_len hmay (parts_in (h p (List.mem_cons_self ..)))
      have e2 := ih (fun x hx => h x (List.mem_cons_of_mem _ hx))
      simp only [List.flatMap_cons, List.length_append, List.length_cons]
      omega
  have h1 := h0 ((partsL n.kind).take q) (fun p hp => List.mem_of_mem_take hp)
  have h2 : ((partsL n.kind).take q).length ≤ (partsL n.kind).length := List.length_take_le' _ _
  have h3 := parts_len n.kind
  omega
theorem flat_step {n : Nt} {l : List Int} {q : Nat} {p : Int} (h : l[q]? = some p) : (l.take (q + 1)).flatMap (putP n) = (l.take q).flatMap (putP n) ++ putP n p := by
  rw [List.take_add_one, h]
  simp

set_option maxRecDepth 100000 in
set_option maxHeartbeats 4000000 in
theorem pack_any (w : World) (n : Nt) (A : Option Addr) (k c : Nat) (B : Option Addr) (m d : Nat) (h : NtAt w n A k c B m d) (hk : k ≤ 1099511627776) (hm : m ≤ 1099511627776) :
    Calls Try.prog 40 #[.agg (NtC n A k c B m d)] w fun e w2 => ∃ v, e = .returned (.tuple #[v, .int .i64 n.packErr]) ∧ Own8 w2 w.heap.size v n.pack ∧ Chg Non w w2 := by
  obtain ⟨w1, hw1⟩ : ∃ w1, w.alloc (.cells (NtC n A k c B m d) 59) = w1 := ⟨_, rfl⟩
  have hC1 : Chg Non w w1 := hw1 ▸ (Chg.refl _ _).alloc _
  have hb1 : Blk w1 w.heap.size 59 (NtC n A k c B m d) := hw1 ▸ Blk.new _ _ _
  have h1 := h.non hC1
  have hs1 := hC1.size
  have x0 := hb1.cell 0
  have x1 := hb1.cell 1
  have x2 := hb1.cell 2
  have x3 := hb1.cell 3
  have x4 := hb1.cell 4
  have x5 := hb1.cell 5
  have x6 := hb1.cell 6
  have x7 := hb1.cell 7
  have x8 := hb1.cell 8
  have x9 := hb1.cell 9
  have x10 := hb1.cell 10
  simp only [NtC, List.getElem?_toArray, List.getElem?_cons_zero, List.getElem?_cons_succ] at x0 x1 x2 x3 x4 x5 x6 x7 x8 x9 x10
  unfold NtC at hw1
  obtain ⟨C, hCe⟩ : ∃ C, n.clear = C := ⟨_, rfl⟩
  have HR := Lib.hid (clear_any (n := n))
  go_enter Try.func40, Try.ntmps40
  go_wp2_with fail
  refine (clear_any _ n A k c B m d h1 hk hm).mono ?_
  rintro e w3 ⟨A3, k3, c3, B3, m3, d3, rfl, hown, hc3⟩
  rw [hCe] at hown ⊢
  have HCe := Lib.hid hCe
  clear hCe HR
  have hb3 := hb1.non hc3
  have hC3 := hC1.non hc3
  clear hw1 hb1 hC1 hc3 x0 x1 x2 x3 x4 x5 x6 x7 x8 x9 x10
  have x0 := hb3.cell 0
  have x1 := hb3.cell 1
  have x2 := hb3.cell 2
  have x3 := hb3.cell 3
  have x4 := hb3.cell 4
  have x5 := hb3.cell 5
  have x6 := hb3.cell 6
  have x7 := hb3.cell 7
  have x8 := hb3.cell 8
  have x9 := hb3.cell 9
  have x10 := hb3.cell 10
  simp only [NtC, List.getElem?_toArray, List.getElem?_cons_zero, List.getElem?_cons_succ] at x0 x1 x2 x3 x4 x5 x6 x7 x8 x9 x10
  have f0 := hb3.frozen 0
  have f1 := hb3.frozen 1
  have f2 := hb3.frozen 2
  have f3 := hb3.frozen 3
  have f4 := hb3.frozen 4
  have f5 := hb3.frozen 5
  have f6 := hb3.frozen 6
  have f7 := hb3.frozen 7
  have f8 := hb3.frozen 8
  have f9 := hb3.frozen 9
  have f10 := hb3.frozen 10
  go_wp2_with fail
  clear x0 x1 x2 x3 x4 x5 x6 x7 x8 x9 x10 f0 f1 f2 f3 f4 f5 f6 f7 f8 f9 f10
  obtain ⟨w4, hw4⟩ : ∃ w4, (((((((((((w3.setCell ⟨w.heap.size, 0, none⟩ (.int .i64 C.kind)).setCell ⟨w.heap.size, 1, none⟩ (.int .i64 C.node)).setCell ⟨w.heap.size, 2, none⟩ (.int .i64 C.life)).setCell ⟨w.heap.size, 3, none⟩ (.int .i64 C.epoch)).setCell ⟨w.heap.size, 4, none⟩ (.string C.id)).setCell ⟨w.heap.size, 5, none⟩ (.int .i64 C.fn)).setCell ⟨w.heap.size, 6, none⟩ (.slice A3 k3 c3)).setCell ⟨w.heap.size, 7, none⟩ (.int .i64 C.err)).setCell ⟨w.heap.size, 8, none⟩ (.int .i64 C.val)).setCell ⟨w.heap.size, 9, none⟩ (.int .i64 C.vep)).setCell ⟨w.heap.size, 10, none⟩ (.slice B3 m3 d3)) = w4 := ⟨_, rfl⟩
  have hE : Chg (fun b => b = w.heap.size) w3 w4 := hw4 ▸ chg11 w3 w.heap.size (.int .i64 C.kind) (.int .i64 C.node) (.int .i64 C.life) (.int .i64 C.epoch) (.string C.id) (.int .i64 C.fn) (.slice A3 k3 c3) (.int .i64 C.err) (.int .i64 C.val) (.int .i64 C.vep) (.slice B3 m3 d3)
  have hb4 : Blk w4 w.heap.size 59 (NtC C A3 k3 c3 B3 m3 d3) := hw4 ▸ hb3.put11 (.int .i64 C.kind) (.int .i64 C.node) (.int .i64 C.life) (.int .i64 C.epoch) (.string C.id) (.int .i64 C.fn) (.slice A3 k3 c3) (.int .i64 C.err) (.int .i64 C.val) (.int .i64 C.vep) (.slice B3 m3 d3)
  have hown4 := hown.side hb3 hE
  have hC4 := hC3.trans2 hE (fun b e => .inr (by have e : b = w.heap.size := e; omega))
  rw [hw4]
  clear hw4 hb3 hown hE hC3
  have h4 := hown4.at_
  refine (may_any w4 C A3 k3 c3 B3 m3 d3 h4).mono ?_
  rintro e w5 ⟨rfl, hc5⟩
  have hb5 := hb4.non hc5
  have h5 := h4.non hc5
  have hC5 := hC4.non hc5
  clear hb4 h4 hown4 hC4 hc5
  cases hmay : C.may with
  | false =>
    have He : n.packErr = 1 := by unfold Nt.packErr; rw [HCe.out, hmay]; rfl
    have Hp : n.pack = [] := by unfold Nt.pack; rw [HCe.out, hmay]; rfl
    have He := Lib.hid He
    have Hp := Lib.hid Hp
    clear hmay
    go_wp2_with fail
    go_ret2
    exact ⟨_, by rw [He.out]; rfl, by rw [Hp.out]; exact Own8.nil _ _, hC5⟩
  | true =>
    have Hmay := Lib.hid hmay
    have He : Hid (n.packErr = 0) := by show _ = _; unfold Nt.packErr; rw [HCe.out, hmay]; rfl
    have Hp : Hid (n.pack = C.bytes) := by show _ = _; unfold Nt.pack; rw [HCe.out, hmay]; rfl
    have hkind := h5.ok.kind
    clear hmay
    have x0 := hb5.cell 0
    simp only [NtC, List.getElem?_toArray, List.getElem?_cons_zero, List.getElem?_cons_succ] at x0
    go_wp2_with fail
    have hc6 : Chg Non w5 (w5.alloc (.cells #[.int .i64 C.kind] 3)) := (Chg.refl _ _).alloc _
    refine (packInt_any none 0 0 [] _ 1 1 [C.kind] _ Rds.nil_ (rds1 _ _) (by simpa using hkind) (by simp)).mono ?_
    rintro e w7 ⟨v7, rfl, hown7, hc7⟩
    rw [show ([] : List UInt8) ++ nums [C.kind] = num C.kind from by simp [nums]] at hown7
    have ha := own_mono hown7 (Nat.le_trans hC5.size hc6.size)
    have hC7 := (hC5.non hc6).non hc7
    have hb7 := (hb5.non hc6).non hc7
    have h7 := (h5.non hc6).non hc7
    clear hown7 hc6 hc7 hb5 h5 hC5 x0
    obtain ⟨A7, n7, c7, rfl, _⟩ := Own8.open_ ha
    have x0 := hb7.cell 0
    simp only [NtC, List.getElem?_toArray, List.getElem?_cons_zero, List.getElem?_cons_succ] at x0
    go_wp2_with fail
    refine (parts_any _ C.kind hkind).mono ?_
    rintro e w8 ⟨A8, n8, c8, rfl, hr8, hn8, _, hc8⟩
    have hn84 : n8 ≤ 4 := by rw [hn8]; exact parts_len _
    have Hn8 := Lib.hid hn8
    have Hr8 := Lib.hid hr8
    have hC8 := hC7.non hc8
    have hb8 := hb7.non hc8
    have h8 := h7.non hc8
    have ha8 := Own8.non ha hc8
    clear hn8 hr8 hC7 hb7 h7 ha hc8 x0
    go_wp2_with fail
    go_loopw [4, 20] (fun v i wr => ∃ q : Nat, q ≤ n8 ∧ i = .int .i64 q ∧ Own8 wr w.heap.size v (num C.kind ++ ((partsL C.kind).take q).flatMap (putP C)) ∧ Chg Non w8 wr) (fun _ i _ => n8 - (intOf i).toNat)
    case atStart => exact ⟨0, Nat.zero_le _, rfl, by simpa [Own8] using ha8, Chg.refl _ _⟩
    case round =>
      clear ha8
      obtain ⟨q, hq, rfl, hown, hW⟩ := hrel
      have hCr := hC8.non hW
      by_cases hlt : q < n8
      · obtain ⟨ad, p, hA, hx, hcell⟩ := (Hr8.out.non hW).getI hlt
        have hp7 := parts_in (List.mem_of_getElem? hx)
        have Hst := Lib.hid (flat_step (n := C) hx)
        have hbr := hb8.non hW
        have hnr := h8.non hW
        have hkl := (num_len C.kind).2
        have hfl := fold_len Hmay.out q
        clear hx
        subst hA
        obtain ⟨A5, n5, c5, rfl, hn5, h51, h52, hr5⟩ := hown.open_
        have x0 := hbr.cell 0
        have x1 := hbr.cell 1
        have x2 := hbr.cell 2
        have x3 := hbr.cell 3
        have x4 := hbr.cell 4
        have x5 := hbr.cell 5
        have x6 := hbr.cell 6
        have x7 := hbr.cell 7
        have x8 := hbr.cell 8
        have x9 := hbr.cell 9
        have x10 := hbr.cell 10
        simp only [NtC, List.getElem?_toArray, List.getElem?_cons_zero, List.getElem?_cons_succ] at x0 x1 x2 x3 x4 x5 x6 x7 x8 x9 x10
        go_wp2_with fail
        clear x0 x1 x2 x3 x4 x5 x6 x7 x8 x9 x10
        refine (put_any wr A5 n5 c5 _ hr5 (by simp only [List.length_append]; omega) C A3 k3 c3 B3 m3 d3 hnr Hmay.out p hp7).mono ?_
        rintro e w9 ⟨v9, rfl, hown9, hc9⟩
        have ha9 := own_mono hown9 hCr.size
        have hW9 := hW.non hc9
        clear hown9 hc9 hown hbr hnr hr5
        go_wp2_with fail
        go_roundw
        case rel => exact ⟨q + 1, by omega, by go_num, by rw [Hst.out]; simpa [Own8] using ha9, hW9⟩
        case measure => simp [intOf]; omega
      · obtain rfl : q = n8 := by omega
        rw [List.take_of_length_le (by have := Hn8.out; omega)] at hown
        obtain ⟨A5, n5, c5, rfl, _⟩ := hown.open_
        go_wp2_with fail
        go_ret2
        exact ⟨_, by rw [He.out]; rfl, by rw [Hp.out]; exact hown, hCr⟩
end Go.Proofs.Ytflaliomkfbagaa
