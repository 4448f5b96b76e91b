/-
  gleanerlaw11.NoteCuts: the walk.
-/
import Derived.Test.YtclpmadecibofaaNoteAlive
import Derived.Test.YtclpmadecibofaaNoteRefPack
import Derived.Deep.Cut
namespace Go.Proofs.Ytclpmadecibofaa
open Go.ChangeShapes Go.WideShapes Go.ChangeAt Go.RowKit Go.Deep
set_option linter.unusedVariables false
set_option linter.unusedSimpArgs false

theorem IsNote.cut {b R : List UInt8} {n m : Nt} (h : IsNote b n) (h2 : IsNote (b ++ R) m) : R = [] := IsNote.prefix h h2
theorem getI_ok : ∀ (j : Nat) (R : List UInt8) (bad : Bool), ∀ x ∈ (getI j R bad).1, i64 x
  | 0, R, bad, x, h => by cases h
  | j + 1, R, bad, x, h => by
    have h : x ∈ (cInt R bad).1 :: (getI j (cInt R bad).2.1 (cInt R bad).2.2).1 := h
    rcases List.mem_cons.1 h with rfl | h
    · exact cInt_i64 R bad
    · exact getI_ok j _ _ x h
theorem getM_ok : ∀ (j : Nat) (R : List UInt8) (bad : Bool), ∀ m ∈ (getM j R bad).1, i64 m.1 ∧ i64 m.2
  | 0, R, bad, x, h => by cases h
  | j + 1, R, bad, x, h => by
    have h : x ∈ ((cInt R bad).1, (cInt (cInt R bad).2.1 (cInt R bad).2.2).1) :: (getM j (cInt (cInt R bad).2.1 (cInt R bad).2.2).2.1 (cInt (cInt R bad).2.1 (cInt R bad).2.2).2.2).1 := h
    rcases List.mem_cons.1 h with rfl | h
    · exact ⟨cInt_i64 R bad, cInt_i64 _ _⟩
    · exact getM_ok j _ _ x h
theorem cBytes_size (R : List UInt8) (bad : Bool) : (cBytes R bad).1.length ≤ R.length := by
  have := cInt_len R bad
  unfold cBytes
  generalize cInt R bad = q at *
  obtain ⟨z, R2, bad2⟩ := q
  simp only
  split
  · simp
  · simp only [List.length_take]; simp only at this; omega
theorem getP_ok (s : St) (p : Int) (h : s.1.ok) (hR : s.2.1.length ≤ maxLen) : (getP s p).1.ok := by
  obtain ⟨n, R, bad⟩ := s
  simp only at h hR
  have h1 := cInt_i64 R bad
  have h2 := cInt_i64 (cInt R bad).2.1 (cInt R bad).2.2
  unfold getP
  simp only
  split
  · exact ⟨h.kind, h.node, h.life, h1, h.fn, h.args, h.err, h.val, h.vep, h.mems, h.id⟩
  split
  · exact ⟨h.kind, h.node, h1, h.epoch, h.fn, h.args, h.err, h.val, h.vep, h.mems, h.id⟩
  split
  · exact ⟨h.kind, h1, h.life, h.epoch, h.fn, h.args, h.err, h.val, h.vep, h.mems, h.id⟩
  split
  · exact ⟨h.kind, h.node, h.life, h.epoch, h.fn, h.args, h.err, h.val, h.vep, h.mems, by
      have := cBytes_size R bad
      show (cBytes R bad).1.toArray.size ≤ maxLen
      rw [List.size_toArray]
      omega⟩
  split
  · refine ⟨h.kind, h.node, h.life, h.epoch, h1, fun x hx => ?_, h.err, h.val, h.vep, h.mems, h.id⟩
    rcases List.mem_append.1 hx with hx | hx
    · exact h.args x hx
    · exact getI_ok _ _ _ x hx
  split
  · exact ⟨h.kind, h.node, h.life, h.epoch, h.fn, h.args, h1, h2, h.vep, h.mems, h.id⟩
  · refine ⟨h.kind, h.node, h.life, h.epoch, h.fn, h.args, h.err, h.val, h1, fun x hx => ?_, h.id⟩
    rcases List.mem_append.1 hx with hx | hx
    · exact h.mems x hx
    · exact getM_ok _ _ _ x hx
theorem fold_ok : ∀ (l : List Int) (s : St), s.1.ok → s.2.1.length ≤ maxLen → (l.foldl getP s).1.ok
  | [], s, h, _ => h
  | p :: l, s, h, hR => fold_ok l (getP s p) (getP_ok s p h hR) (Nat.le_trans (getP_le s p).1 hR)
theorem readRaw_ok {b : List UInt8} (hb : b.length ≤ maxLen) : (readRaw b).1.ok :=
  fold_ok _ _ (ofKind_ok (cInt_i64 b false)) (Nat.le_trans (cInt_len b false) hb)
theorem rdE_no {b : List UInt8} (h : rdB b = false) : rdE b = 4 := by simp [rdE, h]
theorem rdE_yes {b : List UInt8} (h : rdB b = true) : rdE b = 0 := by simp [rdE, h]
theorem rd_take {b : List UInt8} {n : Nt} (h : IsNote b n) {k : Nat} (hk : k < b.length) (hb : b.length ≤ maxLen) : rdE (b.take k) = 4 := by
  cases hr : rdB (b.take k) with
  | false => exact rdE_no hr
  | true =>
    have h2 := rd_of (readRaw_ok (by rw [List.length_take]; omega)) hr
    have h3 := h2.cut (R := b.drop k) (m := n) (by rw [List.take_append_drop]; exact h)
    have := congrArg List.length h3
    rw [List.length_drop] at this
    simp at this
    omega
theorem rd_more {b m : List UInt8} {n : Nt} (h : IsNote b n) (hm : m ≠ []) (hb : (b ++ m).length ≤ maxLen) : rdE (b ++ m) = 4 := by
  cases hr : rdB (b ++ m) with
  | false => exact rdE_no hr
  | true => exact absurd (h.cut (rd_of (readRaw_ok hb) hr)) hm
theorem bytes_pos (n : Nt) : 1 ≤ n.bytes.length := by
  have := (num_len n.kind).1
  unfold Nt.bytes
  rw [List.length_append]
  omega
theorem bytes_max {n : Nt} (h : n.may = true) : n.bytes.length ≤ 4010 := by
  have h1 := (num_len n.kind).2
  have h2 := fold_len h 99
  rw [List.take_of_length_le (by have := parts_len n.kind; omega)] at h2
  unfold Nt.bytes
  rw [List.length_append]
  omega
theorem pack_is {n : Nt} (hok : n.ok) (h : n.packErr = 0) : n.pack = n.clear.bytes ∧ n.clear.may = true ∧ IsNote n.clear.bytes n.clear := by
  have hm : n.clear.may = true := by
    cases hm : n.clear.may with
    | true => rfl
    | false => unfold Nt.packErr at h; rw [hm] at h; simp at h
  exact ⟨by unfold Nt.pack; rw [if_pos hm], hm, clear_ok hok, clear_clear n, hm, rfl⟩

set_option maxRecDepth 100000 in
set_option maxHeartbeats 8000000 in
theorem noteCuts_core (w : World) (n : Nt) (A : Option Addr) (k c : Nat) (B : Option Addr) (m d : Nat) (h : NtAt w n A k c B m d) (at_ : Int) (hat : i64 at_) (A2 : Option Addr) (n2 c2 : Nat) (M : List UInt8) (hr : Rds w 1 A2 n2 (bv M)) (hc2 : c2 ≤ maxLen) (hnc : n2 ≤ c2) :
    Calls Try.prog 6 #[.agg (NtC n A k c B m d), .int .i64 at_, .slice A2 n2 c2] w fun x w2 => x = .returned (.bool true) ∧ Chg Non w w2 := by
  have Hml := Lib.hid hr.lenMap
  have h63 : n2 ≤ 9223372036854775807 := by unfold maxLen at hc2; omega
  obtain ⟨w1, e1⟩ : ∃ wq, w.alloc (.cells (NtC n A k c B m d) 31) = wq := ⟨_, rfl⟩
  have hC : Chg Non w w1 := e1 ▸ (Chg.refl _ _).alloc _
  have hb : Blk w1 w.heap.size 31 (NtC n A k c B m d) := e1 ▸ Blk.new _ _ _
  replace h := h.non hC
  replace hr := hr.non hC
  unfold NtC at e1
  go_enter Try.func6, Try.ntmps6
  go_wp2_with fail
  refine (note_alive w1).mono ?_
  rintro x w2 ⟨rfl, hc⟩
  replace hC := hC.non hc
  replace hb := hb.non hc
  replace h := h.non hc
  replace hr := hr.non hc
  clear hc e1
  have x0 := hb.cell 0
  have x1 := hb.cell 1
  have x2 := hb.cell 2
  have x3 := hb.cell 3
  have x4 := hb.cell 4
  have x5 := hb.cell 5
  have x6 := hb.cell 6
  have x7 := hb.cell 7
  have x8 := hb.cell 8
  have x9 := hb.cell 9
  have x10 := hb.cell 10
  simp only [NtC, List.getElem?_toArray, List.getElem?_cons_zero, List.getElem?_cons_succ] at x0 x1 x2 x3 x4 x5 x6 x7 x8 x9 x10
  go_wp2_with fail
  refine (big_any w2 n A k c B m d h).mono ?_
  rintro x w3 ⟨rfl, hc⟩
  replace hC := hC.non hc
  replace hb := hb.non hc
  replace h := h.non hc
  replace hr := hr.non hc
  clear hc x0 x1 x2 x3 x4 x5 x6 x7 x8 x9 x10
  cases hbig : bigN n k m with
  | true =>
    clear hbig
    go_wp2_with fail
    go_ret
    exact ⟨rfl, hC⟩
  | false =>
    obtain ⟨hg1, hg2, hg3⟩ := bigN_no hbig
    clear hbig
    by_cases ha : at_ < 0
    · go_wp2_with fail
      go_ret
      exact ⟨rfl, hC⟩
    · by_cases hn50 : 50 < n2
      · go_wp2_with fail
        go_ret
        exact ⟨rfl, hC⟩
      · have ha0 : 0 ≤ at_ := by omega
        have hat2 := hat.2
        have x0 := hb.cell 0
        have x1 := hb.cell 1
        have x2 := hb.cell 2
        have x3 := hb.cell 3
        have x4 := hb.cell 4
        have x5 := hb.cell 5
        have x6 := hb.cell 6
        have x7 := hb.cell 7
        have x8 := hb.cell 8
        have x9 := hb.cell 9
        have x10 := hb.cell 10
        simp only [NtC, List.getElem?_toArray, List.getElem?_cons_zero, List.getElem?_cons_succ] at x0 x1 x2 x3 x4 x5 x6 x7 x8 x9 x10
        go_wp2_with fail
        refine (refPack_any w3 n A k c B m d h).mono ?_
        rintro x w4 ⟨v4, rfl, hv4, hc⟩
        replace hC := hC.non hc
        replace hr := hr.non hc
        have hok := h.ok
        clear hc x0 x1 x2 x3 x4 x5 x6 x7 x8 x9 x10 hb h
        obtain ⟨A4, n4, c4, rfl, hn4, h41, h42, hr4⟩ := hv4.open_
        clear hv4
        obtain ⟨pe, hpe⟩ : ∃ pe, n.packErr = pe := ⟨_, rfl⟩
        rw [hpe]
        by_cases hp0 : pe = 0
        · subst hp0
          obtain ⟨hp1, hp2, hp3⟩ := pack_is hok hpe
          have hlo := bytes_pos n.clear
          have hhi := bytes_max hp2
          rw [hp1] at hr4 hn4
          obtain ⟨L, hL⟩ : ∃ L, n.clear.bytes = L := ⟨_, rfl⟩
          rw [hL] at hr4 hn4 hlo hhi hp3
          have hn41 : 1 ≤ n4 ∧ n4 ≤ 4010 := by have := hn4.out; omega
          obtain ⟨hn411, hn412⟩ := hn41
          obtain ⟨q, hq⟩ : ∃ q : Nat, at_ % (n4 : Int) = q := ⟨(at_ % (n4 : Int)).toNat, by have := Int.emod_nonneg at_ (show (n4 : Int) ≠ 0 by omega); omega⟩
          have hqlt : q < n4 := by have := Int.emod_lt_of_pos at_ (show (0 : Int) < n4 by omega); omega
          have hsl := fun w => run_slice_hi (P := Try.prog) Try.underlying34 (by kernel_rfl) (kl := .i64) (i := (q : Int)) (k := q) (c := c4) rfl (by omega) A4 n4 w
          have Hp3 := Lib.hid hp3
          have hrq : Rds w4 1 A4 q (bv (L.take q)) := by
            have := hr4.upto (show q ≤ n4 by omega)
            rw [show (bv L).take (q * 1) = bv (L.take q) by simp [bv]] at this
            exact this
          clear hp1 hp2 hp3 hL hlo hhi hpe
          go_wp2_with fail
          refine (read_any w4 A4 q c4 (L.take q) hrq (by rw [List.length_take]; have := hn4.out; omega)).mono ?_
          rintro x w5 ⟨A5, k5, c5, B5, m5, d5, rfl, _, hc⟩
          rw [rd_take Hp3.out (by have := hn4.out; omega) (by have := hn4.out; unfold maxLen; omega)]
          obtain ⟨o5, ho5⟩ : ∃ o, rdN (L.take q) = o := ⟨_, rfl⟩
          rw [ho5]
          replace hC := hC.non hc
          replace hr := hr.non hc
          replace hr4 := hr4.non hc
          clear hc hrq ho5 hsl
          obtain ⟨w6, e6⟩ : ∃ wq, w5.alloc (.cells (NtC o5 A5 k5 c5 B5 m5 d5) 31) = wq := ⟨_, rfl⟩
          have hc6 : Chg Non w5 w6 := e6 ▸ (Chg.refl _ _).alloc _
          replace hC := hC.non hc6
          replace hr := hr.non hc6
          replace hr4 := hr4.non hc6
          have hs6 := hC.size
          have E6 := Lib.hid e6
          clear e6 hc6
          unfold NtC
          go_upto_region 9 with (fail)
          have e6 := E6.out
          unfold NtC at e6
          rw [e6]
          clear e6 E6
          go_wp2_with (first
            | (at_builtin; refine app8b rfl _ (.tmp 51) rfl (Own8.nil _ w6.heap.size) rfl hr4 rfl ?_ ?_ ?_; (next => (have := hn4.out; simp; omega)); (next => exact Nat.le_refl _); intro v7 w7 h7 hc7 _; have hc7 := hc7.mono (S2 := Non) (fun _ e => by cases e); replace hC := hC.non hc7; replace hr := hr.non hc7; simp only [List.nil_append] at h7; have hs7 := hc7.size)
            | (at_builtin; refine app8b rfl _ (.tmp 53) rfl h7 rfl hr rfl ?_ ?_ ?_; (next => (have := hn4.out; have := Hml.out; omega)); (next => exact hs7); intro v8 w8 h8 hc8 _; have hc9 := Own8.chgApp (Chg.refl Non w6 |>.non hc7) h7 (Nat.le_refl _) hc8; obtain ⟨A8, n8, c8, rfl, hn8, _, _, hr8⟩ := h8.open_))
          have hC8 : Chg Non w w8 := Own8.chgApp hC h7 hs6 hc8
          clear h7 h8 hc7 hc8 hs7 hr hr4 hC hs6
          have hlen : n8 ≤ 5000 := by have := hn8.out; have := hn4.out; have := Hml.out; rw [List.length_append] at *; omega
          refine (read_any w8 A8 n8 c8 (L ++ M) hr8 (by have := hn8.out; omega)).mono ?_
          rintro x w10 ⟨A10, k10, c10, B10, m10, d10, rfl, _, hc⟩
          replace hC8 := hC8.non hc
          obtain ⟨o10, ho10⟩ : ∃ o, rdN (L ++ M) = o := ⟨_, rfl⟩
          rw [ho10]
          have hE : rdE (L ++ M) = if n2 = 0 then 0 else 4 := by
            by_cases h0 : n2 = 0
            · have hM : M = [] := List.eq_nil_of_length_eq_zero (by have := Hml.out; omega)
              rw [if_pos h0, hM, List.append_nil]
              exact rdE_yes (rd_is Hp3.out).1
            · rw [if_neg h0]
              exact rd_more Hp3.out (fun e => h0 (by have := Hml.out; rw [e] at this; simpa using this)) (by have := hn8.out; unfold maxLen; omega)
          rw [hE]
          clear hE hc hr8 ho10 hn8 hn4 Hp3
          by_cases h0 : n2 = 0
          · rw [if_pos h0]
            subst h0
            go_wp2_with fail
            refine (num_any _ _).mono ?_
            rintro x w9 ⟨rfl, rfl⟩
            go_wp2_with fail
            refine (num_any _ _).mono ?_
            rintro x w9 ⟨rfl, rfl⟩
            go_wp2_with fail
            go_ret
            exact ⟨rfl, hC8.alloc _⟩
          · rw [if_neg h0]
            have t0 : ((n2 : Int) == 0) = false := by rw [beq_eq_false_iff_ne]; omega
            clear h0
            go_wp2_with fail
            refine (num_any _ _).mono ?_
            rintro x w9 ⟨rfl, rfl⟩
            go_wp2_with fail
            refine (num_any _ _).mono ?_
            rintro x w9 ⟨rfl, rfl⟩
            go_wp2_with fail
            go_ret
            exact ⟨rfl, hC8.alloc _⟩
        · have hpn : (pe != 0) = true := by rw [bne_iff_ne]; exact hp0
          clear hp0 hpe
          go_wp2_with fail
          go_ret
          exact ⟨rfl, hC⟩

theorem noteCuts_walk (w : World) (S : Array Value) (e0 : Rd Try.prog w 31 (Value.agg S).cells.toList) (at_ : Int) (hat : i64 at_) (A : Option Addr) (n c : Nat) (e2 : Rd Try.prog w 34 (Value.slice A n c).cells.toList) :
    Calls Try.prog 6 #[.agg S, .int .i64 at_, .slice A n c] w fun x w2 => x = .returned (.bool true) ∧ Chg Non w w2 := by
  obtain ⟨nt, A1, k1, c1, B1, m1, d1, rfl, h⟩ := e0.note
  obtain ⟨A', n', c', L, h1, h2, h3, h4⟩ := e2.bytes Try.underlying34 (by kernel_rfl) Try.underlying5
  simp only [Value.cells, List.cons.injEq, and_true, Value.slice.injEq] at h1
  obtain ⟨rfl, rfl, rfl⟩ := h1
  exact noteCuts_core w nt A1 k1 c1 B1 m1 d1 h at_ hat A n c L h4 h3 h2
end Go.Proofs.Ytclpmadecibofaa
