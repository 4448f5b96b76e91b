/-
  gleanerlaw10.FrameTurned: the walk.
-/
import Derived.Test.YtdllocgonjbmlaaFrameAlive
namespace Go.Proofs.Ytdllocgonjbmlaa
open Go.RowKit
set_option linter.unusedVariables false
set_option linter.unusedSimpArgs false

theorem xor_lowk {x : Nat} (v i : Nat) (h : x < 2 ^ i) : x ^^^ (v * 2 ^ i) = x + v * 2 ^ i := by
  apply Nat.eq_of_testBit_eq
  intro j
  have h2 := Nat.testBit_two_pow_mul_add v (b := x) (i := i) h j
  have h3 := Nat.testBit_two_pow_mul_add v (b := 0) (i := i) (Nat.two_pow_pos i) j
  rw [show x + v * 2 ^ i = 2 ^ i * v + x by rw [Nat.mul_comm]; omega, h2, Nat.testBit_xor, show v * 2 ^ i = 2 ^ i * v + 0 by rw [Nat.mul_comm]; rfl, h3]
  by_cases hj : j < i
  · simp [hj]
  · have : x.testBit j = false := Nat.testBit_lt_two_pow (Nat.lt_of_lt_of_le h (Nat.pow_le_pow_right (by omega) (by omega)))
    simp [hj, this]
theorem mod_step (W i : Nat) : W % 2 ^ (i + 1) = (W % 2 ^ i) ^^^ (W / 2 ^ i % 2 * 2 ^ i) := by
  rw [xor_lowk _ _ (Nat.mod_lt _ (Nat.two_pow_pos i)), Nat.pow_succ, Nat.mod_mul]
  rw [Nat.mul_comm (2 ^ i)]
/-- What the bytes are behind i rounds. -/
structure Turned (B : List UInt8) (W k i : Nat) (L : List UInt8) : Prop where
  len : L.length = B.length
  val : val L = val B ^^^ W % 2 ^ i * 2 ^ k
theorem Turned.start (B : List UInt8) (W k : Nat) : Turned B W k 0 B := ⟨rfl, by simp [Nat.mod_one]⟩
theorem Turned.stay {B L : List UInt8} {W k i : Nat} (h : Turned B W k i L) (hb : W / 2 ^ i % 2 = 0) : Turned B W k (i + 1) L :=
  ⟨h.len, by rw [h.val, mod_step, hb]; simp⟩
theorem Turned.turn {B L : List UInt8} {W k i : Nat} (h : Turned B W k i L) (hb : W / 2 ^ i % 2 = 1) {x : UInt8} (hx : L[(k + i) / 8]? = some x) : Turned B W k (i + 1) (L.set ((k + i) / 8) (UInt8.ofNat (x.toNat ^^^ 2 ^ ((k + i) % 8)))) := by
  refine ⟨by rw [List.length_set, h.len], ?_⟩
  have hq : 2 ^ ((k + i) % 8) < 256 := by
    have := Nat.pow_le_pow_right (n := 2) (by omega) (show (k + i) % 8 ≤ 7 by omega)
    omega
  rw [val_set _ hq hx, h.val, mod_step, hb, xor_shift, Nat.one_mul, ← Nat.pow_add, ← Nat.pow_add, Nat.xor_assoc]
  congr 3
  omega
theorem Turned.refused {f : Fr} (he : f.err = 0) {W k : Nat} {L : List UInt8} (h : Turned f.bytes W k 32 L) (hk : k + 32 ≤ 8 * f.bytes.length) (hW : W < 2 ^ 32) (h0 : W ≠ 0) : readErr L ≠ 0 := by
  intro hz
  obtain ⟨h1, _, _⟩ := read_form hz
  have h2 := h.val
  rw [Nat.mod_eq_of_lt hW, h1] at h2
  have h3 := h.len
  rw [h1] at h3
  exact burst_seen (x := f.body) (y := (readFr L).body) h3.symm h2 hk hW h0

theorem and32 (x : Int) : bits .and .i64 x 4294967295 = x % 4294967296 := by
  show IntKind.i64.wrap ((BitVec.ofInt 64 x &&& BitVec.ofInt 64 4294967295).toNat : Int) = _
  rw [BitVec.toNat_and, show (BitVec.ofInt 64 4294967295).toNat = 2 ^ 32 - 1 from rfl, Nat.and_two_pow_sub_one_eq_mod, BitVec.toNat_ofInt, IntKind.wrap_i64]
  omega
theorem and1i (x : Int) : bits .and .i64 x 1 = x % 2 := by
  show IntKind.i64.wrap ((BitVec.ofInt 64 x &&& BitVec.ofInt 64 1).toNat : Int) = _
  rw [BitVec.toNat_and, show (BitVec.ofInt 64 1).toNat = 2 ^ 1 - 1 from rfl, Nat.and_two_pow_sub_one_eq_mod, BitVec.toNat_ofInt, IntKind.wrap_i64]
  omega
theorem u8_turn (a r : Nat) (ha : a < 256) (hr : r < 8) : bits .xor .u8 (a : Int) (2 ^ r % 256) = ((UInt8.ofNat (a ^^^ 2 ^ r)).toNat : Int) := by
  have hp : 2 ^ r < 256 := by
    have := Nat.pow_le_pow_right (n := 2) (by omega) (show r ≤ 7 by omega)
    omega
  have e : ((2 : Int) ^ r % 256) = ((2 ^ r : Nat) : Int) := by
    have e2 : ((2 ^ r : Nat) : Int) = (2 : Int) ^ r := by simp
    rw [← e2]
    exact Int.emod_eq_of_lt (Int.natCast_nonneg _) (Int.ofNat_lt.2 hp)
  rw [e]
  have hx : a ^^^ 2 ^ r < 256 := Nat.xor_lt_two_pow (n := 8) ha hp
  generalize 2 ^ r = b at hp hx
  show IntKind.u8.wrap ((BitVec.ofInt 8 (a : Int) ^^^ BitVec.ofInt 8 (b : Int)).toNat : Int) = _
  rw [BitVec.toNat_xor, BitVec.toNat_ofInt, BitVec.toNat_ofInt, IntKind.wrap_u8, UInt8.toNat_ofNat']
  have h1 : ((a : Int) % ((2 ^ 8 : Nat) : Int)).toNat = a := by omega
  have h2 : ((b : Int) % ((2 ^ 8 : Nat) : Int)).toNat = b := by omega
  rw [h1, h2]
  omega
theorem bit_of {y : Int} {W k : Nat} (h : y % 4294967296 = W) (hk : k < 32) : y / 2 ^ k % 2 = ((W / 2 ^ k % 2 : Nat) : Int) := by
  obtain ⟨j, hj⟩ : ∃ j, 32 = j + 1 + k := ⟨31 - k, by omega⟩
  have h1 : y = (W : Int) + (2 * (2 ^ j * (y / 4294967296))) * 2 ^ k := by
    have e : (4294967296 : Int) = 2 * 2 ^ j * 2 ^ k := by
      rw [show (4294967296 : Int) = 2 ^ 32 from rfl, hj, Int.pow_add, Int.pow_succ, Int.mul_comm (2 ^ j) 2]
    have h2 := Int.emod_add_mul_ediv y 4294967296
    rw [h] at h2
    rw [show (2 * (2 ^ j * (y / 4294967296))) * 2 ^ k = (2 * 2 ^ j * 2 ^ k) * (y / 4294967296) by
      rw [Int.mul_assoc, Int.mul_assoc, Int.mul_comm (y / 4294967296) (2 ^ k), ← Int.mul_assoc (2 ^ j), ← Int.mul_assoc 2, ← Int.mul_assoc 2], ← e]
    omega
  have hp : (2 : Int) ^ k ≠ 0 := Int.ne_of_gt (Int.pow_pos (by omega))
  rw [h1, Int.add_mul_ediv_right _ _ hp]
  have h3 : ((W / 2 ^ k : Nat) : Int) = (W : Int) / 2 ^ k := by simp
  generalize 2 ^ j * (y / 4294967296) = z
  rw [← h3]
  omega

set_option maxRecDepth 100000 in
set_option maxHeartbeats 1000000 in
theorem frameTurned_core (w : World) (f : Fr) (A : Option Addr) (n c : Nat) (hr : Rds w 1 A n (bv f.load)) (hc : n ≤ c) (hcm : c ≤ maxLen) (a : Nat) (ha : (a : Int) ≤ 9223372036854775807) (y : Int) (hy : i64 y) (he : f.err = 0) (h0 : y % 4294967296 ≠ 0) :
    Calls Try.prog 5 #[frV f A n c, .int .i64 (a : Int), .int .i64 y] w fun e w2 => e = .returned (.bool true) ∧ Chg Non w w2 := by
  have e32 := and32 y
  have hz : (y % 4294967296 == 0) = false := beq_eq_false_iff_ne.2 h0
  obtain ⟨w1, hw1⟩ : ∃ w9, w.alloc (.cells (frC f A n c) 24) = w9 := ⟨_, rfl⟩
  have hc1 : Chg Non w w1 := hw1 ▸ (Chg.refl _ _).alloc _
  have hb1 : Blk w1 w.heap.size 24 (frC f A n c) := hw1 ▸ Blk.new _ _ _
  unfold frC at hw1
  go_enter Try.func5, Try.ntmps5
  go_wp2_with fail
  refine (frame_alive w1).mono ?_
  rintro e w2 ⟨rfl, hc2⟩
  have hb2 := hb1.non hc2
  have hC2 := hc1.non hc2
  have hr2 := hr.non hC2
  have y0 := hb2.cell 0
  have y1 := hb2.cell 1
  have y2 := hb2.cell 2
  have y3 := hb2.cell 3
  have y4 := hb2.cell 4
  have y5 := hb2.cell 5
  simp only [frC, List.getElem?_toArray, List.getElem?_cons_zero, List.getElem?_cons_succ] at y0 y1 y2 y3 y4 y5
  clear hw1 hc1 hb1 hc2 hr
  go_wp2_with fail
  refine (refPack_any w2 f A n c hr2 hc hcm).mono ?_
  rintro e w3 ⟨v3, rfl, hown3, hc3⟩
  have hC3 := hC2.non hc3
  have Hnl := Lib.hid hr2.lenMap
  clear hb2 hr2 y0 y1 y2 y3 y4 y5
  have hpk := Fr.pack_ok he
  rw [hpk] at hown3
  rw [he]
  have hpos : 0 < f.bytes.length := by have := f.bytes_len; omega
  obtain ⟨g, N, cN, rfl, hN, hN1, hg, hglt, hNc, hNm⟩ := hown3.formN hpos
  have hN11 : 5 ≤ N := by have := hN.out; have := f.bytes_len; omega
  have hNb : N ≤ 7000 := by have h1 := hN.out; have h2 := f.bytes_len; have h3 := f.tail_len; have h4 := Hnl.out; have h5 := (Fr.err0.1 he).2; omega
  obtain ⟨W, hW⟩ : ∃ W : Nat, y % 4294967296 = W := ⟨(y % 4294967296).toNat, by omega⟩
  have HW0 : Hid (W < 2 ^ 32 ∧ W ≠ 0) := ⟨by omega, by omega⟩
  have HW := Lib.hid hW
  obtain ⟨q, hq⟩ : ∃ q : Nat, (a : Int) % (8 * (N : Int) - 31) = q := ⟨((a : Int) % (8 * (N : Int) - 31)).toNat, by have := Int.emod_nonneg (a : Int) (show 8 * (N : Int) - 31 ≠ 0 by omega); omega⟩
  have hqN : q + 32 ≤ 8 * N := by have := Int.emod_lt_of_pos (a : Int) (show 0 < 8 * (N : Int) - 31 by omega); omega
  have He := Lib.hid he
  have HN := hN
  clear hpk he h0 hW
  go_wp2_with fail
  go_loopw [11] (fun i wr => ∃ (k : Nat) (L : List UInt8), k ≤ 32 ∧ i = .int .i64 k ∧ Own8 wr w2.heap.size (.slice (some ⟨g, 0, none⟩) N cN) L ∧ Hid (N = L.length) ∧ Hid (Turned f.bytes W q k L) ∧ Chg Non w wr) (fun i _ => 32 - (intOf i).toNat)
  case atStart => exact ⟨0, f.bytes, Nat.zero_le _, rfl, hown3, HN, Turned.start _ _ _, hC2.non hc3⟩
  case round =>
    clear hown3
    obtain ⟨k, L, hk, rfl, hown, hNL, hT, hC⟩ := hrel
    by_cases hlt : k < 32
    · have hand1 := and1i (y / 2 ^ k)
      have hb := bit_of HW.out hlt
      have hj : (q + k) / 8 < N := by omega
      obtain ⟨x, hx⟩ : ∃ x, L[(q + k) / 8]? = some x := ⟨_, List.getElem?_eq_getElem (by have := hNL.out; omega)⟩
      by_cases hbit : W / 2 ^ k % 2 = 1
      · have ht : (y / 2 ^ k % 2 == 1) = true := by rw [hb, hbit]; rfl
        have hcell := hown.cell hx
        have hfz := hown.frozen ((q + k) / 8)
        have hTn := Lib.hid (hT.out.turn hbit hx)
        have hx256 := x.toNat_lt
        clear hb hbit hx hT
        go_wp2_with fail
        rw [u8_turn x.toNat ((q + k) % 8) hx256 (by omega)]
        have hput := hown.put ((q + k) / 8) (UInt8.ofNat (x.toNat ^^^ 2 ^ ((q + k) % 8)))
        have hS : Chg (fun b => b = g) wr (wr.setCell ⟨g, (q + k) / 8, none⟩ (.int .u8 (UInt8.ofNat (x.toNat ^^^ 2 ^ ((q + k) % 8))).toNat)) := (Chg.refl _ _).set1 _ _
        have hCS := hC.trans2 hS (fun b e => .inr (by have e : b = g := e; have := hC2.size; omega))
        go_roundw
        case rel => exact ⟨k + 1, _, by omega, by go_num, hput, (by have h := hNL.out; show N = _; rw [List.length_set]; exact h), hTn, hCS⟩
        case measure => simp [intOf]; omega
      · have ht : (y / 2 ^ k % 2 == 1) = false := beq_eq_false_iff_ne.2 (by rw [hb]; omega)
        have hTn := Lib.hid (hT.out.stay (by omega))
        clear hb hbit hx hT
        go_wp2_with fail
        go_roundw
        case rel => exact ⟨k + 1, L, by omega, by go_num, hown, hNL, hTn, hC⟩
        case measure => simp [intOf]; omega
    · obtain rfl : k = 32 := by omega
      have href := hT.out.refused He.out (by have := HN.out; omega) HW0.out.1 HW0.out.2
      have hz2 := read_of_err href
      have hne : (readErr L != 0) = true := by rw [bne_iff_ne]; exact href
      have hL7 : N ≤ 7000 := hNb
      clear href
      go_wp2_with fail
      refine (read_any wr (some ⟨g, 0, none⟩) N cN L hown.rdsN hNc (by omega)).mono ?_
      rintro e w4 ⟨A4, n4, c4, rfl, hown4, hc4⟩
      rw [hz2] at hown4 ⊢
      generalize readErr L = x at hne ⊢
      have hC4 := hC.non hc4
      obtain ⟨w5, hw5⟩ : ∃ w9, w4.alloc (.cells (frC Fr.zero A4 n4 c4) 24) = w9 := ⟨_, rfl⟩
      have hc5 : Chg Non w4 w5 := hw5 ▸ (Chg.refl _ _).alloc _
      have hb5 : Blk w5 w4.heap.size 24 (frC Fr.zero A4 n4 c4) := hw5 ▸ Blk.new _ _ _
      have hC5 := hC4.non hc5
      have hr5 := hown4.rdsN.non hc5
      have y0 := hb5.cell 0
      have y1 := hb5.cell 1
      have y2 := hb5.cell 2
      have y3 := hb5.cell 3
      have y4 := hb5.cell 4
      have y5 := hb5.cell 5
      simp only [frC, List.getElem?_toArray, List.getElem?_cons_zero, List.getElem?_cons_succ] at y0 y1 y2 y3 y4 y5
      unfold frC at hw5
      go_wp2_with fail
      clear hw5 hb5 hc5 hown4 hC4
      refine (num_any _ _).mono ?_
      rintro e w9 ⟨rfl, rfl⟩
      go_wp2_with fail
      refine (sameFrame_self w5 Fr.zero A4 none n4 c4 0 0 hr5 Rds.nil_).mono ?_
      rintro e w6 ⟨rfl, hc6⟩
      go_wp2_with fail
      go_ret
      exact ⟨rfl, hC5.non hc6⟩

set_option maxRecDepth 100000 in
set_option maxHeartbeats 1000000 in
theorem frameTurned_err (w : World) (f : Fr) (A : Option Addr) (n c : Nat) (hr : Rds w 1 A n (bv f.load)) (hc : n ≤ c) (hcm : c ≤ maxLen) (a : Int) (y : Int) (he : f.err ≠ 0) :
    Calls Try.prog 5 #[frV f A n c, .int .i64 a, .int .i64 y] w fun e w2 => e = .returned (.bool true) ∧ Chg Non w w2 := by
  obtain ⟨w1, hw1⟩ : ∃ w9, w.alloc (.cells (frC f A n c) 24) = w9 := ⟨_, rfl⟩
  have hc1 : Chg Non w w1 := hw1 ▸ (Chg.refl _ _).alloc _
  have hb1 : Blk w1 w.heap.size 24 (frC f A n c) := hw1 ▸ Blk.new _ _ _
  unfold frC at hw1
  go_enter Try.func5, Try.ntmps5
  go_wp2_with fail
  refine (frame_alive w1).mono ?_
  rintro e w2 ⟨rfl, hc2⟩
  have hb2 := hb1.non hc2
  have hC2 := hc1.non hc2
  have hr2 := hr.non hC2
  have y0 := hb2.cell 0
  have y1 := hb2.cell 1
  have y2 := hb2.cell 2
  have y3 := hb2.cell 3
  have y4 := hb2.cell 4
  have y5 := hb2.cell 5
  simp only [frC, List.getElem?_toArray, List.getElem?_cons_zero, List.getElem?_cons_succ] at y0 y1 y2 y3 y4 y5
  clear hw1 hc1 hb1 hc2 hr
  go_wp2_with fail
  refine (refPack_any w2 f A n c hr2 hc hcm).mono ?_
  rintro e w3 ⟨v3, rfl, hown3, hc3⟩
  have hC3 := hC2.non hc3
  have Hnl := Lib.hid hr2.lenMap
  clear hb2 hr2 y0 y1 y2 y3 y4 y5
  have hne : (f.err != 0) = true := by rw [bne_iff_ne]; exact he
  clear he
  obtain ⟨A3, n3, c3, rfl, _⟩ := hown3.open_
  go_wp2_with fail
  go_ret
  exact ⟨rfl, hC3⟩

set_option maxRecDepth 100000 in
set_option maxHeartbeats 1000000 in
theorem frameTurned_rest (w : World) (f : Fr) (A : Option Addr) (n c : Nat) (hr : Rds w 1 A n (bv f.load)) (hc : n ≤ c) (hcm : c ≤ maxLen) (a : Int) (y : Int) (he : f.err = 0) (hcase : a < 0 ∨ (0 ≤ a ∧ y % 4294967296 = 0)) :
    Calls Try.prog 5 #[frV f A n c, .int .i64 a, .int .i64 y] w fun e w2 => e = .returned (.bool true) ∧ Chg Non w w2 := by
  have e32 := and32 y
  obtain ⟨w1, hw1⟩ : ∃ w9, w.alloc (.cells (frC f A n c) 24) = w9 := ⟨_, rfl⟩
  have hc1 : Chg Non w w1 := hw1 ▸ (Chg.refl _ _).alloc _
  have hb1 : Blk w1 w.heap.size 24 (frC f A n c) := hw1 ▸ Blk.new _ _ _
  unfold frC at hw1
  go_enter Try.func5, Try.ntmps5
  go_wp2_with fail
  refine (frame_alive w1).mono ?_
  rintro e w2 ⟨rfl, hc2⟩
  have hb2 := hb1.non hc2
  have hC2 := hc1.non hc2
  have hr2 := hr.non hC2
  have y0 := hb2.cell 0
  have y1 := hb2.cell 1
  have y2 := hb2.cell 2
  have y3 := hb2.cell 3
  have y4 := hb2.cell 4
  have y5 := hb2.cell 5
  simp only [frC, List.getElem?_toArray, List.getElem?_cons_zero, List.getElem?_cons_succ] at y0 y1 y2 y3 y4 y5
  clear hw1 hc1 hb1 hc2 hr
  go_wp2_with fail
  refine (refPack_any w2 f A n c hr2 hc hcm).mono ?_
  rintro e w3 ⟨v3, rfl, hown3, hc3⟩
  have hC3 := hC2.non hc3
  have Hnl := Lib.hid hr2.lenMap
  clear hb2 hr2 y0 y1 y2 y3 y4 y5
  rw [he]
  clear he
  obtain ⟨A3, n3, c3, rfl, _⟩ := hown3.open_
  rcases hcase with h | ⟨h, hz⟩
  all_goals
    go_wp2_with fail
    go_ret
    exact ⟨rfl, hC3⟩

theorem frameTurned_walk (w : World) (S : Array Value) (e0 : Rd Try.prog w 24 (Value.agg S).cells.toList) (x : Int) (hx : i64 x) (y : Int) (hy : i64 y) :
    Calls Try.prog 5 #[.agg S, .int .i64 x, .int .i64 y] w fun e w2 => e = .returned (.bool true) ∧ Chg Non w w2 := by
  obtain ⟨f, A, n, c, rfl, h1, h2, h3, h4⟩ := e0.frame
  by_cases he : f.err = 0
  · by_cases hall : 0 ≤ x ∧ y % 4294967296 ≠ 0
    · obtain ⟨a, rfl⟩ : ∃ a : Nat, x = a := ⟨x.toNat, by omega⟩
      exact frameTurned_core w f A n c h4 h2 h3 a hx.2 y hy he hall.2
    · exact frameTurned_rest w f A n c h4 h2 h3 x y he (by omega)
  · exact frameTurned_err w f A n c h4 h2 h3 x y he
end Go.Proofs.Ytdllocgonjbmlaa
