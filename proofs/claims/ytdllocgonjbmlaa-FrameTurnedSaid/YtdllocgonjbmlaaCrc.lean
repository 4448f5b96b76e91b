/-
  crc.More, crc.Sum, gleanerref1.More, gleanerref1.Sum.
-/
import Derived.Test.YtdllocgonjbmlaaCrcPlain
import Derived.Test.YtdllocgonjbmlaaGet
import Derived.Test.YtdllocgonjbmlaaTexts
namespace Go.Proofs.Ytdllocgonjbmlaa
open Go.RowKit
set_option linter.unusedVariables false

theorem u32_xor (a b : Nat) (ha : a < 4294967296) (hb : b < 4294967296) : bits .xor .u32 (a : Int) (b : Int) = ((a ^^^ b : Nat) : Int) := by
  show IntKind.u32.wrap ((BitVec.ofInt 32 (a : Int) ^^^ BitVec.ofInt 32 (b : Int)).toNat : Int) = _
  rw [BitVec.toNat_xor, BitVec.toNat_ofInt, BitVec.toNat_ofInt, IntKind.wrap_u32]
  have h1 : ((a : Int) % ((2 ^ 32 : Nat) : Int)).toNat = a := by omega
  have h2 : ((b : Int) % ((2 ^ 32 : Nat) : Int)).toNat = b := by omega
  have h3 : a ^^^ b < 2 ^ 32 := Nat.xor_lt_two_pow ha hb
  rw [h1, h2]
  omega
theorem u32_one (a : Nat) (ha : a < 4294967296) : bits .and .u32 (a : Int) 1 = ((a % 2 : Nat) : Int) := by
  show IntKind.u32.wrap ((BitVec.ofInt 32 (a : Int) &&& BitVec.ofInt 32 1).toNat : Int) = _
  rw [BitVec.toNat_and, BitVec.toNat_ofInt, show (BitVec.ofInt 32 1).toNat = 1 from rfl, Nat.and_one_is_mod, IntKind.wrap_u32]
  omega
theorem u32_tb (a : Nat) (ha : a < 4294967296) : bits .xor .u32 ((a : Int) / 2) (3988292384 * bits .and .u32 (a : Int) 1 % 4294967296) = ((tb a : Nat) : Int) := by
  rw [u32_one a ha]
  have h1 : (a : Int) / 2 = ((a / 2 : Nat) : Int) := by omega
  rcases Nat.mod_two_eq_zero_or_one a with h | h
  · rw [h, h1, show (3988292384 * ((0 : Nat) : Int)) % 4294967296 = ((0 : Nat) : Int) from rfl, u32_xor _ _ (by omega) (by omega)]
    unfold tb
    rw [h]
    rfl
  · rw [h, h1, show (3988292384 * ((1 : Nat) : Int)) % 4294967296 = ((3988292384 : Nat) : Int) from rfl, u32_xor _ _ (by omega) (by omega)]
    unfold tb
    rw [h]
    rfl
theorem tb_odd {a : Nat} (ha : a < 4294967296) (h : a % 2 = 1) : bits .xor .u32 ((a : Int) / 2) 3988292384 = ((tb a : Nat) : Int) := by
  have h1 : (a : Int) / 2 = ((a / 2 : Nat) : Int) := by omega
  have := u32_xor (a / 2) 3988292384 (by omega) (by omega)
  rw [h1]
  refine this.trans ?_
  unfold tb
  rw [h]
  rfl
theorem tb_even {a : Nat} (h : a % 2 ≠ 1) : (a : Int) / 2 = ((tb a : Nat) : Int) := by
  unfold tb
  rw [if_neg h, Nat.xor_zero]
  omega
theorem tn_next (k c : Nat) : tn (k + 1) c = tb (tn k c) := by rw [tn_add]; rfl
theorem reg_take {L : List UInt8} {k : Nat} {x : UInt8} (h : L[k]? = some x) (c : Nat) : reg c (L.take (k + 1)) = tn 8 (reg c (L.take k) ^^^ x.toNat) := by
  rw [List.take_add_one, h]
  exact reg_snoc x _ c
theorem reg_nil (c : Nat) : reg c [] = c := rfl
theorem addr_zero (a : Addr) : a.add 0 = a := by cases a; rfl
attribute [local irreducible] tn reg tb

set_option maxRecDepth 100000 in
set_option maxHeartbeats 1000000 in
theorem crcMore_any (w : World) (A A2 : Option Addr) (n c c2 : Nat) (L : List UInt8) (hr : Rds w 1 A n (bv L)) (hr2 : Rds w 1 A2 1 [.slice A n c]) (hn : n ≤ 9223372036854775807) :
    Calls Try.prog 38 #[.int .i64 0, .slice A2 1 c2] w fun e w2 => e = .returned (.int .i64 (crc L : Nat)) ∧ w = w2 := by
  obtain ⟨ad2, v2, rfl, hv2, hcell2⟩ := hr2.at_ (k := 0) (by omega)
  obtain rfl : v2 = .slice A n c := (Option.some.inj hv2).symm
  have hnl : n = L.length := hr.lenMap
  have Hnl := Lib.hid hnl
  have Hr := Lib.hid hr
  have h0 : bits .xor .u32 0 4294967295 = ((4294967295 : Nat) : Int) := by decide
  have hreg : ∀ k, reg 4294967295 (L.take k) < 4294967296 := fun k => reg_lt _ (by decide)
  have hregL : reg 4294967295 L < 4294967296 := reg_lt _ (by decide)
  have Hend : Hid (bits .xor .u32 ((reg 4294967295 L : Nat) : Int) 4294967295 = ((crc L : Nat) : Int)) := u32_xor _ _ hregL (by decide)
  have hcl : crc L < 4294967296 := crc_lt L
  rw [addr_zero] at hcell2
  clear hr hr2 hv2 hnl
  go_enter Try.func38, Try.ntmps38
  go_wp2_with fail
  go_loop [5, 15] (fun u i => ∃ k : Nat, k ≤ 1 ∧ i = .int .i64 k ∧ u = .int .u32 ((if k = 0 then 4294967295 else reg 4294967295 L : Nat) : Int)) (fun _ i => 1 - (intOf i).toNat)
  case atStart => exact ⟨0, Nat.zero_le _, rfl, by rw [if_pos rfl]; rfl⟩
  case round =>
    obtain ⟨k, hk, rfl, rfl⟩ := hrel
    by_cases hlt : k < 1
    · obtain rfl : k = 0 := by omega
      rw [if_pos rfl]
      go_wp2_with fail
      go_loop [5, 21] (fun u i => ∃ k : Nat, k ≤ n ∧ i = .int .i64 k ∧ u = .int .u32 ((reg 4294967295 (L.take k) : Nat) : Int)) (fun _ i => n - (intOf i).toNat)
      case atStart => exact ⟨0, Nat.zero_le _, rfl, by rw [List.take_zero, reg_nil]; rfl⟩
      case round =>
        obtain ⟨k, hk, rfl, rfl⟩ := hrel
        by_cases hlt : k < n
        · obtain ⟨ad, x, rfl, hx, hcell⟩ := Hr.out.getB hlt
          have hx256 : x.toNat < 256 := x.toNat_lt
          have hrk := hreg k
          have Hnext := Lib.hid (reg_take hx 4294967295)
          generalize reg 4294967295 (L.take k) = u at hrk Hnext
          have Hu := Lib.hid (u32_xor u x.toNat hrk (by omega))
          have hux : u ^^^ x.toNat < 4294967296 := Nat.xor_lt_two_pow (n := 32) hrk (by omega)
          have hxw : IntKind.u32.wrap (x.toNat : Int) = (x.toNat : Int) := by rw [IntKind.wrap_u32]; omega
          clear hx
          go_wp2_with fail
          rw [Hu.out]
          generalize u ^^^ x.toNat = v at hux Hnext
          have htn : ∀ j, tn j v < 4294967296 := fun j => tn_lt j hux
          clear Hu hrk
          go_loop [5, 29] (fun u i => ∃ j : Nat, j ≤ 8 ∧ i = .int .i64 j ∧ u = .int .u32 ((tn j v : Nat) : Int)) (fun _ i => 8 - (intOf i).toNat)
          case atStart => exact ⟨0, Nat.zero_le _, rfl, by rw [tn_zero]⟩
          case round =>
            obtain ⟨j, hj, rfl, rfl⟩ := hrel
            by_cases hj8 : j < 8
            · have htj := htn j
              have Hb := Lib.hid (u32_tb (tn j v) htj)
              have Hn := Lib.hid (tn_next j v)
              generalize tn j v = y at htj Hb Hn
              go_wp2_with fail
              go_round
              case rel => exact ⟨j + 1, by omega, by go_num, by rw [Hn.out, Hb.out]⟩
              case measure => simp [intOf]; omega
            · obtain rfl : j = 8 := by omega
              go_wp2_with fail
              go_round
              case rel => exact ⟨k + 1, by omega, by go_num, by rw [Hnext.out]⟩
              case measure => simp [intOf]; omega
        · obtain rfl : k = n := by omega
          go_wp2_with fail
          go_round
          case rel => exact ⟨1, by omega, by go_num, by rw [List.take_of_length_le (by have := Hnl.out; omega)]; rfl⟩
          case measure => simp [intOf]
    · obtain rfl : k = 1 := by omega
      rw [if_neg (by decide)]
      go_wp2_with fail
      go_ret
      exact ⟨by rw [Hend.out, IntWalk.wrap64_in _ (by omega)]; rfl, rfl⟩

theorem crcSum_any (w : World) (A A2 : Option Addr) (n c c2 : Nat) (L : List UInt8) (hr : Rds w 1 A n (bv L)) (hr2 : Rds w 1 A2 1 [.slice A n c]) (hn : n ≤ 9223372036854775807) :
    Calls Try.prog 34 #[.slice A2 1 c2] w fun e w2 => e = .returned (.int .i64 (crc L : Nat)) ∧ w = w2 := by
  go_enter Try.func34, Try.ntmps34
  go_wp2_with fail
  refine (crcMore_any w A A2 n c c2 L hr hr2 hn).mono ?_
  rintro e w1 ⟨rfl, rfl⟩
  go_wp2_with fail
  go_ret
  exact ⟨rfl, rfl⟩

set_option maxRecDepth 100000 in
set_option maxHeartbeats 1000000 in
theorem refMore_any (w : World) (A : Option Addr) (n c : Nat) (L : List UInt8) (hr : Rds w 1 A n (bv L)) (hn : n ≤ 9223372036854775807) :
    Calls Try.prog 39 #[.int .i64 0, .slice A n c] w fun e w2 => e = .returned (.int .i64 (crc L : Nat)) ∧ w = w2 := by
  have hnl : n = L.length := hr.lenMap
  have Hnl := Lib.hid hnl
  have Hr := Lib.hid hr
  have hreg : ∀ k, reg 4294967295 (L.take k) < 4294967296 := fun k => reg_lt _ (by decide)
  have hregL : reg 4294967295 L < 4294967296 := reg_lt _ (by decide)
  have Hend : Hid (bits .xor .u32 ((reg 4294967295 L : Nat) : Int) 4294967295 = ((crc L : Nat) : Int)) := u32_xor _ _ hregL (by decide)
  have hcl : crc L < 4294967296 := crc_lt L
  clear hr hnl
  go_enter Try.func39, Try.ntmps39
  go_wp2_with fail
  go_loop [5, 6] (fun u i => ∃ k : Nat, k ≤ n ∧ i = .int .i64 k ∧ u = .int .u32 ((reg 4294967295 (L.take k) : Nat) : Int)) (fun _ i => n - (intOf i).toNat)
  case atStart => exact ⟨0, Nat.zero_le _, rfl, by rw [List.take_zero, reg_nil]; rfl⟩
  case round =>
    obtain ⟨k, hk, rfl, rfl⟩ := hrel
    by_cases hlt : k < n
    · obtain ⟨ad, x, rfl, hx, hcell⟩ := Hr.out.getB hlt
      have hx256 : x.toNat < 256 := x.toNat_lt
      have hrk := hreg k
      have Hnext := Lib.hid (reg_take hx 4294967295)
      generalize reg 4294967295 (L.take k) = u at hrk Hnext
      have Hu := Lib.hid (u32_xor u x.toNat hrk (by omega))
      have hux : u ^^^ x.toNat < 4294967296 := Nat.xor_lt_two_pow (n := 32) hrk (by omega)
      have hxw : IntKind.u32.wrap (x.toNat : Int) = (x.toNat : Int) := by rw [IntKind.wrap_u32]; omega
      clear hx
      go_wp2_with fail
      rw [Hu.out]
      generalize u ^^^ x.toNat = v at hux Hnext
      have htn : ∀ j, tn j v < 4294967296 := fun j => tn_lt j hux
      clear Hu hrk
      go_loop [5, 7] (fun u i => ∃ j : Nat, j ≤ 8 ∧ i = .int .i64 j ∧ u = .int .u32 ((tn j v : Nat) : Int)) (fun _ i => 8 - (intOf i).toNat)
      case atStart => exact ⟨0, Nat.zero_le _, rfl, by rw [tn_zero]⟩
      case round =>
        obtain ⟨j, hj, rfl, rfl⟩ := hrel
        by_cases hj8 : j < 8
        · have htj := htn j
          have Hn := Lib.hid (tn_next j v)
          generalize tn j v = y at htj Hn
          have h1 := u32_one y htj
          by_cases hp : y % 2 = 1
          · have Hb := Lib.hid (tb_odd htj hp)
            have ht : (bits .and .u32 (y : Int) 1 == 1) = true := by rw [h1, hp]; rfl
            clear h1 hp
            go_wp2_with fail
            go_round
            case rel => exact ⟨j + 1, by omega, by go_num, by rw [Hn.out, Hb.out]⟩
            case measure => simp [intOf]; omega
          · have Hb := Lib.hid (tb_even hp)
            have ht : (bits .and .u32 (y : Int) 1 == 1) = false := by rw [h1]; exact beq_eq_false_iff_ne.2 (by omega)
            clear h1 hp
            go_wp2_with fail
            go_round
            case rel => exact ⟨j + 1, by omega, by go_num, by rw [Hn.out, Hb.out]⟩
            case measure => simp [intOf]; omega
        · obtain rfl : j = 8 := by omega
          go_wp2_with fail
          go_round
          case rel => exact ⟨k + 1, by omega, by go_num, by rw [Hnext.out]⟩
          case measure => simp [intOf]; omega
    · obtain rfl : k = n := by omega
      rw [List.take_of_length_le (by have := Hnl.out; omega)]
      go_wp2_with fail
      go_ret
      exact ⟨by rw [Hend.out, IntWalk.wrap64_in _ (by omega)]; rfl, rfl⟩

theorem refSum_any (w : World) (A : Option Addr) (n c : Nat) (L : List UInt8) (hr : Rds w 1 A n (bv L)) (hn : n ≤ 9223372036854775807) :
    Calls Try.prog 35 #[.slice A n c] w fun e w2 => e = .returned (.int .i64 (crc L : Nat)) ∧ w = w2 := by
  go_enter Try.func35, Try.ntmps35
  go_wp2_with fail
  refine (refMore_any w A n c L hr hn).mono ?_
  rintro e w1 ⟨rfl, rfl⟩
  go_wp2_with fail
  go_ret
  exact ⟨rfl, rfl⟩
end Go.Proofs.Ytdllocgonjbmlaa
