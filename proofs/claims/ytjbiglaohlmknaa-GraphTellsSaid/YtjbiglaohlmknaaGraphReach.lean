/-
  graph.Far, graph.Reach.
-/
import Derived.Test.YtjbiglaohlmknaaGraphFar
namespace Go.Proofs.Ytjbiglaohlmknaa
open Go.RowKit
set_option linter.unusedVariables false
set_option linter.unusedSimpArgs false

def FarIs (nodes a b r : Int) : Prop := (isG nodes a = true ∧ isG nodes b = true ∧ ∃ D, Fin nodes [] a D ∧ r = D b) ∨ ((isG nodes a = false ∨ isG nodes b = false) ∧ r = -1)
def reachL (N : Nat) (D : Int → Int) : List Int := ((List.range N).filter fun (i : Nat) => decide (0 ≤ D i)).map fun (i : Nat) => (i : Int)
theorem reachL_succ (N : Nat) (D : Int → Int) : reachL (N + 1) D = reachL N D ++ (if 0 ≤ D N then [(N : Int)] else []) := by
  unfold reachL
  rw [List.range_succ, List.filter_append, List.map_append]
  by_cases h : 0 ≤ D N
  · simp [h]
  · simp [h]
theorem reachL_len (N : Nat) (D : Int → Int) : (reachL N D).length ≤ N := by
  unfold reachL
  rw [List.length_map]
  have := List.length_filter_le (fun (i : Nat) => decide (0 ≤ D i)) (List.range N)
  simpa using this
def ReachIs (nodes a : Int) (gone L : List Int) : Prop := (isG nodes a = true ∧ a ∉ gone ∧ ∃ D, Fin nodes gone a D ∧ L = reachL nodes.toNat D) ∨ ((isG nodes a = false ∨ a ∈ gone) ∧ L = [])
def ReachPost (w : World) (nodes a : Int) (gone : List Int) (e : Ending) (w2 : World) : Prop :=
  ∃ v n L, e = .returned v ∧ OwnR rkN w2 w.heap.size v n (iv L) ∧ ReachIs nodes a gone L ∧ Chg Non w w2

set_option maxRecDepth 100000 in
set_option maxHeartbeats 2000000 in
theorem far2_any (w : World) (nodes a b : Int) :
    Calls Try.prog 13 #[.int .i64 nodes, .int .i64 a, .int .i64 b] w fun e w2 => ∃ r, e = .returned (.int .i64 r) ∧ FarIs nodes a b r ∧ Chg Non w w2 := by
  cases ha : isG nodes a with
  | false =>
    have h1 := is_any nodes a w
    rw [ha] at h1
    have Ha := Lib.hid ha
    clear ha
    go_enter Try.func13, Try.ntmps13
    go_wp2_with fail
    refine h1.mono ?_
    rintro e w1 ⟨rfl, rfl⟩
    go_wp2_with fail
    go_ret
    exact ⟨_, rfl, .inr ⟨.inl Ha.out, rfl⟩, Chg.refl _ _⟩
  | true =>
    cases hb : isG nodes b with
    | false =>
      have h1 := is_any nodes a w
      have h2 := is_any nodes b w
      rw [ha] at h1
      rw [hb] at h2
      have Hb := Lib.hid hb
      clear ha hb
      go_enter Try.func13, Try.ntmps13
      go_wp2_with fail
      refine h1.mono ?_
      rintro e w1 ⟨rfl, rfl⟩
      go_wp2_with fail
      refine h2.mono ?_
      rintro e w1 ⟨rfl, rfl⟩
      go_wp2_with fail
      go_ret
      exact ⟨_, rfl, .inr ⟨.inr Hb.out, rfl⟩, Chg.refl _ _⟩
    | true =>
      have h1 := is_any nodes a w
      have h2 := is_any nodes b w
      rw [ha] at h1
      rw [hb] at h2
      obtain ⟨a1, a2, a3, a4⟩ := isG_iff.1 ha
      obtain ⟨_, _, b3, b4⟩ := isG_iff.1 hb
      have Ha := Lib.hid ha
      have Hb := Lib.hid hb
      clear ha hb
      obtain ⟨N, rfl⟩ : ∃ N : Nat, nodes = N := ⟨nodes.toNat, by omega⟩
      obtain ⟨aN, rfl⟩ : ∃ aN : Nat, a = aN := ⟨a.toNat, by omega⟩
      obtain ⟨bN, rfl⟩ : ∃ bN : Nat, b = bN := ⟨b.toNat, by omega⟩
      go_enter Try.func13, Try.ntmps13
      go_wp2_with fail
      refine h1.mono ?_
      rintro e w1 ⟨rfl, rfl⟩
      go_wp2_with fail
      refine h2.mono ?_
      rintro e w1 ⟨rfl, rfl⟩
      go_wp2_with fail
      refine (far_any w N aN none 0 0 [] (Win.nil rkN w).rds (by omega) (by omega) (by omega)).mono ?_
      rintro e w2 ⟨D, gd, rfl, hbk, hfin, hgd, hC⟩
      have q : w2.cell? ⟨gd, bN, none⟩ = _ := hbk.cell bN
      rw [dA_get (by omega)] at q
      have Hfin := Lib.hid hfin
      clear hbk hfin h1 h2
      go_wp2_with fail
      go_ret
      exact ⟨_, rfl, .inl ⟨Ha.out, Hb.out, D, Hfin.out, rfl⟩, hC⟩

set_option maxRecDepth 100000 in
set_option maxHeartbeats 2000000 in
theorem reach_any (w : World) (nodes a : Int) (A : Option Addr) (n c : Nat) (gone : List Int) (hr : Rds w 1 A n (iv gone)) (hn : n ≤ 9223372036854775807) :
    Calls Try.prog 7 #[.int .i64 nodes, .int .i64 a, .slice A n c] w (ReachPost w nodes a gone) := by
  have h1 := is_any nodes a w
  have h2 := contains_any w A n c gone a hr hn
  cases ha : isG nodes a with
  | false =>
    rw [ha] at h1
    have Ha := Lib.hid ha
    clear ha h2
    go_enter Try.func7, Try.ntmps7
    go_wp2_with fail
    refine h1.mono ?_
    rintro e w1 ⟨rfl, rfl⟩
    go_wp2_with fail
    go_ret
    exact ⟨_, 0, [], rfl, OwnR.nil _ _ _, .inr ⟨.inl Ha.out, rfl⟩, Chg.refl _ _⟩
  | true =>
    rw [ha] at h1
    cases hg : inI gone a with
    | true =>
      rw [hg] at h2
      have Hg := Lib.hid (inI_iff.1 hg)
      clear ha hg
      go_enter Try.func7, Try.ntmps7
      go_wp2_with fail
      refine h1.mono ?_
      rintro e w1 ⟨rfl, rfl⟩
      go_wp2_with fail
      refine h2.mono ?_
      rintro e w1 ⟨rfl, rfl⟩
      go_wp2_with fail
      go_ret
      exact ⟨_, 0, [], rfl, OwnR.nil _ _ _, .inr ⟨.inr Hg.out, rfl⟩, Chg.refl _ _⟩
    | false =>
      rw [hg] at h2
      obtain ⟨a1, a2, a3, a4⟩ := isG_iff.1 ha
      have Ha := Lib.hid ha
      have Hg := Lib.hid (inI_no.1 hg)
      clear ha hg
      obtain ⟨N, rfl⟩ : ∃ N : Nat, nodes = N := ⟨nodes.toNat, by omega⟩
      obtain ⟨aN, rfl⟩ : ∃ aN : Nat, a = aN := ⟨a.toNat, by omega⟩
      go_enter Try.func7, Try.ntmps7
      go_wp2_with fail
      refine h1.mono ?_
      rintro e w1 ⟨rfl, rfl⟩
      go_wp2_with fail
      refine h2.mono ?_
      rintro e w1 ⟨rfl, rfl⟩
      go_wp2_with fail
      refine (far_any w N aN A n c gone hr hn (by omega) (by omega)).mono ?_
      rintro e w2 ⟨D, gd, rfl, hbk, hfin, hgd, hC⟩
      have Hfin := Lib.hid hfin
      have hgl := hbk.lt
      have hs2 := hC.size
      clear hfin h1 h2 hr
      go_wp2_with fail
      go_loopw [7, 24] (fun v i wr => ∃ (k m : Nat), k ≤ N ∧ i = .int .i64 k ∧ OwnR rkN wr w2.heap.size v m (iv (reachL k D)) ∧ Blk wr gd 3 (dA N D) ∧ Chg Non w2 wr) (fun _ i _ => N - (intOf i).toNat)
      case atStart => exact ⟨0, 0, Nat.zero_le _, rfl, OwnR.nil _ _ _, hbk, Chg.refl _ _⟩
      case round =>
        clear hbk
        obtain ⟨k, m, hk, rfl, hown, hbk, hC2⟩ := hrel
        have Hm := Lib.hid (show m = (reachL k D).length from (by obtain ⟨_, _, _, _, _, h, _⟩ := hown.open_; exact h.lenMap (f := fun n : Int => .int .i64 n)))
        have hml : m ≤ 4096 := by have := Hm.out; have := reachL_len k D; omega
        have hs3 := hC2.size
        by_cases hlt : k < N
        · have q : wr.cell? ⟨gd, k, none⟩ = _ := hbk.cell k
          rw [dA_get hlt] at q
          by_cases hd : 0 ≤ D k
          · have Hr := Lib.hid (show reachL (k + 1) D = reachL k D ++ [(k : Int)] by rw [reachL_succ, if_pos hd])
            go_wp2_with (at_builtin; refine appR1 (K := rkN) rfl (.tmp 31) (.tmp 33) rfl hown rfl (cs := #[.int .i64 (k : Int)]) rfl rfl (iv_one' [(k : Int)]) ?_ ?_ ?_; (next => omega); (next => exact hs3); intro v7 w7 o7 c7 _)
            have hC7 := OwnR.chgApp hown hC2 (Nat.le_refl _) c7
            have hb7 := hbk.chg c7 (fun e => by have := (hown.lt e).1; omega)
            rw [show iv (reachL k D) ++ (#[.int .i64 (k : Int)] : Array Value).toList = iv (reachL (k + 1) D) from by rw [Hr.out]; simp [iv]] at o7
            clear hown hbk hC2 c7
            go_roundw
            case rel => exact ⟨k + 1, m + 1, by omega, by go_num, o7, hb7, hC7⟩
            case measure => simp [intOf]; omega
          · have hr1 : reachL (k + 1) D = reachL k D := by rw [reachL_succ, if_neg hd, List.append_nil]
            rw [← hr1] at hown
            clear hr1 Hm
            go_wp2_with fail
            go_roundw
            case rel => exact ⟨k + 1, m, by omega, by go_num, hown, hbk, hC2⟩
            case measure => simp [intOf]; omega
        · obtain rfl : k = N := by omega
          go_wp2_with fail
          go_ret
          exact ⟨_, m, _, rfl, hown.mono hs2, .inl ⟨Ha.out, Hg.out, D, Hfin.out, rfl⟩, hC.non hC2⟩
end Go.Proofs.Ytjbiglaohlmknaa
