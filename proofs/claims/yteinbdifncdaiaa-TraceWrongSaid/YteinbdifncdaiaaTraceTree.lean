/-
  gleanerlaw29.entries: the tree by hand.
-/
import Derived.Test.YteinbdifncdaiaaTreePlain
import Derived.Test.YteinbdifncdaiaaRowN
import Derived.Test.YteinbdifncdaiaaFlatSet
import Derived.Test.YteinbdifncdaiaaTrace
namespace Go.Proofs.Yteinbdifncdaiaa
open Go.RowKit
set_option linter.unusedVariables false
set_option linter.unusedSimpArgs false

abbrev rkE : RowKind Try.prog where
  t := 23
  e := 32
  z := .agg #[.string ⟨#[]⟩, .int .i64 0, .slice none 0 0, .int .i64 0, .int .i64 0, .int .i64 0, .int .i64 0, .slice none 0 0]
  size := 8
  bytes := 104
  ht := Try.underlying23
  info := by kernel_rfl
  hz := rfl
  hs := by decide
  hb := by decide
abbrev rkN : RowKind Try.prog where
  t := 27
  e := 3
  z := .int .i64 0
  size := 1
  bytes := 8
  ht := Try.underlying27
  info := by kernel_rfl
  hz := rfl
  hs := by decide
  hb := by decide
theorem OwnR.apart2 {P : Program} {K K2 : RowKind P} {w : World} {b b2 n m : Nat} {v v2 : Value} {xs ys : List Value} (h : OwnR K w b v n xs) (h2 : OwnR K2 w b2 v2 m ys) (hne : K.e ≠ K2.e) : ∀ g, v.ownBlock = some g → v2.ownBlock ≠ some g := by
  intro g hg hg2
  rcases h2.2 with ⟨e, _⟩ | ⟨g2, cap, cur, e, _, hh, _⟩
  · rw [e] at hg2; cases hg2
  · rw [e] at hg2
    have e2 : g2 = g := by simpa [Value.ownBlock] using hg2
    subst e2
    exact h.apart (t := K2.e) (cs := cur) hh hne hg
theorem conv1 {k : Nat} (hk : k < 256) (w : World) (g : Nat) (hg : w.heap.size = g) : (convert 54 26 (.slice (some ⟨g, 0, none⟩) 1 1)).run Try.prog (w.alloc (.cells #[.int .u8 (k : Int)] 5)) = .ok (.string (one k)) (w.alloc (.cells #[.int .u8 (k : Int)] 5)) := by
  subst hg
  have h1 : Rds (w.alloc (.cells #[.int .u8 (k : Int)] 5)) 1 (some ⟨w.heap.size, 0, none⟩) 1 (bv [UInt8.ofNat k]) := by
    have := Rds.block (Blk.new w 5 #[.int .u8 (k : Int)]) (n := 1) rfl
    simpa [bv, show k % 256 = k by omega] using this
  exact run_string_rds (L := [UInt8.ofNat k]) Try.underlying54 Try.underlying5 Try.underlying26 h1 1

def rng (k : Nat) : List Int := (List.range k).map fun i : Nat => (i : Int)
theorem rng_succ (k : Nat) : rng (k + 1) = rng k ++ [(k : Int)] := by simp [rng, List.range_succ]
theorem rng_len (k : Nat) : (rng k).length = k := by simp [rng]
/-- The rounds of entries. -/
def RelE (w : World) (n : Nat) (v i : Value) (wr : World) : Prop :=
  ∃ (k g c : Nat) (A : Option Addr) (ac : Nat), k ≤ n ∧ i = .int .i64 k ∧ v = .slice (some ⟨g, 0, none⟩) (k + 1) c ∧ OwnR rkE wr w.heap.size (.slice (some ⟨g, 0, none⟩) (k + 1) c) (k + 1) (evs (tree A ac k k)) ∧ OwnR rkN wr w.heap.size (.slice A k ac) k (iv (rng k)) ∧ Chg Non w wr
/-- What entries answers. -/
def EntriesPost (w : World) (n : Nat) (e : Ending) (w2 : World) : Prop :=
  ∃ (g c : Nat) (A : Option Addr) (ac : Nat), e = .returned (.slice (some ⟨g, 0, none⟩) (n + 1) c) ∧ OwnR rkE w2 w.heap.size (.slice (some ⟨g, 0, none⟩) (n + 1) c) (n + 1) (evs (tree A ac n n)) ∧ OwnR rkN w2 w.heap.size (.slice A n ac) n (iv (rng n)) ∧ Chg Non w w2

set_option maxRecDepth 100000 in
set_option maxHeartbeats 2000000 in
theorem entries_any (w : World) (n : Nat) (hn : n ≤ 16) :
    Calls Try.prog 8 #[.int .i64 (n : Int)] w (EntriesPost w n) := by
  have hE0 : OwnR rkE (w.alloc (.cells #[.string ⟨#[]⟩, .int .i64 0, .slice none 0 0, .int .i64 0, .int .i64 100, .int .i64 0, .int .i64 0, .slice none 0 0] 32)) w.heap.size (.slice (some ⟨w.heap.size, 0, none⟩) 1 1) 1 (evs (tree none 0 0 0)) :=
    ⟨rfl, .inr ⟨_, 1, _, rfl, Nat.le_refl _, heap_alloc_new w _, Nat.le_refl _, by unfold maxLen; omega, rfl, rfl⟩⟩
  have hC0 : Chg Non w (w.alloc (.cells #[.string ⟨#[]⟩, .int .i64 0, .slice none 0 0, .int .i64 0, .int .i64 100, .int .i64 0, .int .i64 0, .slice none 0 0] 32)) := (Chg.refl _ _).alloc _
  go_enter Try.func8, Try.ntmps8
  go_wp2_with fail
  go_loopw [3, 4] (RelE w n) (fun _ i _ => n - (intOf i).toNat)
  case atStart => exact ⟨0, _, 1, none, 0, Nat.zero_le _, rfl, rfl, hE0, OwnR.nil _ _ _, hC0⟩
  case round =>
    clear hE0 hC0
    obtain ⟨k, g, c, A, ac, hk, rfl, rfl, hE, hN, hC⟩ := hrel
    by_cases hlt : k < n
    · have c7 : wr.cell? ⟨g, 7, none⟩ = some (.slice A k ac) := by
        have := hE.cellN (K := rkE) entC_len (k := 0) (x := headE A ac k k) rfl (j := 7) (u := .slice A k ac) rfl
        simpa using this
      have hgl : g < wr.heap.size := (hE.lt (g := g) rfl).2
      have hcs := hC.size
      have q := conv1 (k := k) (by omega)
      have b1 : (0 : Int) ≤ (k : Int) := by omega
      have b2 : (k : Int) ≤ 16 := by omega
      have HE := Lib.hid hE
      have HN := Lib.hid hN
      clear hE hN
      go_wp2_with (first
        | (at_builtin; refine appR1s (K := rkN) rfl (.tmp 17) (.tmp 19) rfl HN.out rfl (cs := #[.int .i64 (k : Int)]) rfl rfl one_int ?_ ?_ ?_; (next => omega); (next => omega); intro A2 c2 w2 hN2 hc2 hb2; have hE2 := HE.out.chg hc2 (fun b hb e => HN.out.apart2 HE.out (by decide) b e hb); have hE3 : OwnR rkE (w2.setCell ⟨g, 7, none⟩ (.slice A2 (k + 1) c2)) w.heap.size (.slice (some ⟨g, 0, none⟩) (k + 1) c) (k + 1) (evs (headE A2 c2 (k + 1) (k + 1) :: (List.range k).map kidE)) := OwnR.putN (K := rkE) entC_len hE2 (k := 0) (x := headE A ac k k) (headE A2 c2 (k + 1) (k + 1)) rfl (j := 7) (u := .slice A2 (k + 1) c2) (by decide) rfl; have f7 := hE2.frozen 7; have c72 : w2.cell? ⟨g, 7, none⟩ = some (.slice A k ac) := hc2.cell c7 (fun e => HN.out.apart2 HE.out (by decide) g e rfl); have hs2 := hc2.size; have HE3 := Lib.hid hE3; have HN2 := Lib.hid hN2; clear hE3 hN2 hE2)
        | (at_builtin; refine appR1s (K := rkE) rfl (.tmp 23) (.tmp 31) rfl (HE3.out.alloc (.cells #[.int .u8 (k : Int)] 5)) rfl (cs := #[.string (one k), .int .i64 0, .slice none 0 0, .int .i64 0, .int .i64 k, .int .i64 0, .int .i64 0, .slice none 0 0]) rfl (show Value.slice (some ⟨w2.heap.size + 1, 0, none⟩) 1 1 = .slice (some ⟨((w2.setCell ⟨g, 7, none⟩ (.slice A2 (k + 1) c2)).alloc (.cells #[.int .u8 (k : Int)] 5)).heap.size, 0, none⟩) 1 1 by simp [World.setCell]) (entC_one (kidE k)) ?_ ?_ ?_; (next => omega); (next => simp [World.setCell]; omega); intro A6 c6 w6 hE6 hc6 hb6; obtain ⟨g6, cc6, e6, _⟩ := hE6.form (by omega); injection e6 with e61 e62 e63; subst e61 e63))
      have hE7 : OwnR rkE w6 w.heap.size (.slice (some ⟨g6, 0, none⟩) (k + 1 + 1) c6) (k + 1 + 1) (evs (tree A2 c2 (k + 1) (k + 1))) := by
        have e : tree A2 c2 (k + 1) (k + 1) = (headE A2 c2 (k + 1) (k + 1) :: (List.range k).map kidE) ++ [kidE k] := by simp [tree, List.range_succ]
        rw [e, evs_snoc]
        exact hE6
      have hgne : ∀ b, (Value.slice A2 (k + 1) c2).ownBlock = some b → b ≠ g := fun b hb e => by
        subst e
        rcases hb2 b hb with h | h
        · exact HN.out.apart2 HE.out (by decide) b h rfl
        · omega
      have hN7 : OwnR rkN w6 w.heap.size (.slice A2 (k + 1) c2) (k + 1) (iv (rng (k + 1))) := by
        rw [rng_succ, iv_app]
        have h1 := HN2.out.chg ((Chg.refl (fun b => b = g) w2).set1 7 (.slice A2 (k + 1) c2)) hgne
        exact (h1.alloc _).chg hc6 (fun b hb e => hgne b hb (by have e : some g = some b := e; exact (Option.some.inj e).symm))
      have hC7 : Chg Non w w6 := by
        have h1 : Chg Non w w2 := hC.trans2 hc2 (fun b e => .inr (HN.out.lt e).1)
        have h2 := (h1.setCell (p := ⟨g, 7, none⟩) (.inr (HE.out.lt (g := g) rfl).1) (.slice A2 (k + 1) c2)).alloc (.cells #[.int .u8 (k : Int)] 5)
        exact h2.trans2 hc6 (fun b e => .inr (by have e : some g = some b := e; rw [← Option.some.inj e]; exact (HE.out.lt (g := g) rfl).1))
      have hrel : RelE w n (.slice (some ⟨g6, 0, none⟩) (k + 1 + 1) c6) (.int .i64 ((k + 1 : Nat) : Int)) w6 := ⟨k + 1, g6, c6, A2, c2, by omega, rfl, rfl, hE7, hN7, hC7⟩
      have Hrel := Lib.hid hrel
      clear hrel hC7 hN7 hE7 hE6 hc6 hb6 hc2 hb2 q c7 c72 f7
      go_wp2_with fail
      go_roundw
      case rel => exact Hrel.out
      case measure => simp [intOf]; omega
    · obtain rfl : k = n := by omega
      go_wp2_with fail
      go_ret
      exact ⟨g, c, A, ac, rfl, hE, hN, hC⟩
end Go.Proofs.Yteinbdifncdaiaa
