/-
  gleanerref14.Beats: what it holds; when, find, Life, Heard, Out.
-/
import Derived.Test.YtfpkhpdbfkclgaaBeatPlain
import Derived.Test.YtfpkhpdbfkclgaaFlatSet
import Derived.Test.YtfpkhpdbfkclgaaGet
namespace Go.Proofs.Ytfpkhpdbfkclgaa
open Go.RowKit
set_option linter.unusedVariables false
set_option linter.unusedSimpArgs false

abbrev rkW : RowKind Try.prog where
  t := 52
  e := 57
  z := .agg #[.int .i64 0, .int .i64 0, .int .i64 0, .int .i64 0, .bool false]
  size := 5
  bytes := 40
  ht := Try.underlying52
  info := by kernel_rfl
  hz := rfl
  hs := by decide
  hb := by decide
def cellW (x : Wt) : List Value := [.int .i64 x.node, .int .i64 x.life, .int .i64 x.at_, .int .i64 x.most, .bool x.inn]
theorem cellW_len (x : Wt) : (cellW x).length = 5 := rfl
theorem cellW_one (x : Wt) : ∀ u ∈ cellW x, u.oneCell' = true := by
  intro u hu
  simp only [cellW, List.mem_cons, List.not_mem_nil, or_false] at hu
  rcases hu with rfl | rfl | rfl | rfl | rfl <;> rfl
def wvs (L : List Wt) : List Value := L.flatMap cellW

/-- Block g is the document's watch; F: the blocks that it uses. -/
structure Rb (w : World) (F : Nat → Prop) (g : Nat) (wt : Int) (L : List Wt) : Prop where
  mk_ ::
  is : ∃ A n c, Hid (n = L.length) ∧ n ≤ c ∧ c ≤ maxLen ∧ Blk w g 54 #[.int .i64 wt, .slice A n c] ∧ OwnR rkW w 0 (.slice A n c) n (wvs L) ∧ F g ∧ (∀ b, (Value.slice A n c).ownBlock = some b → F b) ∧ (Value.slice A n c).ownBlock ≠ some g
  lt : ∀ b, F b → b < w.heap.size
theorem Rb.chg {w w2 : World} {F S : Nat → Prop} {g : Nat} {wt : Int} {L : List Wt} (h : Rb w F g wt L) (hc : Chg S w w2) (hs : ∀ b, F b → ¬ S b) : Rb w2 F g wt L := by
  obtain ⟨⟨A, n, c, hn, h1, h2, hb, ho, h3, h4, h5⟩, h6⟩ := h
  exact ⟨⟨A, n, c, hn, h1, h2, hb.chg hc (hs _ h3), ho.chg hc (fun b e => hs _ (h4 b e)), h3, h4, h5⟩, fun b hb => Nat.lt_of_lt_of_le (h6 b hb) hc.size⟩
theorem Rb.non {w w2 : World} {F : Nat → Prop} {g : Nat} {wt : Int} {L : List Wt} (h : Rb w F g wt L) (hc : Chg Non w w2) : Rb w2 F g wt L := h.chg hc fun _ _ => id

theorem when_any (x : Int) (w : World) : Calls Try.prog 24 #[.int .i64 x] w fun e w2 => e = .returned (.bool (mayB x)) ∧ w = w2 := by
  by_cases h : 0 ≤ x
  · have H := Lib.hid (show mayB x = decide (x ≤ 1099511627776) by unfold mayB; rw [decide_eq_true h, Bool.true_and])
    go_enter Try.func24, Try.ntmps24
    go_wp2_with fail
    go_ret
    exact ⟨by rw [H.out]; rfl, rfl⟩
  · have H := Lib.hid (show mayB x = false by unfold mayB; rw [decide_eq_false h]; rfl)
    go_enter Try.func24, Try.ntmps24
    go_wp2_with fail
    go_ret
    exact ⟨by rw [H.out]; rfl, rfl⟩

/-- Where a node stands; -1: nowhere. -/
def iW (L : List Wt) (a : Int) : Int := match fW L a with | some k => (k : Int) | none => -1
theorem iW_at {L : List Wt} {a : Int} {k : Nat} {x : Wt} (hno : ∀ j y, j < k → L[j]? = some y → y.node ≠ a) (hx : L[k]? = some x) (he : x.node = a) : iW L a = k := by
  have h : fW L a = some k := by
    unfold fW
    rw [List.findIdx?_eq_some_iff_getElem]
    obtain ⟨hk, hx2⟩ := List.getElem?_eq_some_iff.1 hx
    refine ⟨hk, by rw [hx2]; exact decide_eq_true he, fun j hj => ?_⟩
    have := hno j L[j] hj (List.getElem?_eq_getElem _)
    simpa using this
  unfold iW
  rw [h]
theorem iW_no {L : List Wt} {a : Int} (hno : ∀ j y, j < L.length → L[j]? = some y → y.node ≠ a) : iW L a = -1 := by
  have h : fW L a = none := fW_not.2 fun x hx => by
    obtain ⟨j, hj, e⟩ := List.getElem_of_mem hx
    exact hno j x hj (by rw [List.getElem?_eq_getElem hj, e])
  unfold iW
  rw [h]
theorem iW_some {L : List Wt} {a : Int} {k : Nat} (h : fW L a = some k) : iW L a = k := by unfold iW; rw [h]
theorem iW_none {L : List Wt} {a : Int} (h : fW L a = none) : iW L a = -1 := by unfold iW; rw [h]

set_option maxRecDepth 100000 in
set_option maxHeartbeats 1000000 in
theorem find_any (w : World) (F : Nat → Prop) (g : Nat) (wt : Int) (L : List Wt) (a : Int) (h : Rb w F g wt L) :
    Calls Try.prog 23 #[.pointer (some ⟨g, 0, none⟩), .int .i64 a] w fun e w2 => e = .returned (.int .i64 (iW L a)) ∧ w = w2 := by
  obtain ⟨⟨A, n, c, hn, h1, h2, hb, ho, h3, h4, h5⟩, h6⟩ := h
  have c1 : w.cell? ⟨g, 1, none⟩ = some (.slice A n c) := hb.cell 1
  have hg := hb.lt
  have Ho := Lib.hid ho
  unfold maxLen at h2
  clear hb ho
  go_enter Try.func23, Try.ntmps23
  go_wp2_with fail
  go_loop [5] (fun i => ∃ k : Nat, k ≤ n ∧ i = .int .i64 k ∧ Hid (∀ j y, j < k → L[j]? = some y → y.node ≠ a)) (fun i => n - (intOf i).toNat)
  case atStart => exact ⟨0, Nat.zero_le _, rfl, fun j y h => by omega⟩
  case round =>
    obtain ⟨k, hk, rfl, hno⟩ := hrel
    by_cases hlt : k < n
    · obtain ⟨gb, cc, hv, _⟩ := Ho.out.form (by omega)
      injection hv with e1 e2 e3
      subst e1 e3
      have hkl : k < L.length := by have := hn.out; omega
      obtain ⟨x, hx⟩ : ∃ x, L[k]? = some x := ⟨_, List.getElem?_eq_getElem hkl⟩
      have q : w.cell? ⟨gb, k * 5, none⟩ = some (.int .i64 x.node) := Ho.out.cellN cellW_len hx (j := 0) rfl
      by_cases he : x.node = a
      · have Hi := Lib.hid (iW_at hno.out hx he)
        clear hx hno
        go_wp2_with fail
        go_ret
        exact ⟨by rw [Hi.out]; rfl, rfl⟩
      · have hno2 : Hid (∀ j y, j < k + 1 → L[j]? = some y → y.node ≠ a) := by
          intro j y hj hy
          by_cases h : j < k
          · exact hno.out j y h hy
          · obtain rfl : j = k := by omega
            rw [hx] at hy
            cases hy
            exact he
        have t1 : (x.node == a) = false := beq_eq_false_iff_ne.2 he
        clear hx hno he
        go_wp2_with fail
        go_round
        case rel => exact ⟨k + 1, by omega, by go_num, hno2⟩
        case measure => simp [intOf]; omega
    · have Hi := Lib.hid (iW_no (fun j y hj => hno.out j y (by have := hn.out; omega)))
      clear hno
      go_wp2_with fail
      go_ret
      exact ⟨by rw [Hi.out]; rfl, rfl⟩

set_option maxRecDepth 100000 in
theorem rbLife_any (w : World) (F : Nat → Prop) (g : Nat) (wt : Int) (L : List Wt) (a : Int) (h : Rb w F g wt L) :
    Calls Try.prog 17 #[.pointer (some ⟨g, 0, none⟩), .int .i64 a] w fun e w2 => e = .returned (.tuple #[.int .i64 ((nW L a).map (·.1) |>.getD 0), .bool (nW L a).isSome]) ∧ w = w2 := by
  have hf := find_any w F g wt L a h
  obtain ⟨⟨A, n, c, hn, h1, h2, hb, ho, h3, h4, h5⟩, h6⟩ := h
  have c1 : w.cell? ⟨g, 1, none⟩ = some (.slice A n c) := hb.cell 1
  have hg := hb.lt
  unfold maxLen at h2
  cases hk : fW L a with
  | none =>
    have He := Lib.hid (show nW L a = none by unfold nW; rw [fW_none hk]; rfl)
    rw [iW_none hk] at hf
    clear hk hb ho
    go_enter Try.func17, Try.ntmps17
    go_wp2_with fail
    refine hf.mono ?_
    rintro e w2 ⟨rfl, rfl⟩
    go_wp2_with fail
    go_ret2
    exact ⟨by rw [He.out]; rfl, rfl⟩
  | some k =>
    obtain ⟨x, hx, hxa, hgx⟩ := fW_some hk
    rw [iW_some hk] at hf
    have hkn : k < n := by have := hn.out; have := (List.getElem?_eq_some_iff.1 hx).1; omega
    obtain ⟨gb, cc, hv, _⟩ := ho.form (by omega)
    injection hv with e1 e2 e3
    subst e1 e3
    have q1 : w.cell? ⟨gb, k * 5 + 1, none⟩ = some (.int .i64 x.life) := ho.cellN cellW_len hx (j := 1) rfl
    have q4 : w.cell? ⟨gb, k * 5 + 4, none⟩ = some (.bool x.inn) := ho.cellN cellW_len hx (j := 4) rfl
    have hgl := World.block_lt_of_cell? w _ q1
    have hnx := nW_of hgx
    cases hi : x.inn with
    | false =>
      rw [hi] at hnx q4
      have He := Lib.hid (show nW L a = none from hnx)
      clear hk hb ho hx hgx hnx hi
      go_enter Try.func17, Try.ntmps17
      go_wp2_with fail
      refine hf.mono ?_
      rintro e w2 ⟨rfl, rfl⟩
      go_wp2_with fail
      go_ret2
      exact ⟨by rw [He.out]; rfl, rfl⟩
    | true =>
      rw [hi] at hnx q4
      have He := Lib.hid (show nW L a = some (x.life, x.at_) from hnx)
      clear hk hb ho hx hgx hnx hi
      go_enter Try.func17, Try.ntmps17
      go_wp2_with fail
      refine hf.mono ?_
      rintro e w2 ⟨rfl, rfl⟩
      go_wp2_with fail
      go_ret2
      exact ⟨by rw [He.out]; rfl, rfl⟩
end Go.Proofs.Ytfpkhpdbfkclgaa
