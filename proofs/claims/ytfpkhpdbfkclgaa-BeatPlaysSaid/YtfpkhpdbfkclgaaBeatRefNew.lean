/-
  gleanerref14.Beats: In, NewBeats.
-/
import Derived.Test.YtfpkhpdbfkclgaaBeatRefIn
import Derived.Test.YtfpkhpdbfkclgaaWin
namespace Go.Proofs.Ytfpkhpdbfkclgaa
open Go.RowKit
set_option linter.unusedVariables false
set_option linter.unusedSimpArgs false

def RInPost (w : World) (F : Nat → Prop) (g : Nat) (wt : Int) (L : List Wt) (a life now : Int) (e : Ending) (w2 : World) : Prop :=
  e = .returned (.bool (inB L a life now)) ∧ ∃ F2, Rb w2 F2 g wt (if inB L a life now then inW L a life now else L) ∧ (∀ b, F2 b → F b ∨ w.heap.size ≤ b) ∧ Chg F w w2

/-- Five cells are written: one entry is laid anew. -/
theorem put5 {w : World} {gb n c : Nat} {L : List Wt} {k : Nat} {x y : Wt} (ho : OwnR rkW w 0 (.slice (some ⟨gb, 0, none⟩) n c) n (wvs L)) (hx : L[k]? = some x) :
    OwnR rkW (w.setCells gb (k * 5) (cellW y)) 0 (.slice (some ⟨gb, 0, none⟩) n c) n (wvs (L.set k y)) := by
  have hkl := (List.getElem?_eq_some_iff.1 hx).1
  have s : ∀ (L : List Wt) (z : Wt), k < L.length → (L.set k z)[k]? = some z := fun L z h => by rw [List.getElem?_set_self h]
  have l : ∀ (L : List Wt) (z : Wt), (L.set k z).length = L.length := fun L z => List.length_set
  have h0 := ho.putN (f := cellW) cellW_len { x with node := y.node } hx (j := 0) (u := .int .i64 y.node) (by decide) rfl
  have h1 := h0.putN (f := cellW) cellW_len { x with node := y.node, life := y.life } (s _ _ hkl) (j := 1) (u := .int .i64 y.life) (by decide) rfl
  have h2 := h1.putN (f := cellW) cellW_len { x with node := y.node, life := y.life, at_ := y.at_ } (s _ _ (by rw [l]; exact hkl)) (j := 2) (u := .int .i64 y.at_) (by decide) rfl
  have h3 := h2.putN (f := cellW) cellW_len { x with node := y.node, life := y.life, at_ := y.at_, most := y.most } (s _ _ (by rw [l, l]; exact hkl)) (j := 3) (u := .int .i64 y.most) (by decide) rfl
  have h4 := h3.putN (f := cellW) cellW_len y (s _ _ (by rw [l, l, l]; exact hkl)) (j := 4) (u := .bool y.inn) (by decide) rfl
  simp only [List.set_set] at h4
  exact h4
theorem chgSets {S : Nat → Prop} {w0 : World} {gb : Nat} (hg : S gb) (vs : List Value) (o : Nat) (w : World) (h : Chg S w0 w) : Chg S w0 (w.setCells gb o vs) := Chg.sets (.inl hg) vs o w h

set_option maxRecDepth 100000 in
set_option maxHeartbeats 2000000 in
theorem rbIn_any (w : World) (F : Nat → Prop) (g : Nat) (wt : Int) (L : List Wt) (a life now : Int) (h : Rb w F g wt L) (hL : L.length ≤ 1000000) :
    Calls Try.prog 15 #[.pointer (some ⟨g, 0, none⟩), .int .i64 a, .int .i64 life, .int .i64 now] w (RInPost w F g wt L a life now) := by
  have hf := find_any w F g wt L a h
  have hwn := when_any now w
  have hwl := when_any life w
  have hstay : inB L a life now = false → RInPost w F g wt L a life now (.returned (.bool false)) w := fun he => ⟨by rw [he], F, by rw [he, if_neg Bool.false_ne_true]; exact h, fun b hb => .inl hb, Chg.refl _ _⟩
  have Hstay := Lib.hid hstay
  obtain ⟨⟨A, n, c, hn, h1, h2, hb, ho, h3, h4, h5⟩, h6⟩ := h
  have c1 : w.cell? ⟨g, 1, none⟩ = some (.slice A n c) := hb.cell 1
  have hg := hb.lt
  unfold maxLen at h2
  clear hstay
  cases hm : mayB now with
  | false =>
    rw [hm] at hwn
    have He : Hid (inB L a life now = false) := by show _ = _; unfold inB; rw [hm]; simp
    clear hm hb ho hf hwl
    go_enter Try.func15, Try.ntmps15
    go_wp2_with fail
    refine hwn.mono ?_
    rintro e w2 ⟨rfl, rfl⟩
    go_wp2_with fail
    go_ret
    exact Hstay.out He.out
  | true =>
  rw [hm] at hwn
  cases hml : mayB life with
  | false =>
    rw [hml] at hwl
    have He : Hid (inB L a life now = false) := by show _ = _; unfold inB; rw [hml]; simp
    clear hm hb ho hf hml
    go_enter Try.func15, Try.ntmps15
    go_wp2_with fail
    refine hwn.mono ?_
    rintro e w2 ⟨rfl, rfl⟩
    go_wp2_with fail
    refine hwl.mono ?_
    rintro e w2 ⟨rfl, rfl⟩
    go_wp2_with fail
    go_ret
    exact Hstay.out He.out
  | true =>
  rw [hml] at hwl
  cases hk : fW L a with
  | some k =>
    obtain ⟨x, hx, hxa, hgx⟩ := fW_some hk
    rw [iW_some hk] at hf
    have hkn : k < n := by have := hn.out; have := (List.getElem?_eq_some_iff.1 hx).1; omega
    obtain ⟨gb, cc, hv, _⟩ := ho.form (by omega)
    injection hv with e1 e2 e3
    subst e1 e3
    have q0 : w.cell? ⟨gb, k * 5, none⟩ = some (.int .i64 x.node) := ho.cellN cellW_len hx (j := 0) rfl
    have q1 : w.cell? ⟨gb, k * 5 + 1, none⟩ = some (.int .i64 x.life) := ho.cellN cellW_len hx (j := 1) rfl
    have q2 : w.cell? ⟨gb, k * 5 + 2, none⟩ = some (.int .i64 x.at_) := ho.cellN cellW_len hx (j := 2) rfl
    have q3 : w.cell? ⟨gb, k * 5 + 3, none⟩ = some (.int .i64 x.most) := ho.cellN cellW_len hx (j := 3) rfl
    have q4 : w.cell? ⟨gb, k * 5 + 4, none⟩ = some (.bool x.inn) := ho.cellN cellW_len hx (j := 4) rfl
    have hgl := World.block_lt_of_cell? w _ q1
    have hnx := nW_of hgx
    have hmx := mW_of hgx
    cases hi : x.inn with
    | true =>
      rw [hi] at hnx q4
      have He : Hid (inB L a life now = false) := by show _ = _; unfold inB; rw [show nW L a = some (x.life, x.at_) from hnx]; rfl
      clear hm hml hk hb ho hx hgx hnx hmx hi
      go_enter Try.func15, Try.ntmps15
      go_wp2_with fail
      refine hwn.mono ?_
      rintro e w2 ⟨rfl, rfl⟩
      go_wp2_with fail
      refine hwl.mono ?_
      rintro e w2 ⟨rfl, rfl⟩
      go_wp2_with fail
      refine hf.mono ?_
      rintro e w2 ⟨rfl, rfl⟩
      go_wp2_with fail
      go_ret
      exact Hstay.out He.out
    | false =>
      rw [hi] at hnx q4
      have hnx : nW L a = none := hnx
      by_cases hlm : x.most < life
      · have He : Hid (inB L a life now = true) := by show _ = _; unfold inB; rw [hnx, hm, hml, hmx]; dsimp only; rw [decide_eq_true hlm]; rfl
        have hd : decide (life ≤ x.most) = false := decide_eq_false (by omega)
        have hput := put5 (y := entW a life now) ho hx
        have hth : w.there gb (k * 5) 5 := ho.there hkn
        have hCp := chgSets (h4 gb rfl) (cellW (entW a life now)) (k * 5) w (Chg.refl F w)
        have hbp := hb.chg (chgSets (S := fun b => b = gb) rfl (cellW (entW a life now)) (k * 5) w (Chg.refl _ w)) (fun e => h5 (by show some gb = some g; rw [e]))
        have hinw : inW L a life now = L.set k (entW a life now) := by unfold inW; rw [hk]
        obtain ⟨w9, hw9⟩ : ∃ w9, w.setCells gb (k * 5) (cellW (entW a life now)) = w9 := ⟨_, rfl⟩
        rw [hw9] at hput hCp hbp
        have Hw9 := Lib.hid hw9
        have Hth := Lib.hid hth
        have Hput := Lib.hid hput
        have HCp := Lib.hid hCp
        have Hbp := Lib.hid hbp
        have Hinw := Lib.hid hinw
        clear hm hml hk hb ho hx hgx hnx hmx hi hput hCp hbp hinw hlm q0 q1 q2 hth hw9
        go_enter Try.func15, Try.ntmps15
        go_wp2_with fail
        refine hwn.mono ?_
        rintro e w2 ⟨rfl, rfl⟩
        go_wp2_with fail
        refine hwl.mono ?_
        rintro e w2 ⟨rfl, rfl⟩
        go_wp2_with fail
        refine hf.mono ?_
        rintro e w2 ⟨rfl, rfl⟩
        go_wp2_with (refine wpList_store_mid (op := ⟨none, .store 57 (.tmp 74) (.tmp 73), _, _, _, _⟩) rfl _ _ _ rfl gb (k * 5) #[.int .i64 a, .int .i64 life, .int .i64 now, .int .i64 life, .bool true] rfl rfl Hth.out (by kernel_rfl) (all_oneCell_toArray (cellW_one (entW a life now))) ?_; rw [show w.setCells gb (k * 5) (#[.int .i64 a, .int .i64 life, .int .i64 now, .int .i64 life, .bool true] : Array Value).toList = w9 from Hw9.out])
        go_ret
        refine ⟨by rw [He.out]; rfl, F, ?_, fun b hb => .inl hb, HCp.out⟩
        rw [He.out, if_pos rfl, Hinw.out]
        refine ⟨⟨some ⟨gb, 0, none⟩, n, c, ?_, h1, by unfold maxLen; omega, Hbp.out, Hput.out, h3, h4, h5⟩, fun b hb => Nat.lt_of_lt_of_le (h6 b hb) HCp.out.size⟩
        show n = _
        rw [List.length_set]; exact hn.out
      · have He : Hid (inB L a life now = false) := by show _ = _; unfold inB; rw [hnx, hm, hml, hmx]; dsimp only; rw [decide_eq_false hlm]; rfl
        have hd : life ≤ x.most := by omega
        clear hm hml hk hb ho hx hgx hnx hmx hi hlm
        go_enter Try.func15, Try.ntmps15
        go_wp2_with fail
        refine hwn.mono ?_
        rintro e w2 ⟨rfl, rfl⟩
        go_wp2_with fail
        refine hwl.mono ?_
        rintro e w2 ⟨rfl, rfl⟩
        go_wp2_with fail
        refine hf.mono ?_
        rintro e w2 ⟨rfl, rfl⟩
        go_wp2_with fail
        go_ret
        exact Hstay.out He.out
  | none =>
    have hnx : nW L a = none := by unfold nW; rw [fW_none hk]; rfl
    have hmx : mW L a = none := by unfold mW; rw [fW_none hk]; rfl
    have He : Hid (inB L a life now = true) := by show _ = _; unfold inB; rw [hnx, hm, hml, hmx]; rfl
    have hinw : inW L a life now = L ++ [entW a life now] := by unfold inW; rw [hk]
    rw [iW_none hk] at hf
    have hnl : n ≤ 1000000 := by have := hn.out; omega
    have Hb := Lib.hid hb
    have Hinw := Lib.hid hinw
    clear hm hml hk hb hnx hmx hinw
    go_enter Try.func15, Try.ntmps15
    go_wp2_with fail
    refine hwn.mono ?_
    rintro e w2 ⟨rfl, rfl⟩
    go_wp2_with fail
    refine hwl.mono ?_
    rintro e w2 ⟨rfl, rfl⟩
    go_wp2_with fail
    refine hf.mono ?_
    rintro e w2 ⟨rfl, rfl⟩
    clear hf hwn hwl
    go_wp2_with (first
      | (at_builtin; refine appR1 (K := rkW) rfl (.tmp 51) (.tmp 54) rfl ho rfl (cs := #[.int .i64 a, .int .i64 0, .int .i64 0, .int .i64 0, .bool false]) rfl rfl (cellW_one ⟨a, 0, 0, 0, false⟩) ?_ ?_ ?_; (next => omega); (next => exact Nat.zero_le _); intro v7 w7 o7 c7 hv7; obtain ⟨gb, cb, rfl, hcb, hcm, _, hgb⟩ := o7.form (by omega); have hb7 := Hb.out.chg c7 (fun e => h5 e); have c17 : w7.cell? ⟨g, 1, none⟩ = some (.slice A n c) := hb7.cell 1; have f17 := hb7.frozen 1; have hgl7 := hb7.lt; have hgne : gb ≠ g := (fun e => hv7.elim (fun h => h5 (by rw [← h, ← e]; rfl)) (fun h => by have h : gb = w.heap.size + 1 := Option.some.inj h; omega)); obtain ⟨w8, hw8⟩ : ∃ w8, w7.setCell ⟨g, 1, none⟩ (.slice (some ⟨gb, 0, none⟩) (n + 1) cb) = w8 := ⟨_, rfl⟩; have o8 := o7.chg (hw8 ▸ (Chg.refl (fun b => b = g) w7).set1 1 _) (fun b hb e => hgne ((Option.some.inj hb).trans e)); have hb8 := hb7.put 1 (.slice (some ⟨gb, 0, none⟩) (n + 1) cb); rw [hw8] at hb8; have c18 : w8.cell? ⟨g, 1, none⟩ = some (.slice (some ⟨gb, 0, none⟩) (n + 1) cb) := hb8.cell 1; have hgl8 := hb8.lt; have hth8 := Lib.hid (show w8.there gb (n * 5) 5 from o8.there (by omega)); unfold maxLen at hcm)
      | (refine wpList_store_mid (op := ⟨none, .store 57 (.tmp 74) (.tmp 73), _, _, _, _⟩) rfl _ _ _ rfl gb (n * 5) #[.int .i64 a, .int .i64 life, .int .i64 now, .int .i64 life, .bool true] rfl rfl hth8.out (by kernel_rfl) (all_oneCell_toArray (cellW_one (entW a life now))) ?_))
    go_ret
    have hlx : (L ++ [⟨a, 0, 0, 0, false⟩] : List Wt)[n]? = some ⟨a, 0, 0, 0, false⟩ := by rw [List.getElem?_append_right (by have := hn.out; omega), show n - L.length = 0 by have := hn.out; omega]; rfl
    rw [show wvs L ++ (#[.int .i64 a, .int .i64 0, .int .i64 0, .int .i64 0, .bool false] : Array Value).toList = wvs (L ++ [⟨a, 0, 0, 0, false⟩]) from (flat_snoc cellW L ⟨a, 0, 0, 0, false⟩).symm] at o8
    have o9 := put5 (y := entW a life now) o8 hlx
    have e9 : (L ++ [⟨a, 0, 0, 0, false⟩] : List Wt).set n (entW a life now) = L ++ [entW a life now] := by
      have := hn.out
      rw [List.set_append_right _ _ (by omega), show n - L.length = 0 by omega]; rfl
    rw [e9] at o9
    have cC7 : Chg F w w7 := c7.mono (fun b e => h4 b e)
    have cC8 : Chg F w w8 := hw8 ▸ cC7.setCell (p := ⟨g, 1, none⟩) (.inl h3) _
    have hgbF : F gb ∨ w.heap.size ≤ gb := hv7.elim (fun h => .inl (h4 gb (by rw [← h]; rfl))) (fun h => .inr (by have h : gb = w.heap.size + 1 := Option.some.inj h; omega))
    have cC9 : Chg F w (w8.setCells gb (n * 5) (cellW (entW a life now))) := Chg.sets hgbF _ _ _ cC8
    have hb9 := hb8.chg (chgSets (S := fun b => b = gb) rfl (cellW (entW a life now)) (n * 5) w8 (Chg.refl _ w8)) (fun e => hgne e.symm)
    refine ⟨by rw [He.out]; rfl, fun b => F b ∨ b = gb, ?_, fun b hb => hb.elim .inl (fun e => by rw [e]; exact hgbF), cC9⟩
    rw [He.out, if_pos rfl, Hinw.out]
    refine ⟨⟨some ⟨gb, 0, none⟩, n + 1, cb, ?_, hcb, by unfold maxLen; omega, ?_, o9, .inl h3, fun b hb => .inr (Option.some.inj hb).symm, fun e => hgne (Option.some.inj e)⟩, fun b hb => ?_⟩
    · show n + 1 = _
      rw [List.length_append, List.length_singleton, hn.out]
    · simp only [List.setIfInBounds_toArray, List.set_cons_succ, List.set_cons_zero] at hb9
      exact hb9
    · rcases hb with hb | rfl
      · exact Nat.lt_of_lt_of_le (h6 b hb) cC9.size
      · exact (o9.lt rfl).2

def RNewPost (w : World) (wt : Int) (l : List Int) (e : Ending) (w2 : World) : Prop :=
  ∃ g F, e = .returned (.pointer (some ⟨g, 0, none⟩)) ∧ Rb w2 F g (if wt ≤ 1 then 1 else wt) (newW l) ∧ (∀ b, F b → w.heap.size ≤ b) ∧ Chg Non w w2

set_option maxRecDepth 100000 in
set_option maxHeartbeats 4000000 in
theorem rbNew_any (w : World) (wt : Int) (A : Option Addr) (n c : Nat) (l : List Int) (hr : Rds w 1 A n (iv l)) (hn : n ≤ 1000000) :
    Calls Try.prog 10 #[.int .i64 wt, .slice A n c] w (RNewPost w wt l) := by
  have Hr := Lib.hid hr
  have Hll := Lib.hid hr.lenMap
  have hcase : (wt < 1 ∧ Hid ((if wt ≤ 1 then (1 : Int) else wt) = 1)) ∨ (1 ≤ wt ∧ Hid ((if wt ≤ 1 then (1 : Int) else wt) = wt)) := by
    by_cases h : wt < 1
    · exact .inl ⟨h, if_pos (by omega)⟩
    · exact .inr ⟨by omega, by show _ = _; split <;> omega⟩
  clear hr
  rcases hcase with ⟨hw1, Hy⟩ | ⟨hw1, Hy⟩
  all_goals
    go_enter Try.func10, Try.ntmps10
    go_wp2_with fail
    have hstart : ∀ y : Int, Rb (w.alloc (.cells #[.int .i64 y, .slice none 0 0] 54)) (fun b => b = w.heap.size) w.heap.size y (newW (l.take 0)) := fun y =>
      ⟨⟨none, 0, 0, rfl, Nat.le_refl _, by unfold maxLen; omega, Blk.new _ _ _, OwnR.nil _ _ _, rfl, (fun b hb => by cases hb), (by intro e; cases e)⟩, fun b hb => by rw [hb]; simp⟩
    have hC0 : ∀ y : Int, Chg Non w (w.alloc (.cells #[.int .i64 y, .slice none 0 0] 54)) := fun y => (Chg.refl _ _).alloc _
    obtain ⟨g, hg⟩ : ∃ g, w.heap.size = g := ⟨_, rfl⟩
    have hgw : w.heap.size ≤ g := by omega
    rw [hg] at hstart
    rw [hg]
    clear hw1 hg
    go_loopw [6] (fun i wr => ∃ (k : Nat) (F : Nat → Prop) (y : Int), Hid ((if wt ≤ 1 then (1 : Int) else wt) = y) ∧ k ≤ n ∧ i = .int .i64 k ∧ Rb wr F g y (newW (l.take k)) ∧ (∀ b, F b → w.heap.size ≤ b) ∧ Chg Non w wr) (fun i _ => n - (intOf i).toNat)
    case atStart => exact ⟨0, _, _, Hy, Nat.zero_le _, rfl, hstart _, fun b hb => by rw [hb]; exact hgw, hC0 _⟩
    case round =>
      clear hstart hC0
      obtain ⟨k, F, y, hyy, hk, rfl, hR, hFw, hC⟩ := hrel
      by_cases hlt : k < n
      · obtain ⟨ad, x, rfl, hx, hcx⟩ := Hr.out.getI hlt
        have a0 := hC.cell hcx id
        have hadl := World.block_lt_of_cell? w _ hcx
        rw [block_add] at hadl
        have hf := find_any wr F g y _ x hR
        have hst : newW (l.take (k + 1)) = addW (newW (l.take k)) x := by rw [List.take_add_one, hx]; exact new_snoc _ _
        have hLn : (newW (l.take k)).length ≤ k := Nat.le_trans (new_len _) (List.length_take_le _ _)
        generalize hLk : newW (l.take k) = L at hR hf hst hLn
        clear hx hLk
        cases hi : fW L x with
        | some j =>
          have e : newW (l.take (k + 1)) = L := by rw [hst]; unfold addW; rw [hi]
          rw [iW_some hi] at hf
          rw [← e] at hR
          clear hi e hst hcx
          go_wp2_with fail
          refine hf.mono ?_
          rintro e w2 ⟨rfl, rfl⟩
          go_wp2_with fail
          go_roundw
          case rel => exact ⟨k + 1, F, y, hyy, by omega, by go_num, hR, hFw, hC⟩
          case measure => simp [intOf]; omega
        | none =>
          have e : newW (l.take (k + 1)) = L ++ [entW x 1 0] := by rw [hst]; unfold addW; rw [hi]
          rw [iW_none hi] at hf
          have He := Lib.hid e
          obtain ⟨⟨A2, n2, c2, hn2, h1, h2, hb, ho, h3, h4, h5⟩, h6⟩ := hR
          have hn2l : n2 ≤ 1000000 := by have := hn2.out; omega
          have hTa : ¬ (Value.slice A2 n2 c2).ownBlock = some ad.block := fun e => by have := hFw _ (h4 _ e); omega
          have hgl := hb.lt
          clear hi e hst
          go_wp2_with fail
          refine hf.mono ?_
          rintro e w2 ⟨rfl, rfl⟩
          go_wp2_with fail
          have k1 : ∀ wx, Chg (fun b => (Value.slice A2 n2 c2).ownBlock = some b) wr wx → wx.cell? ⟨g, 1, none⟩ = some (.slice A2 n2 c2) := fun wx h => h.cell (hb.cell 1) (fun e => h5 e)
          have ka : ∀ wx, Chg (fun b => (Value.slice A2 n2 c2).ownBlock = some b) wr wx → wx.cell? (ad.add k) = some (.int .i64 x) := fun wx h => h.cell a0 (by rw [block_add]; exact hTa)
          clear a0 hcx hf
          refine st_region_tail 8 14 (fun b => (Value.slice A2 n2 c2).ownBlock = some b) [11] [10] (fun _ _ v w2 => OwnR rkW w2 0 v (n2 + 1) (wvs L ++ cellW (entW x 1 0)) ∧ (∀ b, v.ownBlock = some b → (Value.slice A2 n2 c2).ownBlock = some b ∨ wr.heap.size ≤ b)) (fun _ _ _ _ => True) (fun _ _ v => ∃ A n c, v = .slice A n c) (fun w2 => OwnR rkW w2 0 (.slice A2 n2 c2) n2 (wvs L)) (by kernel_rfl) (by kernel_rfl) (by kernel_rfl) (fun b h => h6 b (h4 b h)) ho (fun _ _ h => h.alloc _) ?_
          repeat (first | (refine st_pass (by rfl) ?_; simp only [Act.put, List.setIfInBounds_toArray, List.set_cons_succ, List.set_cons_zero]) | (refine st_plain (fun b => (Value.slice A2 n2 c2).ownBlock = some b) (wr) rfl rfl (f := ?_) (by rfl) rfl rfl (fun w hC hG => ?_) ?_; rotate_left; (clear hG; first | (go_simp; done) | (go_simp; with_reducible rfl) | (simp [*, go_sem, ↓IntWalk.iteOmega]; done) | (simp [*, go_sem, ↓IntWalk.iteOmega]; with_reducible rfl)); simp only [Act.put, List.setIfInBounds_toArray, List.set_cons_succ, List.set_cons_zero]))
          refine st_minor (fun b => (Value.slice A2 n2 c2).ownBlock = some b) wr rfl rfl (ob := .cells #[.int .i64 x, .int .i64 1, .int .i64 0, .int .i64 1, .bool true] 57) (kd := some (1, 1)) (by rfl) rfl rfl (fun w hC hG => by clear hG; go_simp; rfl) (fun g2 => ?_)
          simp only [Act.put, List.setIfInBounds_toArray, List.set_cons_succ, List.set_cons_zero]
          refine st_major (fun b => (Value.slice A2 n2 c2).ownBlock = some b) (wr) rfl rfl (by rfl) rfl (⟨.slice none 0 0, none, 0, 0, rfl⟩) (fun _ _ _ _ _ _ => trivial) (fun v w ob h => ⟨h.1.alloc ob, h.2⟩) (fun w hC hG hS => ?_) ?_
          · have hB := Rds.blockN (m := 1) (size := 5) (show Blk w g2 57 #[.int .i64 x, .int .i64 1, .int .i64 0, .int .i64 1, .bool true] from (hG 10 rfl).2) rfl
            refine settle_appR (K := rkW) (.tmp 32) (.tmp 38) rfl hS rfl hB rfl (cellW_one (entW x 1 0)) (by omega) (Nat.zero_le _) ?_
            intro v2 w2 i2 i3 i4
            obtain ⟨A4, c4, rfl, _⟩ := i2.open_
            refine ⟨⟨_, _, _, rfl⟩, i3, ⟨i2, fun b hb => ?_⟩, trivial⟩
            rcases i4 with i4 | i4
            · exact .inl (i4 ▸ hb)
            · rw [i4] at hb
              obtain rfl := Option.some.inj hb
              exact .inr (by have := hC.size; omega)
          · rintro v4 ⟨A4, n4, c4, rfl⟩
            simp only [Act.put, List.setIfInBounds_toArray, List.set_cons_succ, List.set_cons_zero]
            repeat (first | (refine st_pass (by rfl) ?_; simp only [Act.put, List.setIfInBounds_toArray, List.set_cons_succ, List.set_cons_zero]) | (refine st_plain (fun b => (Value.slice A2 n2 c2).ownBlock = some b) (wr) rfl rfl (f := ?_) (by rfl) rfl rfl (fun w hC hG => ?_) ?_; rotate_left; (clear hG; first | (go_simp; done) | (go_simp; with_reducible rfl) | (simp [*, go_sem, ↓IntWalk.iteOmega]; done) | (simp [*, go_sem, ↓IntWalk.iteOmega]; with_reducible rfl)); simp only [Act.put, List.setIfInBounds_toArray, List.set_cons_succ, List.set_cons_zero]))
            refine st_tail (fun b => (Value.slice A2 n2 c2).ownBlock = some b) wr rfl rfl rfl (fun w7 hC7 hS7 _ => ?_)
            simp only [List.drop_succ_cons, List.drop_zero]
            obtain ⟨ho7, hob7⟩ := hS7
            obtain ⟨gb, cb, hv, hcb, hcm, _, _⟩ := ho7.form (by omega)
            injection hv with e1 e2 e3
            subst e1 e2 e3
            have hb7 := hb.chg hC7 (fun e => h5 e)
            have hgne : gb ≠ g := fun e => by
              rcases hob7 gb rfl with h | h
              · exact h5 (by rw [h, e])
              · omega
            have c17 : w7.cell? ⟨g, 1, none⟩ = some (.slice A2 n2 c2) := hb7.cell 1
            have f17 := hb7.frozen 1
            have o8 := ho7.chg ((Chg.refl (fun b => b = g) w7).set1 1 (.slice (some ⟨gb, 0, none⟩) (n2 + 1) c4)) (fun b hb e => hgne ((Option.some.inj hb).trans e))
            have hb8 := hb7.put 1 (.slice (some ⟨gb, 0, none⟩) (n2 + 1) c4)
            simp only [List.setIfInBounds_toArray, List.set_cons_succ, List.set_cons_zero] at hb8
            have hgbw : w.heap.size ≤ gb := by
              rcases hob7 gb rfl with h | h
              · exact hFw gb (h4 gb h)
              · have := hC.size; omega
            have cC7 : Chg Non w w7 := hC.trans2 hC7 (fun b e => .inr (hFw b (h4 b e)))
            have cC8 := cC7.setCell (p := ⟨g, 1, none⟩) (.inr hgw) (.slice (some ⟨gb, 0, none⟩) (n2 + 1) c4)
            have hfin : Rb (w7.setCell ⟨g, 1, none⟩ (.slice (some ⟨gb, 0, none⟩) (n2 + 1) c4)) (fun b => F b ∨ b = gb) g y (newW (l.take (k + 1))) := by
              rw [He.out]
              refine ⟨⟨some ⟨gb, 0, none⟩, n2 + 1, c4, ?_, hcb, hcm, hb8, ?_, .inl h3, fun b hb => .inr (Option.some.inj hb).symm, fun e => hgne (Option.some.inj e)⟩, fun b hb => ?_⟩
              · show n2 + 1 = _
                rw [List.length_append, List.length_singleton, hn2.out]
              · rw [show wvs (L ++ [entW x 1 0]) = wvs L ++ cellW (entW x 1 0) from flat_snoc cellW L (entW x 1 0)]
                exact o8
              · rcases hb with hb | rfl
                · have := h6 b hb
                  have := hC7.size
                  simp [World.setCell]; omega
                · exact (o8.lt rfl).2
            have Hfin := Lib.hid hfin
            have hFw2 : ∀ b, (F b ∨ b = gb) → w.heap.size ≤ b := fun b hb => hb.elim (hFw b) (fun e => by rw [e]; exact hgbw)
            clear hfin o8 hb8 ho7 hob7 hb7 hC7 k1 ka hb ho cC7
            go_wp2_with fail
            go_roundw
            case rel => exact ⟨k + 1, _, y, hyy, by omega, by go_num, Hfin.out, hFw2, cC8⟩
            case measure => simp [intOf]; omega
      · have hst : l.take k = l := List.take_of_length_le (by have := Hll.out; omega)
        rw [hst] at hR
        clear hst
        go_wp2_with fail
        go_ret
        exact ⟨g, F, rfl, by rw [hyy.out]; exact hR, hFw, hC⟩
end Go.Proofs.Ytfpkhpdbfkclgaa
