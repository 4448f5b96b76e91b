/-
  gleanerref14.Log: what it holds; find, Moved, Ended, Again, Times.
-/
import Derived.Test.YtbkjpeelabdkfaaLinLaw
import Derived.Test.YtbkjpeelabdkfaaFlatSet
import Derived.Test.YtbkjpeelabdkfaaGet
namespace Go.Proofs.Ytbkjpeelabdkfaa
open Go.RowKit
set_option linter.unusedVariables false
set_option linter.unusedSimpArgs false

structure Rr where
  id : ByteArray
  rc : Rc
abbrev rkL : RowKind Try.prog where
  t := 46
  e := 75
  z := .agg #[.string ⟨#[]⟩, .int .i64 0, .int .i64 0, .int .i64 0, .bool false]
  size := 5
  bytes := 48
  ht := Try.underlying46
  info := by kernel_rfl
  hz := rfl
  hs := by decide
  hb := by decide
def cellL (x : Rr) : List Value := [.string x.id, .int .i64 x.rc.node, .int .i64 x.rc.epoch, .int .i64 x.rc.times, .bool x.rc.ended]
theorem cellL_len (x : Rr) : (cellL x).length = 5 := rfl
theorem cellL_one (x : Rr) : ∀ u ∈ cellL x, u.oneCell' = true := by
  intro u hu
  simp only [cellL, List.mem_cons, List.not_mem_nil, or_false] at hu
  rcases hu with rfl | rfl | rfl | rfl | rfl <;> rfl
def lvs (L : List Rr) : List Value := L.flatMap cellL

/-- Block g is the document's log; F: the blocks that it uses. -/
structure Rl (w : World) (F : Nat → Prop) (g : Nat) (L : List Rr) : Prop where
  mk_ ::
  is : ∃ A n c, Hid (n = L.length) ∧ n ≤ c ∧ c ≤ maxLen ∧ Blk w g 48 #[.slice A n c] ∧ OwnR rkL w 0 (.slice A n c) n (lvs L) ∧ F g ∧ (∀ b, (Value.slice A n c).ownBlock = some b → F b) ∧ (Value.slice A n c).ownBlock ≠ some g
  lt : ∀ b, F b → b < w.heap.size
theorem Rl.chg {w w2 : World} {F S : Nat → Prop} {g : Nat} {L : List Rr} (h : Rl w F g L) (hc : Chg S w w2) (hs : ∀ b, F b → ¬ S b) : Rl w2 F g L := by
  obtain ⟨⟨A, n, c, hn, h1, h2, hb, ho, h3, h4, h5⟩, h6⟩ := h
  exact ⟨⟨A, n, c, hn, h1, h2, hb.chg hc (hs _ h3), ho.chg hc (fun b e => hs _ (h4 b e)), h3, h4, h5⟩, fun b hb => Nat.lt_of_lt_of_le (h6 b hb) hc.size⟩
theorem Rl.non {w w2 : World} {F : Nat → Prop} {g : Nat} {L : List Rr} (h : Rl w F g L) (hc : Chg Non w w2) : Rl w2 F g L := h.chg hc fun _ _ => id

def fL (L : List Rr) (a : ByteArray) : Option Nat := L.findIdx? fun x => decide (x.id = a)
def iL (L : List Rr) (a : ByteArray) : Int := match fL L a with | some k => (k : Int) | none => -1
def lsOf (L : List Rr) : LS := fun a => (L.find? fun x => decide (x.id = a)).map (·.rc)
theorem fL_at {L : List Rr} {a : ByteArray} {k : Nat} {x : Rr} (hno : ∀ j y, j < k → L[j]? = some y → y.id ≠ a) (hx : L[k]? = some x) (he : x.id = a) : fL L a = some k := by
  unfold fL
  rw [List.findIdx?_eq_some_iff_getElem]
  obtain ⟨hk, hx2⟩ := List.getElem?_eq_some_iff.1 hx
  refine ⟨hk, by rw [hx2]; exact decide_eq_true he, fun j hj => ?_⟩
  have := hno j L[j] hj (List.getElem?_eq_getElem _)
  simpa using this
theorem fL_no {L : List Rr} {a : ByteArray} (hno : ∀ y ∈ L, y.id ≠ a) : fL L a = none := by
  unfold fL
  rw [List.findIdx?_eq_none_iff]
  intro x hx
  exact decide_eq_false (hno x hx)
theorem iL_some {L : List Rr} {a : ByteArray} {k : Nat} (h : fL L a = some k) : iL L a = k := by unfold iL; rw [h]
theorem iL_none {L : List Rr} {a : ByteArray} (h : fL L a = none) : iL L a = -1 := by unfold iL; rw [h]
theorem fL_cons (x : Rr) (L : List Rr) (a : ByteArray) : fL (x :: L) a = if x.id = a then some 0 else (fL L a).map (· + 1) := by
  unfold fL
  rw [List.findIdx?_cons]
  by_cases h : x.id = a <;> simp [h]
theorem lsOf_cons (x : Rr) (L : List Rr) (a : ByteArray) : lsOf (x :: L) a = if x.id = a then some x.rc else lsOf L a := by
  unfold lsOf
  rw [List.find?_cons]
  by_cases h : x.id = a <;> simp [h]
theorem ls_none : ∀ {L : List Rr} {a : ByteArray}, fL L a = none → lsOf L a = none
  | [], _, _ => rfl
  | x :: L, a, h => by
    rw [fL_cons] at h
    rw [lsOf_cons]
    by_cases e : x.id = a
    · rw [if_pos e] at h; cases h
    · rw [if_neg e] at h ⊢
      exact ls_none (by simpa using h)
theorem ls_some : ∀ {L : List Rr} {a : ByteArray} {k : Nat}, fL L a = some k → ∃ x, L[k]? = some x ∧ x.id = a ∧ lsOf L a = some x.rc
  | [], _, _, h => by simp [fL] at h
  | x :: L, a, k, h => by
    rw [fL_cons] at h
    rw [lsOf_cons]
    by_cases e : x.id = a
    · rw [if_pos e] at h ⊢
      obtain rfl := Option.some.inj h
      exact ⟨x, rfl, e, rfl⟩
    · rw [if_neg e] at h ⊢
      cases h2 : fL L a with
      | none => rw [h2] at h; cases h
      | some j =>
        rw [h2] at h
        obtain rfl : j + 1 = k := by simpa using h
        obtain ⟨y, h3, h4, h5⟩ := ls_some h2
        exact ⟨y, by simpa using h3, h4, h5⟩
theorem ls_set : ∀ {L : List Rr} {a : ByteArray} {k : Nat} (r : Rc), fL L a = some k → lsOf (L.set k ⟨a, r⟩) = setR (lsOf L) a r
  | [], _, _, _, h => by simp [fL] at h
  | x :: L, a, k, r, h => by
    rw [fL_cons] at h
    funext c
    by_cases e : x.id = a
    · rw [if_pos e] at h
      obtain rfl := Option.some.inj h
      rw [List.set_cons_zero, lsOf_cons]
      unfold setR
      rw [lsOf_cons, e]
      by_cases hc : c = a
      · subst hc; simp
      · rw [if_neg (fun e => hc e.symm), if_neg hc, if_neg (fun e => hc e.symm)]
    · rw [if_neg e] at h
      cases h2 : fL L a with
      | none => rw [h2] at h; cases h
      | some j =>
        rw [h2] at h
        obtain rfl : j + 1 = k := by simpa using h
        rw [List.set_cons_succ, lsOf_cons]
        have ih := congrFun (ls_set r h2) c
        unfold setR at ih ⊢
        rw [lsOf_cons]
        by_cases hc : c = a
        · subst hc
          rw [if_neg e, ih, if_pos rfl, if_pos rfl]
        · rw [ih, if_neg hc, if_neg hc]
theorem ls_push : ∀ {L : List Rr} {a : ByteArray} (r : Rc), fL L a = none → lsOf (L ++ [⟨a, r⟩]) = setR (lsOf L) a r
  | [], a, r, _ => by
    funext c
    rw [List.nil_append, lsOf_cons]
    unfold setR
    by_cases hc : c = a
    · subst hc; simp
    · rw [if_neg (fun e => hc e.symm), if_neg hc]
  | x :: L, a, r, h => by
    rw [fL_cons] at h
    funext c
    by_cases e : x.id = a
    · rw [if_pos e] at h; cases h
    · rw [if_neg e] at h
      have ih := congrFun (ls_push r (by simpa using h)) c
      rw [List.cons_append, lsOf_cons]
      unfold setR at ih ⊢
      rw [lsOf_cons]
      by_cases hc : c = a
      · subst hc
        rw [if_neg e, ih, if_pos rfl, if_pos rfl]
      · rw [ih, if_neg hc, if_neg hc]
theorem ids_set {L : List Rr} {a : ByteArray} {k : Nat} {x : Rr} (hx : L[k]? = some x) (he : x.id = a) (r : Rc) : (L.set k ⟨a, r⟩).map (·.id) = L.map (·.id) := by
  rw [List.map_set]
  have hk := List.getElem?_eq_some_iff.1 hx
  refine List.ext_getElem? fun j => ?_
  rw [List.getElem?_set]
  split
  · rename_i e
    subst e
    rw [List.getElem?_map, hx]
    simp [he, hk.1]
  · rfl

set_option maxRecDepth 100000 in
set_option maxHeartbeats 1000000 in
theorem refFind_any (w : World) (F : Nat → Prop) (g : Nat) (L : List Rr) (a : ByteArray) (h : Rl w F g L) :
    Calls Try.prog 40 #[.pointer (some ⟨g, 0, none⟩), .string a] w fun e w2 => e = .returned (.int .i64 (iL L a)) ∧ w = w2 := by
  obtain ⟨⟨A, n, c, hn, h1, h2, hb, ho, h3, h4, h5⟩, h6⟩ := h
  have c1 : w.cell? ⟨g, 0, none⟩ = some (.slice A n c) := hb.cell 0
  have hg := hb.lt
  have Ho := Lib.hid ho
  unfold maxLen at h2
  clear hb ho
  go_enter Try.func40, Try.ntmps40
  go_wp2_with fail
  go_loop [5] (fun i => ∃ k : Nat, k ≤ n ∧ i = .int .i64 k ∧ Hid (∀ j y, j < k → L[j]? = some y → y.id ≠ a)) (fun i => n - (intOf i).toNat)
  case atStart => exact ⟨0, Nat.zero_le _, rfl, fun j y h => by omega⟩
  case round =>
    obtain ⟨k, hk, rfl, hno⟩ := hrel
    by_cases hlt : k < n
    · obtain ⟨gb, cc, hv, _⟩ := Ho.out.form (by omega)
      injection hv with e1 e2 e3
      subst e1 e3
      have hkl : k < L.length := by have := hn.out; omega
      obtain ⟨x, hx⟩ : ∃ x, L[k]? = some x := ⟨_, List.getElem?_eq_getElem hkl⟩
      have q : w.cell? ⟨gb, k * 5, none⟩ = some (.string x.id) := Ho.out.cellN cellL_len hx (j := 0) rfl
      by_cases he : x.id = a
      · have Hi := Lib.hid (iL_some (fL_at hno.out hx he))
        have t1 : (x.id.toList == a.toList) = true := by rw [he]; exact beq_self_eq_true _
        clear hx hno he
        go_wp2_with fail
        go_ret
        exact ⟨by rw [Hi.out]; rfl, rfl⟩
      · have hno2 : Hid (∀ j y, j < k + 1 → L[j]? = some y → y.id ≠ a) := by
          intro j y hj hy
          by_cases h : j < k
          · exact hno.out j y h hy
          · obtain rfl : j = k := by omega
            rw [hx] at hy
            cases hy
            exact he
        have t1 := str_ne he
        clear hx hno he
        go_wp2_with fail
        go_round
        case rel => exact ⟨k + 1, by omega, by go_num, hno2⟩
        case measure => simp [intOf]; omega
    · have Hi := Lib.hid (iL_none (L := L) (a := a) (fL_no (fun y hy => by
        obtain ⟨j, hj, e⟩ := List.getElem_of_mem hy
        exact hno.out j y (by have := hn.out; omega) (by rw [List.getElem?_eq_getElem hj, e]))))
      clear hno
      go_wp2_with fail
      go_ret
      exact ⟨by rw [Hi.out]; rfl, rfl⟩

/-- What a call that adds nothing leaves. -/
def RlPost (w : World) (F : Nat → Prop) (g : Nat) (L : List Rr) (v : Value) (s : LS) (e : Ending) (w2 : World) : Prop :=
  e = .returned v ∧ ∃ L2, Rl w2 F g L2 ∧ lsOf L2 = s ∧ L2.map (·.id) = L.map (·.id) ∧ Chg F w w2
theorem RlPost.stay {w w2 : World} {F : Nat → Prop} {g : Nat} {L : List Rr} {v : Value} (h : Rl w2 F g L) (hc : Chg Non w w2) : RlPost w F g L v (lsOf L) (.returned v) w2 := ⟨rfl, L, h, rfl, rfl, hc.of_non⟩
theorem goR_of {s : LS} {a : ByteArray} {r : Rc} (h : s a = some r) : goR s a = if r.ended then none else some r := by
  unfold goR
  rw [h]
  cases he : r.ended <;> simp [Option.filter, he]
theorem goR_none {s : LS} {a : ByteArray} (h : s a = none) : goR s a = none := by unfold goR; rw [h]; rfl
set_option maxRecDepth 100000 in
set_option maxHeartbeats 2000000 in
theorem refMoved_any (w : World) (F : Nat → Prop) (g : Nat) (L : List Rr) (a : ByteArray) (node epoch : Int) (h : Rl w F g L) :
    Calls Try.prog 21 #[.pointer (some ⟨g, 0, none⟩), .string a, .int .i64 node, .int .i64 epoch] w (RlPost w F g L (.bool (movedE (lsOf L) a node epoch).1) (movedE (lsOf L) a node epoch).2) := by
  have hf := refFind_any w F g L a h
  have H := Lib.hid h
  obtain ⟨⟨A, n, c, hn, h1, h2, hb, ho, h3, h4, h5⟩, h6⟩ := h
  have c1 : w.cell? ⟨g, 0, none⟩ = some (.slice A n c) := hb.cell 0
  have hg := hb.lt
  unfold maxLen at h2
  cases hk : fL L a with
  | none =>
    have He : Hid (movedE (lsOf L) a node epoch = (false, lsOf L)) := by show _ = _; unfold movedE; rw [goR_none (ls_none hk)]
    rw [iL_none hk] at hf
    clear hk hb ho
    go_enter Try.func21, Try.ntmps21
    go_wp2_with fail
    refine hf.mono ?_
    rintro e w2 ⟨rfl, rfl⟩
    go_wp2_with fail
    go_ret
    rw [He.out]
    exact RlPost.stay H.out (Chg.refl _ _)
  | some k =>
    obtain ⟨x, hx, hxa, hls⟩ := ls_some hk
    rw [iL_some hk] at hf
    have hkn : k < n := by have := hn.out; have := (List.getElem?_eq_some_iff.1 hx).1; omega
    obtain ⟨gb, cc, hv, _⟩ := ho.form (by omega)
    injection hv with e1 e2 e3
    subst e1 e3
    have hgn : gb ≠ g := fun e => h5 (by show some gb = some g; rw [e])
    have q4 : w.cell? ⟨gb, k * 5 + 4, none⟩ = some (.bool x.rc.ended) := ho.cellN cellL_len hx (j := 4) rfl
    have q2 : w.cell? ⟨gb, k * 5 + 2, none⟩ = some (.int .i64 x.rc.epoch) := ho.cellN cellL_len hx (j := 2) rfl
    have hgl := World.block_lt_of_cell? w _ q4
    have hgo := goR_of hls
    cases hi : x.rc.ended with
    | true =>
      rw [hi] at q4 hgo
      rw [if_pos rfl] at hgo
      have He : Hid (movedE (lsOf L) a node epoch = (false, lsOf L)) := by show _ = _; unfold movedE; rw [hgo]
      clear hk hb ho hx hi hgo hls hxa
      go_enter Try.func21, Try.ntmps21
      go_wp2_with fail
      refine hf.mono ?_
      rintro e w2 ⟨rfl, rfl⟩
      go_wp2_with fail
      go_ret
      rw [He.out]
      exact RlPost.stay H.out (Chg.refl _ _)
    | false =>
      rw [hi] at q4 hgo
      rw [if_neg Bool.false_ne_true] at hgo
      by_cases hle : x.rc.epoch ≤ epoch
      · as_aux_lemma =>
          have He : Hid (movedE (lsOf L) a node epoch = (true, setR (lsOf L) a ⟨node, epoch, x.rc.times, x.rc.ended⟩)) := by show _ = _; unfold movedE; rw [hgo]; dsimp only; rw [if_pos hle]
          have hset := ls_set ⟨node, epoch, x.rc.times, x.rc.ended⟩ hk
          have hids := ids_set hx hxa ⟨node, epoch, x.rc.times, x.rc.ended⟩
          have Hset := Lib.hid hset
          have Hids := Lib.hid hids
          have p0 : w.cell? ⟨gb, k * 5 + 1, none⟩ = some (.int .i64 x.rc.node) := ho.cellN cellL_len hx (j := 1) rfl
          have r0 := ho.frozen (k * 5 + 1)
          obtain ⟨w1, hw1⟩ : ∃ wz, w.setCell ⟨gb, k * 5 + 1, none⟩ (.int .i64 node) = wz := ⟨_, rfl⟩
          have ho1 : OwnR rkL w1 0 (.slice (some ⟨gb, 0, none⟩) n c) n (lvs ((L).set k ⟨x.id, ⟨node, x.rc.epoch, x.rc.times, x.rc.ended⟩⟩)) := hw1 ▸ ho.putN (f := cellL) cellL_len (y := ⟨x.id, ⟨node, x.rc.epoch, x.rc.times, x.rc.ended⟩⟩) hx (j := 1) (u := .int .i64 node) (by decide) rfl
          have hc1 : Chg (fun b => b = gb) w w1 := hw1 ▸ (Chg.refl _ _).set1 (k * 5 + 1) _
          have hb1 := hb.chg hc1 (fun e => hgn e.symm)
          have d1 : w1.cell? ⟨g, 0, none⟩ = some (.slice (some ⟨gb, 0, none⟩) n c) := hb1.cell 0
          have hx1 : ((L).set k ⟨x.id, ⟨node, x.rc.epoch, x.rc.times, x.rc.ended⟩⟩)[k]? = some ⟨x.id, ⟨node, x.rc.epoch, x.rc.times, x.rc.ended⟩⟩ := List.getElem?_set_self (by have h9 := (List.getElem?_eq_some_iff.1 hx).1; first | exact h9 | (simp only [List.length_set]; exact h9))
          have gl1 := hb1.lt
          have bl1 := World.block_lt_of_cell? w1 _ (ho1.cellN cellL_len hx1 (j := 4) rfl : w1.cell? ⟨gb, k * 5 + 4, none⟩ = _)
          have p1 : w1.cell? ⟨gb, k * 5 + 2, none⟩ = some (.int .i64 x.rc.epoch) := ho1.cellN cellL_len hx1 (j := 2) rfl
          have r1 := ho1.frozen (k * 5 + 2)
          obtain ⟨w2, hw2⟩ : ∃ wz, w1.setCell ⟨gb, k * 5 + 2, none⟩ (.int .i64 epoch) = wz := ⟨_, rfl⟩
          have ho2 : OwnR rkL w2 0 (.slice (some ⟨gb, 0, none⟩) n c) n (lvs (((L).set k ⟨x.id, ⟨node, x.rc.epoch, x.rc.times, x.rc.ended⟩⟩).set k ⟨x.id, ⟨node, epoch, x.rc.times, x.rc.ended⟩⟩)) := hw2 ▸ ho1.putN (f := cellL) cellL_len (y := ⟨x.id, ⟨node, epoch, x.rc.times, x.rc.ended⟩⟩) hx1 (j := 2) (u := .int .i64 epoch) (by decide) rfl
          have hc2 : Chg (fun b => b = gb) w1 w2 := hw2 ▸ (Chg.refl _ _).set1 (k * 5 + 2) _
          have hb2 := hb1.chg hc2 (fun e => hgn e.symm)
          have d2 : w2.cell? ⟨g, 0, none⟩ = some (.slice (some ⟨gb, 0, none⟩) n c) := hb2.cell 0
          have hx2 : (((L).set k ⟨x.id, ⟨node, x.rc.epoch, x.rc.times, x.rc.ended⟩⟩).set k ⟨x.id, ⟨node, epoch, x.rc.times, x.rc.ended⟩⟩)[k]? = some ⟨x.id, ⟨node, epoch, x.rc.times, x.rc.ended⟩⟩ := List.getElem?_set_self (by have h9 := (List.getElem?_eq_some_iff.1 hx).1; first | exact h9 | (simp only [List.length_set]; exact h9))
          have gl2 := hb2.lt
          have bl2 := World.block_lt_of_cell? w2 _ (ho2.cellN cellL_len hx2 (j := 4) rfl : w2.cell? ⟨gb, k * 5 + 4, none⟩ = _)
          have hCC := hc1.trans hc2
          simp only [List.set_set] at ho2
          rw [hxa] at ho2
          have Hfin := Lib.hid ho2
          have Hbf := Lib.hid hb2
          have hnl : Hid (n = (L.set k ⟨a, ⟨node, epoch, x.rc.times, x.rc.ended⟩⟩).length) := by show n = _; rw [List.length_set]; exact hn.out
          clear hk hb ho hx hi hgo hls hset hids ho1 hb1 hc1 hx1 ho2 hb2 hc2 hx2
          go_enter Try.func21, Try.ntmps21
          go_wp2_with fail
          refine hf.mono ?_
          rintro e w9 ⟨rfl, rfl⟩
          go_wp2_with fail
          go_ret
          rw [He.out]
          exact ⟨rfl, L.set k ⟨a, ⟨node, epoch, x.rc.times, x.rc.ended⟩⟩, ⟨⟨some ⟨gb, 0, none⟩, n, c, hnl, h1, by unfold maxLen; omega, Hbf.out, Hfin.out, h3, h4, h5⟩, fun b hb => Nat.lt_of_lt_of_le (h6 b hb) hCC.size⟩, Hset.out, Hids.out, hCC.mono fun b e => h4 b (by rw [e]; rfl)⟩
      · have hlt : epoch < x.rc.epoch := by omega
        have He : Hid (movedE (lsOf L) a node epoch = (false, lsOf L)) := by show _ = _; unfold movedE; rw [hgo]; dsimp only; rw [if_neg hle]
        clear hk hb ho hx hi hgo hls hxa hle
        go_enter Try.func21, Try.ntmps21
        go_wp2_with fail
        refine hf.mono ?_
        rintro e w2 ⟨rfl, rfl⟩
        go_wp2_with fail
        go_ret
        rw [He.out]
        exact RlPost.stay H.out (Chg.refl _ _)
set_option maxRecDepth 100000 in
set_option maxHeartbeats 2000000 in
theorem refEnded_any (w : World) (F : Nat → Prop) (g : Nat) (L : List Rr) (a : ByteArray)  (h : Rl w F g L) :
    Calls Try.prog 22 #[.pointer (some ⟨g, 0, none⟩), .string a] w (RlPost w F g L (.bool (endedE (lsOf L) a).1) (endedE (lsOf L) a).2) := by
  have hf := refFind_any w F g L a h
  have H := Lib.hid h
  obtain ⟨⟨A, n, c, hn, h1, h2, hb, ho, h3, h4, h5⟩, h6⟩ := h
  have c1 : w.cell? ⟨g, 0, none⟩ = some (.slice A n c) := hb.cell 0
  have hg := hb.lt
  unfold maxLen at h2
  cases hk : fL L a with
  | none =>
    have He : Hid (endedE (lsOf L) a = (false, lsOf L)) := by show _ = _; unfold endedE; rw [goR_none (ls_none hk)]
    rw [iL_none hk] at hf
    clear hk hb ho
    go_enter Try.func22, Try.ntmps22
    go_wp2_with fail
    refine hf.mono ?_
    rintro e w2 ⟨rfl, rfl⟩
    go_wp2_with fail
    go_ret
    rw [He.out]
    exact RlPost.stay H.out (Chg.refl _ _)
  | some k =>
    obtain ⟨x, hx, hxa, hls⟩ := ls_some hk
    rw [iL_some hk] at hf
    have hkn : k < n := by have := hn.out; have := (List.getElem?_eq_some_iff.1 hx).1; omega
    obtain ⟨gb, cc, hv, _⟩ := ho.form (by omega)
    injection hv with e1 e2 e3
    subst e1 e3
    have hgn : gb ≠ g := fun e => h5 (by show some gb = some g; rw [e])
    have q4 : w.cell? ⟨gb, k * 5 + 4, none⟩ = some (.bool x.rc.ended) := ho.cellN cellL_len hx (j := 4) rfl
    have q2 : w.cell? ⟨gb, k * 5 + 2, none⟩ = some (.int .i64 x.rc.epoch) := ho.cellN cellL_len hx (j := 2) rfl
    have hgl := World.block_lt_of_cell? w _ q4
    have hgo := goR_of hls
    cases hi : x.rc.ended with
    | true =>
      rw [hi] at q4 hgo
      rw [if_pos rfl] at hgo
      have He : Hid (endedE (lsOf L) a = (false, lsOf L)) := by show _ = _; unfold endedE; rw [hgo]
      clear hk hb ho hx hi hgo hls hxa
      go_enter Try.func22, Try.ntmps22
      go_wp2_with fail
      refine hf.mono ?_
      rintro e w2 ⟨rfl, rfl⟩
      go_wp2_with fail
      go_ret
      rw [He.out]
      exact RlPost.stay H.out (Chg.refl _ _)
    | false =>
      rw [hi] at q4 hgo
      rw [if_neg Bool.false_ne_true] at hgo
      have He : Hid (endedE (lsOf L) a = (true, setR (lsOf L) a ⟨x.rc.node, x.rc.epoch, x.rc.times, true⟩)) := by show _ = _; unfold endedE; rw [hgo]; try rfl
      have hset := ls_set ⟨x.rc.node, x.rc.epoch, x.rc.times, true⟩ hk
      have hids := ids_set hx hxa ⟨x.rc.node, x.rc.epoch, x.rc.times, true⟩
      have Hset := Lib.hid hset
      have Hids := Lib.hid hids
      have p0 : w.cell? ⟨gb, k * 5 + 4, none⟩ = some (.bool x.rc.ended) := ho.cellN cellL_len hx (j := 4) rfl
      have r0 := ho.frozen (k * 5 + 4)
      obtain ⟨w1, hw1⟩ : ∃ wz, w.setCell ⟨gb, k * 5 + 4, none⟩ (.bool true) = wz := ⟨_, rfl⟩
      have ho1 : OwnR rkL w1 0 (.slice (some ⟨gb, 0, none⟩) n c) n (lvs ((L).set k ⟨x.id, ⟨x.rc.node, x.rc.epoch, x.rc.times, true⟩⟩)) := hw1 ▸ ho.putN (f := cellL) cellL_len (y := ⟨x.id, ⟨x.rc.node, x.rc.epoch, x.rc.times, true⟩⟩) hx (j := 4) (u := .bool true) (by decide) rfl
      have hc1 : Chg (fun b => b = gb) w w1 := hw1 ▸ (Chg.refl _ _).set1 (k * 5 + 4) _
      have hb1 := hb.chg hc1 (fun e => hgn e.symm)
      have d1 : w1.cell? ⟨g, 0, none⟩ = some (.slice (some ⟨gb, 0, none⟩) n c) := hb1.cell 0
      have hx1 : ((L).set k ⟨x.id, ⟨x.rc.node, x.rc.epoch, x.rc.times, true⟩⟩)[k]? = some ⟨x.id, ⟨x.rc.node, x.rc.epoch, x.rc.times, true⟩⟩ := List.getElem?_set_self (by have h9 := (List.getElem?_eq_some_iff.1 hx).1; first | exact h9 | (simp only [List.length_set]; exact h9))
      have gl1 := hb1.lt
      have bl1 := World.block_lt_of_cell? w1 _ (ho1.cellN cellL_len hx1 (j := 4) rfl : w1.cell? ⟨gb, k * 5 + 4, none⟩ = _)
      have hCC := hc1
      skip
      rw [hxa] at ho1
      have Hfin := Lib.hid ho1
      have Hbf := Lib.hid hb1
      have hnl : Hid (n = (L.set k ⟨a, ⟨x.rc.node, x.rc.epoch, x.rc.times, true⟩⟩).length) := by show n = _; rw [List.length_set]; exact hn.out
      clear hk hb ho hx hi hgo hls hset hids ho1 hb1 hc1 hx1
      go_enter Try.func22, Try.ntmps22
      go_wp2_with fail
      refine hf.mono ?_
      rintro e w9 ⟨rfl, rfl⟩
      go_wp2_with fail
      go_ret
      rw [He.out]
      exact ⟨rfl, L.set k ⟨a, ⟨x.rc.node, x.rc.epoch, x.rc.times, true⟩⟩, ⟨⟨some ⟨gb, 0, none⟩, n, c, hnl, h1, by unfold maxLen; omega, Hbf.out, Hfin.out, h3, h4, h5⟩, fun b hb => Nat.lt_of_lt_of_le (h6 b hb) hCC.size⟩, Hset.out, Hids.out, hCC.mono fun b e => h4 b (by rw [e]; rfl)⟩
set_option maxRecDepth 100000 in
set_option maxHeartbeats 2000000 in
theorem refAgain_any (w : World) (F : Nat → Prop) (g : Nat) (L : List Rr) (a : ByteArray) (node epoch : Int) (h : Rl w F g L) (hT : ∀ x ∈ L, 0 ≤ x.rc.times ∧ x.rc.times ≤ 1000000) :
    Calls Try.prog 23 #[.pointer (some ⟨g, 0, none⟩), .string a, .int .i64 node, .int .i64 epoch] w (RlPost w F g L (.bool (againE (lsOf L) a node epoch).1) (againE (lsOf L) a node epoch).2) := by
  have hf := refFind_any w F g L a h
  have H := Lib.hid h
  obtain ⟨⟨A, n, c, hn, h1, h2, hb, ho, h3, h4, h5⟩, h6⟩ := h
  have c1 : w.cell? ⟨g, 0, none⟩ = some (.slice A n c) := hb.cell 0
  have hg := hb.lt
  unfold maxLen at h2
  cases hk : fL L a with
  | none =>
    have He : Hid (againE (lsOf L) a node epoch = (false, lsOf L)) := by show _ = _; unfold againE; rw [goR_none (ls_none hk)]
    rw [iL_none hk] at hf
    clear hk hb ho
    go_enter Try.func23, Try.ntmps23
    go_wp2_with fail
    refine hf.mono ?_
    rintro e w2 ⟨rfl, rfl⟩
    go_wp2_with fail
    go_ret
    rw [He.out]
    exact RlPost.stay H.out (Chg.refl _ _)
  | some k =>
    obtain ⟨x, hx, hxa, hls⟩ := ls_some hk
    rw [iL_some hk] at hf
    have hkn : k < n := by have := hn.out; have := (List.getElem?_eq_some_iff.1 hx).1; omega
    obtain ⟨gb, cc, hv, _⟩ := ho.form (by omega)
    injection hv with e1 e2 e3
    subst e1 e3
    have hgn : gb ≠ g := fun e => h5 (by show some gb = some g; rw [e])
    have q4 : w.cell? ⟨gb, k * 5 + 4, none⟩ = some (.bool x.rc.ended) := ho.cellN cellL_len hx (j := 4) rfl
    have q2 : w.cell? ⟨gb, k * 5 + 2, none⟩ = some (.int .i64 x.rc.epoch) := ho.cellN cellL_len hx (j := 2) rfl
    have hgl := World.block_lt_of_cell? w _ q4
    have hgo := goR_of hls
    cases hi : x.rc.ended with
    | true =>
      rw [hi] at q4 hgo
      rw [if_pos rfl] at hgo
      have He : Hid (againE (lsOf L) a node epoch = (false, lsOf L)) := by show _ = _; unfold againE; rw [hgo]
      clear hk hb ho hx hi hgo hls hxa
      go_enter Try.func23, Try.ntmps23
      go_wp2_with fail
      refine hf.mono ?_
      rintro e w2 ⟨rfl, rfl⟩
      go_wp2_with fail
      go_ret
      rw [He.out]
      exact RlPost.stay H.out (Chg.refl _ _)
    | false =>
      rw [hi] at q4 hgo
      rw [if_neg Bool.false_ne_true] at hgo
      by_cases hle : x.rc.epoch < epoch
      · as_aux_lemma =>
          have He : Hid (againE (lsOf L) a node epoch = (true, setR (lsOf L) a ⟨node, epoch, x.rc.times + 1, x.rc.ended⟩)) := by show _ = _; unfold againE; rw [hgo]; dsimp only; rw [if_pos hle]
          have hset := ls_set ⟨node, epoch, x.rc.times + 1, x.rc.ended⟩ hk
          have hids := ids_set hx hxa ⟨node, epoch, x.rc.times + 1, x.rc.ended⟩
          have Hset := Lib.hid hset
          have Hids := Lib.hid hids
          have hti := hT x (List.mem_of_getElem? hx)
          have hwr : IntKind.i64.wrap (x.rc.times + 1) = x.rc.times + 1 := by rw [IntKind.wrap_i64]; omega
          have p0 : w.cell? ⟨gb, k * 5 + 1, none⟩ = some (.int .i64 x.rc.node) := ho.cellN cellL_len hx (j := 1) rfl
          have r0 := ho.frozen (k * 5 + 1)
          obtain ⟨w1, hw1⟩ : ∃ wz, w.setCell ⟨gb, k * 5 + 1, none⟩ (.int .i64 node) = wz := ⟨_, rfl⟩
          have ho1 : OwnR rkL w1 0 (.slice (some ⟨gb, 0, none⟩) n c) n (lvs ((L).set k ⟨x.id, ⟨node, x.rc.epoch, x.rc.times, x.rc.ended⟩⟩)) := hw1 ▸ ho.putN (f := cellL) cellL_len (y := ⟨x.id, ⟨node, x.rc.epoch, x.rc.times, x.rc.ended⟩⟩) hx (j := 1) (u := .int .i64 node) (by decide) rfl
          have hc1 : Chg (fun b => b = gb) w w1 := hw1 ▸ (Chg.refl _ _).set1 (k * 5 + 1) _
          have hb1 := hb.chg hc1 (fun e => hgn e.symm)
          have d1 : w1.cell? ⟨g, 0, none⟩ = some (.slice (some ⟨gb, 0, none⟩) n c) := hb1.cell 0
          have hx1 : ((L).set k ⟨x.id, ⟨node, x.rc.epoch, x.rc.times, x.rc.ended⟩⟩)[k]? = some ⟨x.id, ⟨node, x.rc.epoch, x.rc.times, x.rc.ended⟩⟩ := List.getElem?_set_self (by have h9 := (List.getElem?_eq_some_iff.1 hx).1; first | exact h9 | (simp only [List.length_set]; exact h9))
          have gl1 := hb1.lt
          have bl1 := World.block_lt_of_cell? w1 _ (ho1.cellN cellL_len hx1 (j := 4) rfl : w1.cell? ⟨gb, k * 5 + 4, none⟩ = _)
          have p1 : w1.cell? ⟨gb, k * 5 + 2, none⟩ = some (.int .i64 x.rc.epoch) := ho1.cellN cellL_len hx1 (j := 2) rfl
          have r1 := ho1.frozen (k * 5 + 2)
          obtain ⟨w2, hw2⟩ : ∃ wz, w1.setCell ⟨gb, k * 5 + 2, none⟩ (.int .i64 epoch) = wz := ⟨_, rfl⟩
          have ho2 : OwnR rkL w2 0 (.slice (some ⟨gb, 0, none⟩) n c) n (lvs (((L).set k ⟨x.id, ⟨node, x.rc.epoch, x.rc.times, x.rc.ended⟩⟩).set k ⟨x.id, ⟨node, epoch, x.rc.times, x.rc.ended⟩⟩)) := hw2 ▸ ho1.putN (f := cellL) cellL_len (y := ⟨x.id, ⟨node, epoch, x.rc.times, x.rc.ended⟩⟩) hx1 (j := 2) (u := .int .i64 epoch) (by decide) rfl
          have hc2 : Chg (fun b => b = gb) w1 w2 := hw2 ▸ (Chg.refl _ _).set1 (k * 5 + 2) _
          have hb2 := hb1.chg hc2 (fun e => hgn e.symm)
          have d2 : w2.cell? ⟨g, 0, none⟩ = some (.slice (some ⟨gb, 0, none⟩) n c) := hb2.cell 0
          have hx2 : (((L).set k ⟨x.id, ⟨node, x.rc.epoch, x.rc.times, x.rc.ended⟩⟩).set k ⟨x.id, ⟨node, epoch, x.rc.times, x.rc.ended⟩⟩)[k]? = some ⟨x.id, ⟨node, epoch, x.rc.times, x.rc.ended⟩⟩ := List.getElem?_set_self (by have h9 := (List.getElem?_eq_some_iff.1 hx).1; first | exact h9 | (simp only [List.length_set]; exact h9))
          have gl2 := hb2.lt
          have bl2 := World.block_lt_of_cell? w2 _ (ho2.cellN cellL_len hx2 (j := 4) rfl : w2.cell? ⟨gb, k * 5 + 4, none⟩ = _)
          have p2 : w2.cell? ⟨gb, k * 5 + 3, none⟩ = some (.int .i64 x.rc.times) := ho2.cellN cellL_len hx2 (j := 3) rfl
          have r2 := ho2.frozen (k * 5 + 3)
          obtain ⟨w3, hw3⟩ : ∃ wz, w2.setCell ⟨gb, k * 5 + 3, none⟩ (.int .i64 (x.rc.times + 1)) = wz := ⟨_, rfl⟩
          have ho3 : OwnR rkL w3 0 (.slice (some ⟨gb, 0, none⟩) n c) n (lvs ((((L).set k ⟨x.id, ⟨node, x.rc.epoch, x.rc.times, x.rc.ended⟩⟩).set k ⟨x.id, ⟨node, epoch, x.rc.times, x.rc.ended⟩⟩).set k ⟨x.id, ⟨node, epoch, x.rc.times + 1, x.rc.ended⟩⟩)) := hw3 ▸ ho2.putN (f := cellL) cellL_len (y := ⟨x.id, ⟨node, epoch, x.rc.times + 1, x.rc.ended⟩⟩) hx2 (j := 3) (u := .int .i64 (x.rc.times + 1)) (by decide) rfl
          have hc3 : Chg (fun b => b = gb) w2 w3 := hw3 ▸ (Chg.refl _ _).set1 (k * 5 + 3) _
          have hb3 := hb2.chg hc3 (fun e => hgn e.symm)
          have d3 : w3.cell? ⟨g, 0, none⟩ = some (.slice (some ⟨gb, 0, none⟩) n c) := hb3.cell 0
          have hx3 : ((((L).set k ⟨x.id, ⟨node, x.rc.epoch, x.rc.times, x.rc.ended⟩⟩).set k ⟨x.id, ⟨node, epoch, x.rc.times, x.rc.ended⟩⟩).set k ⟨x.id, ⟨node, epoch, x.rc.times + 1, x.rc.ended⟩⟩)[k]? = some ⟨x.id, ⟨node, epoch, x.rc.times + 1, x.rc.ended⟩⟩ := List.getElem?_set_self (by have h9 := (List.getElem?_eq_some_iff.1 hx).1; first | exact h9 | (simp only [List.length_set]; exact h9))
          have gl3 := hb3.lt
          have bl3 := World.block_lt_of_cell? w3 _ (ho3.cellN cellL_len hx3 (j := 4) rfl : w3.cell? ⟨gb, k * 5 + 4, none⟩ = _)
          have hCC := (hc1.trans hc2).trans hc3
          simp only [List.set_set] at ho3
          rw [hxa] at ho3
          have Hfin := Lib.hid ho3
          have Hbf := Lib.hid hb3
          have hnl : Hid (n = (L.set k ⟨a, ⟨node, epoch, x.rc.times + 1, x.rc.ended⟩⟩).length) := by show n = _; rw [List.length_set]; exact hn.out
          clear hk hb ho hx hi hgo hls hset hids ho1 hb1 hc1 hx1 ho2 hb2 hc2 hx2 ho3 hb3 hc3 hx3 hT
          go_enter Try.func23, Try.ntmps23
          go_wp2_with fail
          refine hf.mono ?_
          rintro e w9 ⟨rfl, rfl⟩
          go_wp2_with fail
          go_ret
          rw [He.out]
          exact ⟨rfl, L.set k ⟨a, ⟨node, epoch, x.rc.times + 1, x.rc.ended⟩⟩, ⟨⟨some ⟨gb, 0, none⟩, n, c, hnl, h1, by unfold maxLen; omega, Hbf.out, Hfin.out, h3, h4, h5⟩, fun b hb => Nat.lt_of_lt_of_le (h6 b hb) hCC.size⟩, Hset.out, Hids.out, hCC.mono fun b e => h4 b (by rw [e]; rfl)⟩
      · have hlt : epoch ≤ x.rc.epoch := by omega
        have He : Hid (againE (lsOf L) a node epoch = (false, lsOf L)) := by show _ = _; unfold againE; rw [hgo]; dsimp only; rw [if_neg hle]
        clear hk hb ho hx hi hgo hls hxa hle
        go_enter Try.func23, Try.ntmps23
        go_wp2_with fail
        refine hf.mono ?_
        rintro e w2 ⟨rfl, rfl⟩
        go_wp2_with fail
        go_ret
        rw [He.out]
        exact RlPost.stay H.out (Chg.refl _ _)
theorem refTimes_any (w : World) (F : Nat → Prop) (g : Nat) (L : List Rr) (a : ByteArray) (h : Rl w F g L) :
    Calls Try.prog 28 #[.pointer (some ⟨g, 0, none⟩), .string a] w fun e w2 => e = .returned (.int .i64 (timesR (lsOf L) a)) ∧ w = w2 := by
  have hf := refFind_any w F g L a h
  obtain ⟨⟨A, n, c, hn, h1, h2, hb, ho, h3, h4, h5⟩, h6⟩ := h
  have c1 : w.cell? ⟨g, 0, none⟩ = some (.slice A n c) := hb.cell 0
  have hg := hb.lt
  unfold maxLen at h2
  cases hk : fL L a with
  | none =>
    have He : Hid (timesR (lsOf L) a = 0) := by show _ = _; unfold timesR; rw [ls_none hk]
    rw [iL_none hk] at hf
    clear hk hb ho
    go_enter Try.func28, Try.ntmps28
    go_wp2_with fail
    refine hf.mono ?_
    rintro e w2 ⟨rfl, rfl⟩
    go_wp2_with fail
    go_ret
    exact ⟨by rw [He.out]; rfl, rfl⟩
  | some k =>
    obtain ⟨x, hx, hxa, hls⟩ := ls_some hk
    rw [iL_some hk] at hf
    have hkn : k < n := by have := hn.out; have := (List.getElem?_eq_some_iff.1 hx).1; omega
    obtain ⟨gb, cc, hv, _⟩ := ho.form (by omega)
    injection hv with e1 e2 e3
    subst e1 e3
    have q3 : w.cell? ⟨gb, k * 5 + 3, none⟩ = some (.int .i64 x.rc.times) := ho.cellN cellL_len hx (j := 3) rfl
    have hgl := World.block_lt_of_cell? w _ q3
    have He : Hid (timesR (lsOf L) a = x.rc.times) := by show _ = _; unfold timesR; rw [hls]
    clear hk hb ho hx hls hxa
    go_enter Try.func28, Try.ntmps28
    go_wp2_with fail
    refine hf.mono ?_
    rintro e w2 ⟨rfl, rfl⟩
    go_wp2_with fail
    go_ret
    exact ⟨by rw [He.out]; rfl, rfl⟩
end Go.Proofs.Ytbkjpeelabdkfaa
