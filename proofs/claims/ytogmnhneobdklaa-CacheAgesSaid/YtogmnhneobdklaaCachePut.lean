/-
  cache.Cache: Put, Known, Wanted.
-/
import Derived.Test.YtogmnhneobdklaaCache
import Derived.Test.YtogmnhneobdklaaCaW
import Derived.Test.YtogmnhneobdklaaCaS
import Derived.Test.YtogmnhneobdklaaIdentSort
import Derived.Test.YtogmnhneobdklaaRegionK
namespace Go.Proofs.Ytogmnhneobdklaa
open Go.RowKit
set_option linter.unusedVariables false
set_option linter.unusedSimpArgs false

def setRes (r : ByteArray → Option Res) (id : ByteArray) (x : Res) (a : ByteArray) : Option Res := if a = id then some x else r a
theorem resF_put (r : ByteArray → Option Res) (id : ByteArray) (x : Res) (a : ByteArray) : (if a = id then some (Value.agg #[.int .i64 x.1, .int .i64 x.2]) else resF r a) = resF (setRes r id x) a := by
  unfold resF setRes
  by_cases h : a = id <;> simp [h]
def outRes (r : ByteArray → Option Res) (id : ByteArray) (a : ByteArray) : Option Res := if a = id then none else r a
theorem resF_out (r : ByteArray → Option Res) (id : ByteArray) (a : ByteArray) : (if a = id then none else resF r a) = resF (outRes r id) a := by
  unfold resF outRes
  by_cases h : a = id <;> simp [h]
/-- How many there are when one is put out. -/
def cntD (b : Bool) (n : Nat) : Nat := if b then n - 1 else n
/-- What Put of a new name does to those that wait. -/
def ToldPost (w : World) (FS : Nat → Prop) (mw n q : Nat) (f : ByteArray → Option Nat) (D : ByteArray → ByteArray → Bool) (id : ByteArray) (e : Ending) (w2 : World) : Prop :=
  ∃ A L c, e = .returned (.slice A L.length c) ∧ RisesS L ∧ (∀ x, x ∈ L ↔ D id x = true) ∧ L.length ≤ q ∧ OwnR rkI w2 w.heap.size (.slice A L.length c) L.length (sv L) ∧
    Sets idKey idKey w2 FS mw (if (f id).isSome then n - 1 else n) (fun a => if a = id then none else f a) (fun a y => !decide (a = id) && D a y) q
/-- What it does to the cache. -/
def PutPost (w : World) (F FS : Nat → Prop) (g mw n q : Nat) (f : ByteArray → Option Nat) (D : ByteArray → ByteArray → Bool) (id : ByteArray) (s2 : CaS) (e : Ending) (w2 : World) : Prop :=
  ToldPost w FS mw n q f D id e w2 ∧ ∃ F2, Ca w2 F2 g mw s2 ∧ (∀ b, F2 b → F b ∨ w.heap.size ≤ b) ∧ Chg (fun b => F b ∨ FS b) w w2

set_option maxRecDepth 100000 in
set_option maxHeartbeats 4000000 in
theorem putRoom_any (w : World) (F FS : Nat → Prop) (g mw n q : Nat) (s : CaS) (f : ByteArray → Option Nat) (D : ByteArray → ByteArray → Bool) (id : ByteArray) (x y : Int) (hroom : ((s.nr + 1 : Nat) : Int) ≤ s.size) (h : Ca w F g mw s) (hS : Sets idKey idKey w FS mw n f D q) (hFF : ∀ b, F b → ¬ FS b) (hv : vid id = true) (hr : s.res id = none) (hR : s.R.length ≤ 1000000) (hnr : s.nr ≤ 1000000) (hq : q ≤ 1000000) :
    Calls Try.prog 8 #[.pointer (some ⟨g, 0, none⟩), .string id, .agg #[.int .i64 x, .int .i64 y]] w (PutPost w F FS g mw n q f D id { s with R := useR s.R id, res := setRes s.res id (x, y), nr := s.nr + 1 }) := by
  have hid : id.size ≤ maxLen := by have := vid_small hv; unfold maxLen; omega
  obtain ⟨⟨A, c, mr, hb, ho, hm, h1, h2, h4⟩, h5⟩ := h
  have Hv := Lib.hid hv
  have hgl := hb.lt
  have hgw : ¬ FS g := hFF g h1
  have hC1 : Chg Non w (w.alloc (.cells #[.int .i64 x, .int .i64 y] 31)) := (Chg.refl _ _).alloc _
  have c2 := (hb.non hC1).cell 2
  simp only [List.getElem?_toArray, List.getElem?_cons_zero, List.getElem?_cons_succ] at c2
  have q1 := (hm.non hC1).look_okS Try.underlying39 (z := .agg #[.int .i64 0, .int .i64 0]) (by kernel_rfl) hid (u := none) (by unfold resF; rw [hr]; rfl)
  simp only [Option.getD_none, Option.isSome_none] at q1
  obtain ⟨w1, hw1⟩ : ∃ w1, (w.alloc (.cells #[.int .i64 x, .int .i64 y] 31)).alloc (.cells #[.int .i64 0, .int .i64 0] 31) = w1 := ⟨_, rfl⟩
  have hc1 : Chg Non w w1 := hw1 ▸ hC1.alloc _
  have hbox : Blk w1 w.heap.size 31 #[.int .i64 x, .int .i64 y] := hw1 ▸ (Blk.new w 31 #[.int .i64 x, .int .i64 y]).alloc _
  have hb1 := hb.non hc1
  have hm1 := hm.non hc1
  have ho1 := ho.non hc1
  have hs1 : w.heap.size < w1.heap.size := hbox.lt
  have k2 : ∀ wx, Chg Non w1 wx → wx.cell? ⟨g, 2, none⟩ = some (.map (some mr)) := fun wx h => (hb1.non h).cell 2
  have kx0 : ∀ wx, Chg Non w1 wx → wx.cell? ⟨w.heap.size, 0, none⟩ = some (.int .i64 x) := fun wx h => (hbox.non h).cell 0
  have kx1 : ∀ wx, Chg Non w1 wx → wx.cell? ⟨w.heap.size, 1, none⟩ = some (.int .i64 y) := fun wx h => (hbox.non h).cell 1
  have hrn : (resF s.res id).isSome = false := by rw [resF_some, hr]; rfl
  have hmg : g ≠ mr := fun e => hm.apart hb e.symm
  have hmo : ∀ b, (Value.slice A s.R.length c).ownBlock = some b → b ≠ mr := fun b e e2 => ho.apartMap hm (by rw [e, e2])
  have HS := Lib.hid hS
  have hFSl : ∀ b, FS b → b < w.heap.size := hS.lt
  have hmwF : FS mw := hS.Fm
  have Hrn := Lib.hid hrn
  have Hhm := Lib.hid hmo
  have Hh4 := Lib.hid h4
  have Hh5 := Lib.hid h5
  have Hw1 := Lib.hid hw1
  have HFF := Lib.hid hFF
  have HB1 := Lib.hid hb1
  have HO1 := Lib.hid ho1
  have HM1 := Lib.hid hm1
  have Hc1 := Lib.hid hc1
  clear hr hb ho hm hv hrn hmo h4 h5 hS hw1 hFF hb1 ho1 hm1 hbox hc1 hC1
  go_enter Try.func8, Try.ntmps8
  go_wp2_with fail
  refine (valid_any id _).mono ?_
  rintro e w9 ⟨rfl, rfl⟩
  rw [Hv.out, Hw1.out]
  clear q1 c2
  go_wp2_with fail
  refine st_region_tail 8 6 Non [] [] (fun _ _ _ _ => True) (fun _ _ _ _ => True) (fun _ _ _ => True) (fun _ => True) (by kernel_rfl) (by kernel_rfl) (by kernel_rfl) (fun _ h => h.elim) trivial (fun _ _ _ => trivial) ?_
  repeat (first | (refine st_pass (by rfl) ?_; simp only [Act.put, List.setIfInBounds_toArray, List.set_cons_succ, List.set_cons_zero]) | (refine st_plain (Non) (w1) rfl rfl (f := ?_) (by rfl) rfl rfl (fun w hC hG => ?_) ?_; rotate_left; (clear hG; first | (go_simp; done) | (go_simp; with_reducible rfl) | (simp [*, go_sem, ↓IntWalk.iteOmega]; done) | (simp [*, go_sem, ↓IntWalk.iteOmega]; with_reducible rfl)); simp only [Act.put, List.setIfInBounds_toArray, List.set_cons_succ, List.set_cons_zero]))
  refine st_tail Non w1 rfl rfl rfl (fun w5 hC5 _ _ => ?_)
  simp only [List.drop_succ_cons, List.drop_zero]
  refine wp_store_Mp (K := idKey) rfl (.tmp 28) (.tmp 29) (.tmp 30) 39 rfl (HM1.out.non hC5) Try.underlying39 (by unfold maxLen; omega) rfl (b := id) hid rfl (u := .agg #[.int .i64 x, .int .i64 y]) rfl ?_
  intro w6 hm6 hc6
  rw [Hrn.out] at hm6
  simp only [Act.put, List.setIfInBounds_toArray, List.set_cons_succ, List.set_cons_zero]
  have hb6 := (HB1.out.non hC5).chg hc6 (fun e => hmg e)
  have ho6 := (HO1.out.non hC5).chg hc6 (fun b e e2 => Hhm.out b e e2)
  simp only [Bool.false_eq_true, if_false] at hm6
  have hm6 := hm6.congr (resF_put s.res id (x, y))
  have hC6 : Chg F w w6 := (Hc1.out.non hC5).of_non.trans2 hc6 (fun b e => .inl (by rw [show b = mr from e]; exact h2))
  have hUse := use_any w6 g A c s.R _ _ _ id hb6 ho6 hR
  have hs6 := hC6.size
  clear hc6 hC5 k2 kx0 kx1 hb6 ho6 HB1 HO1 HM1
  have HM6 := Lib.hid hm6
  clear hm6
  go_wp2_with fail
  refine hUse.mono ?_
  rintro e w7 ⟨rfl, A7, c7, hb7, ho7, how7, hc7⟩
  have hm7 := HM6.out.chg hc7 (fun e => by rcases e with e | e; (exact hmg e.symm); (exact Hhm.out _ e rfl))
  have hC7 : Chg F w w7 := hC6.trans2 hc7 (fun b e => .inl (by rcases e with e | e; (rw [e]; exact h1); (exact Hh4.out b e)))
  have how7 : ∀ b, (Value.slice A7 (useR s.R id).length c7).ownBlock = some b → F b ∨ w.heap.size ≤ b := fun b e => (how7 b e).imp (fun e => Hh4.out b e) (fun e => by omega)
  have hmo7 : ∀ b, (Value.slice A7 (useR s.R id).length c7).ownBlock = some b → b ≠ mr := fun b e e2 => ho7.apartMap hm7 (by rw [e, e2])
  have d1 := hb7.cell 1
  have d2 := hb7.cell 2
  simp only [List.getElem?_toArray, List.getElem?_cons_zero, List.getElem?_cons_succ] at d1 d2
  have hlen : ∀ (nq : Nat) (ty : TypeId), (Builtin.len_ #[39] ty #[.map (some mr)]).run Try.prog (w7.drewN nq) = .ok (.int .i64 (s.nr + 1 : Nat)) (w7.drewN nq) := fun nq ty => (hm7.drewN nq).len Try.underlying39 ty
  have hg7 := hb7.lt
  clear hUse hc7 HM6
  have hN : ¬ ((s.nr + 1 : Nat) : Int) > s.size := by omega
  generalize hNN : s.nr + 1 = N at hN hlen hm7
  have HNN := Lib.hid hNN
  have Hb7 := Lib.hid hb7
  have Ho7 := Lib.hid ho7
  have Hm7 := Lib.hid hm7
  have How7 := Lib.hid how7
  clear hb7 ho7 hm7 how7 hmo7 hNN hroom
  go_wp2_with fail
  go_quiet (fail)
  clear hlen d1 d2
  obtain ⟨wD, hw8⟩ : ∃ w8, w7.drewN nq = w8 := ⟨_, rfl⟩
  rw [hw8]
  have hc78 : Chg Non w7 wD := hw8 ▸ (Chg.refl Non w7).drewN nq
  have hbD := Hb7.out.non hc78
  have hoD := Ho7.out.non hc78
  have hmD := Hm7.out.non hc78
  have hCD := hC7.non hc78
  have hsD : w.heap.size ≤ wD.heap.size := hCD.size
  rw [← HNN.out] at hmD
  have hCaD : ∃ F2, Ca wD F2 g mw { s with R := useR s.R id, res := setRes s.res id (x, y), nr := s.nr + 1 } ∧ (∀ b, F2 b → F b ∨ w.heap.size ≤ b) := by
    refine ⟨fun b => F b ∨ (Value.slice A7 (useR s.R id).length c7).ownBlock = some b, ⟨⟨A7, c7, mr, hbD, hoD, hmD, .inl h1, .inl h2, fun b e => .inr e⟩, fun b hb => ?_⟩, fun b hb => hb.elim .inl (fun e => How7.out b e)⟩
    rcases hb with hb | hb
    · have := Hh5.out b hb; omega
    · exact hoD.lt hb
  have HCa := Lib.hid hCaD
  have c3 : wD.cell? ⟨g, 3, none⟩ = some (.map (some mw)) := hbD.cell 3
  have hgD := hbD.lt
  clear hw8 hc78 Hb7 Ho7 Hm7 hC7 hbD hoD hmD hCaD
  have hSD := HS.out.chg hCD (fun b hb e => HFF.out b e hb)
  cases hf : f id with
  | some b0 =>
    have q2 := hSD.map.lookS Try.underlying40 (z := .map none) (by kernel_rfl) hid (u := some (.map (some b0))) (by unfold toM; rw [hf]; rfl)
    simp only [Option.getD_some] at q2
    obtain ⟨hFb, hbm, cc, hcc, hMb⟩ := hSD.inn id b0 hf
    have HSD := Lib.hid hSD
    have HMb := Lib.hid hMb
    have Hf := Lib.hid hf
    clear hSD hMb hf
    go_wp2_with fail
    refine (caSKeys wD (some b0)).mono ?_
    rintro e wK ⟨rfl, rfl⟩
    go_wp2_with fail
    refine (caSSorted wD b0 cc _ HMb.out (by omega)).mono ?_
    rintro e wS ⟨v, k, L, rfl, rfl, hL, hrs, hmem, hz, hown, hCS⟩
    have hSS := HSD.out.non hCS
    obtain ⟨A9, c9, rfl, _⟩ := hown.open_
    have c3S : wS.cell? ⟨g, 3, none⟩ = some (.map (some mw)) := hCS.cell c3 _root_.id
    have hgS : g < wS.heap.size := by have := hCS.size; omega
    have HL := Lib.hid hL
    have HM := Lib.hid hmem
    have HZ := Lib.hid hz
    clear c3 q2 hL hmem hz
    go_wp2_with (at_delete; refine wp_delete_Mp (K := idKey) rfl (.tmp 65) (.tmp 66) 40 rfl hSS.map Try.underlying40 rfl (b := id) hid rfl ?_; intro wE hmE hcE)
    go_ret
    have hmwl : mw < w.heap.size := hFSl mw hmwF
    have hCE : Chg (fun b => F b ∨ FS b) w wE := ((hCD.mono (fun b e => .inl e)).non hCS).trans2 hcE (fun b e => .inl (.inr (by rw [show b = mw from e]; exact hmwF)))
    have hn6 := hSS.drop hmE hcE
    rw [toM_some] at hn6
    obtain ⟨F2, hCa, hF2⟩ := HCa.out
    have hkl := HL.out
    refine ⟨⟨A9, L, c9, by rw [← HL.out]; rfl, hrs, fun z => by rw [HM.out, inF_some], by omega, ?_, hn6⟩, F2, (hCa.non hCS).chg hcE (fun b hb e => (hF2 b hb).elim (fun h => HFF.out b h (by rw [show b = mw from e]; exact hmwF)) (fun h => by have e : b = mw := e; omega)), hF2, hCE⟩
    rw [← HL.out]
    exact (hown.mono hsD).chg hcE (fun b hb e => by have h9 := (hown.lt hb).1; have e : b = mw := e; omega)
  | none =>
    have q2 := hSD.map.lookS Try.underlying40 (z := .map none) (by kernel_rfl) hid (u := none) (by unfold toM; rw [hf]; rfl)
    simp only [Option.getD_none] at q2
    have hDn := Lib.hid (hSD.no id hf)
    have HSD := Lib.hid hSD
    have Hf := Lib.hid hf
    clear hSD hf
    go_wp2_with fail
    refine (caSKeys wD none).mono ?_
    rintro e wK ⟨rfl, rfl⟩
    go_wp2_with fail
    refine (caSSortedNil wD).mono ?_
    rintro e wS ⟨rfl, hCS⟩
    have hSS := HSD.out.non hCS
    have c3S : wS.cell? ⟨g, 3, none⟩ = some (.map (some mw)) := hCS.cell c3 _root_.id
    have hgS : g < wS.heap.size := by have := hCS.size; omega
    clear c3 q2
    go_wp2_with (at_delete; refine wp_delete_Mp (K := idKey) rfl (.tmp 65) (.tmp 66) 40 rfl hSS.map Try.underlying40 rfl (b := id) hid rfl ?_; intro wE hmE hcE)
    go_ret
    have hmwl : mw < w.heap.size := hFSl mw hmwF
    have hCE : Chg (fun b => F b ∨ FS b) w wE := ((hCD.mono (fun b e => .inl e)).non hCS).trans2 hcE (fun b e => .inl (.inr (by rw [show b = mw from e]; exact hmwF)))
    have hn6 := hSS.drop hmE hcE
    rw [toM_some] at hn6
    obtain ⟨F2, hCa, hF2⟩ := HCa.out
    exact ⟨⟨none, [], 0, rfl, List.Pairwise.nil, fun z => by rw [hDn.out z]; simp, Nat.zero_le _, OwnR.nil _ _ _, hn6⟩, F2, (hCa.non hCS).chg hcE (fun b hb e => (hF2 b hb).elim (fun h => HFF.out b h (by rw [show b = mw from e]; exact hmwF)) (fun h => by have e : b = mw := e; omega)), hF2, hCE⟩

set_option maxRecDepth 100000 in
set_option maxHeartbeats 4000000 in
theorem putFull_any (w : World) (F FS : Nat → Prop) (g mw n q : Nat) (s : CaS) (f : ByteArray → Option Nat) (D : ByteArray → ByteArray → Bool) (id : ByteArray) (x y : Int) (x0 : ByteArray) (R2 : List ByteArray) (hR2 : useR s.R id = x0 :: R2) (hx0 : x0.size ≤ maxLen) (hfull : s.size < (s.nr + 1 : Nat)) (h : Ca w F g mw s) (hS : Sets idKey idKey w FS mw n f D q) (hFF : ∀ b, F b → ¬ FS b) (hv : vid id = true) (hr : s.res id = none) (hR : s.R.length ≤ 1000000) (hnr : s.nr ≤ 1000000) (hq : q ≤ 1000000) :
    Calls Try.prog 8 #[.pointer (some ⟨g, 0, none⟩), .string id, .agg #[.int .i64 x, .int .i64 y]] w (PutPost w F FS g mw n q f D id { s with R := R2, res := outRes (setRes s.res id (x, y)) x0, nr := cntD (setRes s.res id (x, y) x0).isSome (s.nr + 1) }) := by
  have hid : id.size ≤ maxLen := by have := vid_small hv; unfold maxLen; omega
  obtain ⟨⟨A, c, mr, hb, ho, hm, h1, h2, h4⟩, h5⟩ := h
  have Hv := Lib.hid hv
  have hgl := hb.lt
  have hgw : ¬ FS g := hFF g h1
  have hC1 : Chg Non w (w.alloc (.cells #[.int .i64 x, .int .i64 y] 31)) := (Chg.refl _ _).alloc _
  have c2 := (hb.non hC1).cell 2
  simp only [List.getElem?_toArray, List.getElem?_cons_zero, List.getElem?_cons_succ] at c2
  have q1 := (hm.non hC1).look_okS Try.underlying39 (z := .agg #[.int .i64 0, .int .i64 0]) (by kernel_rfl) hid (u := none) (by unfold resF; rw [hr]; rfl)
  simp only [Option.getD_none, Option.isSome_none] at q1
  obtain ⟨w1, hw1⟩ : ∃ w1, (w.alloc (.cells #[.int .i64 x, .int .i64 y] 31)).alloc (.cells #[.int .i64 0, .int .i64 0] 31) = w1 := ⟨_, rfl⟩
  have hc1 : Chg Non w w1 := hw1 ▸ hC1.alloc _
  have hbox : Blk w1 w.heap.size 31 #[.int .i64 x, .int .i64 y] := hw1 ▸ (Blk.new w 31 #[.int .i64 x, .int .i64 y]).alloc _
  have hb1 := hb.non hc1
  have hm1 := hm.non hc1
  have ho1 := ho.non hc1
  have hs1 : w.heap.size < w1.heap.size := hbox.lt
  have k2 : ∀ wx, Chg Non w1 wx → wx.cell? ⟨g, 2, none⟩ = some (.map (some mr)) := fun wx h => (hb1.non h).cell 2
  have kx0 : ∀ wx, Chg Non w1 wx → wx.cell? ⟨w.heap.size, 0, none⟩ = some (.int .i64 x) := fun wx h => (hbox.non h).cell 0
  have kx1 : ∀ wx, Chg Non w1 wx → wx.cell? ⟨w.heap.size, 1, none⟩ = some (.int .i64 y) := fun wx h => (hbox.non h).cell 1
  have hrn : (resF s.res id).isSome = false := by rw [resF_some, hr]; rfl
  have hmg : g ≠ mr := fun e => hm.apart hb e.symm
  have hmo : ∀ b, (Value.slice A s.R.length c).ownBlock = some b → b ≠ mr := fun b e e2 => ho.apartMap hm (by rw [e, e2])
  have HS := Lib.hid hS
  have hFSl : ∀ b, FS b → b < w.heap.size := hS.lt
  have hmwF : FS mw := hS.Fm
  have Hrn := Lib.hid hrn
  have Hhm := Lib.hid hmo
  have Hh4 := Lib.hid h4
  have Hh5 := Lib.hid h5
  have Hw1 := Lib.hid hw1
  have HFF := Lib.hid hFF
  have HB1 := Lib.hid hb1
  have HO1 := Lib.hid ho1
  have HM1 := Lib.hid hm1
  have Hc1 := Lib.hid hc1
  clear hr hb ho hm hv hrn hmo h4 h5 hS hw1 hFF hb1 ho1 hm1 hbox hc1 hC1
  go_enter Try.func8, Try.ntmps8
  go_wp2_with fail
  refine (valid_any id _).mono ?_
  rintro e w9 ⟨rfl, rfl⟩
  rw [Hv.out, Hw1.out]
  clear q1 c2
  go_wp2_with fail
  refine st_region_tail 8 6 Non [] [] (fun _ _ _ _ => True) (fun _ _ _ _ => True) (fun _ _ _ => True) (fun _ => True) (by kernel_rfl) (by kernel_rfl) (by kernel_rfl) (fun _ h => h.elim) trivial (fun _ _ _ => trivial) ?_
  repeat (first | (refine st_pass (by rfl) ?_; simp only [Act.put, List.setIfInBounds_toArray, List.set_cons_succ, List.set_cons_zero]) | (refine st_plain (Non) (w1) rfl rfl (f := ?_) (by rfl) rfl rfl (fun w hC hG => ?_) ?_; rotate_left; (clear hG; first | (go_simp; done) | (go_simp; with_reducible rfl) | (simp [*, go_sem, ↓IntWalk.iteOmega]; done) | (simp [*, go_sem, ↓IntWalk.iteOmega]; with_reducible rfl)); simp only [Act.put, List.setIfInBounds_toArray, List.set_cons_succ, List.set_cons_zero]))
  refine st_tail Non w1 rfl rfl rfl (fun w5 hC5 _ _ => ?_)
  simp only [List.drop_succ_cons, List.drop_zero]
  refine wp_store_Mp (K := idKey) rfl (.tmp 28) (.tmp 29) (.tmp 30) 39 rfl (HM1.out.non hC5) Try.underlying39 (by unfold maxLen; omega) rfl (b := id) hid rfl (u := .agg #[.int .i64 x, .int .i64 y]) rfl ?_
  intro w6 hm6 hc6
  rw [Hrn.out] at hm6
  simp only [Act.put, List.setIfInBounds_toArray, List.set_cons_succ, List.set_cons_zero]
  have hb6 := (HB1.out.non hC5).chg hc6 (fun e => hmg e)
  have ho6 := (HO1.out.non hC5).chg hc6 (fun b e e2 => Hhm.out b e e2)
  simp only [Bool.false_eq_true, if_false] at hm6
  have hm6 := hm6.congr (resF_put s.res id (x, y))
  have hC6 : Chg F w w6 := (Hc1.out.non hC5).of_non.trans2 hc6 (fun b e => .inl (by rw [show b = mr from e]; exact h2))
  have hUse := use_any w6 g A c s.R _ _ _ id hb6 ho6 hR
  have hs6 := hC6.size
  clear hc6 hC5 k2 kx0 kx1 hb6 ho6 HB1 HO1 HM1
  have HM6 := Lib.hid hm6
  clear hm6
  go_wp2_with fail
  refine hUse.mono ?_
  rintro e w7 ⟨rfl, A7, c7, hb7, ho7, how7, hc7⟩
  have hm7 := HM6.out.chg hc7 (fun e => by rcases e with e | e; (exact hmg e.symm); (exact Hhm.out _ e rfl))
  have hC7 : Chg F w w7 := hC6.trans2 hc7 (fun b e => .inl (by rcases e with e | e; (rw [e]; exact h1); (exact Hh4.out b e)))
  have how7 : ∀ b, (Value.slice A7 (useR s.R id).length c7).ownBlock = some b → F b ∨ w.heap.size ≤ b := fun b e => (how7 b e).imp (fun e => Hh4.out b e) (fun e => by omega)
  have hmo7 : ∀ b, (Value.slice A7 (useR s.R id).length c7).ownBlock = some b → b ≠ mr := fun b e e2 => ho7.apartMap hm7 (by rw [e, e2])
  have d1 := hb7.cell 1
  have d2 := hb7.cell 2
  simp only [List.getElem?_toArray, List.getElem?_cons_zero, List.getElem?_cons_succ] at d1 d2
  have hlen : ∀ (nq : Nat) (ty : TypeId), (Builtin.len_ #[39] ty #[.map (some mr)]).run Try.prog (w7.drewN nq) = .ok (.int .i64 (s.nr + 1 : Nat)) (w7.drewN nq) := fun nq ty => (hm7.drewN nq).len Try.underlying39 ty
  have hg7 := hb7.lt
  clear hUse hc7 HM6
  have HX0 := Lib.hid hx0
  have hN : ((s.nr + 1 : Nat) : Int) > s.size := hfull
  generalize hNN : s.nr + 1 = N at hN hlen hm7
  have HNN := Lib.hid hNN
  rw [hR2] at hb7 ho7 how7 hmo7
  simp only [List.length_cons] at hb7 ho7 how7 hmo7
  have Hb7 := Lib.hid hb7
  have Ho7 := Lib.hid ho7
  have Hm7 := Lib.hid hm7
  have How7 := Lib.hid how7
  have Hmo7 := Lib.hid hmo7
  clear hb7 ho7 hm7 how7 hmo7 hNN hfull
  go_wp2_with fail
  go_quiet (fail)
  clear hlen d1 d2
  obtain ⟨w8, hw8⟩ : ∃ w8, w7.drewN nq = w8 := ⟨_, rfl⟩
  rw [hw8]
  have hc78 : Chg Non w7 w8 := hw8 ▸ (Chg.refl Non w7).drewN nq
  have hb8 := Hb7.out.non hc78
  have ho8 := Ho7.out.non hc78
  have hm8 := Hm7.out.non hc78
  have hC8 := hC7.non hc78
  clear hw8 hc78 Hb7 Ho7 Hm7 hC7
  have hol8 : ∀ b, (b = g ∨ (Value.slice A7 (R2.length + 1) c7).ownBlock = some b) → b < w8.heap.size := fun b e => e.elim (fun e => by rw [e]; exact hb8.lt) (fun e => ho8.lt e)
  have kk2 : ∀ wx, CK (fun b => b = g ∨ (Value.slice A7 (R2.length + 1) c7).ownBlock = some b) (fun a => a = ⟨g, 2, none⟩) w8 wx → wx.cell? ⟨g, 2, none⟩ = some (.map (some mr)) := fun wx h => h.2 _ _ rfl (hb8.cell 2)
  have Hm8 := Lib.hid hm8
  have hob : ∀ b, (Value.slice A7 (R2.length + 1) c7).ownBlock = some b → (Value.slice A7 R2.length c7).ownBlock = some b := fun b e => by cases A7 <;> exact e
  have hbo : ∀ b, (Value.slice A7 R2.length c7).ownBlock = some b → (Value.slice A7 (R2.length + 1) c7).ownBlock = some b := fun b e => by cases A7 <;> exact e
  have Hbo := Lib.hid hbo
  clear hm8 hob hbo
  go_wp2_with fail
  refine st_region_tailK 12 8 (fun b => b = g ∨ (Value.slice A7 (R2.length + 1) c7).ownBlock = some b) (fun a => a = ⟨g, 2, none⟩) [7] [] (fun _ _ _ wx => Blk wx g 42 #[.slice A7 R2.length c7, .int .i64 s.size, .map (some mr), .map (some mw)] ∧ Win rkI wx (.slice A7 R2.length c7) R2.length (sv R2)) (fun _ _ _ _ => True) (fun _ _ v => v = .string x0) (fun wx => Blk wx g 42 #[.slice A7 (R2.length + 1) c7, .int .i64 s.size, .map (some mr), .map (some mw)] ∧ Win rkI wx (.slice A7 (R2.length + 1) c7) (R2.length + 1) (sv (x0 :: R2))) (by kernel_rfl) (by kernel_rfl) (by kernel_rfl) hol8 ⟨hb8, ho8⟩ (fun _ _ h => ⟨h.1.alloc _, h.2.non ((Chg.refl _ _).alloc _)⟩) ?_
  repeat (first | (refine st_passK (by rfl) ?_; simp only [Act.put, List.setIfInBounds_toArray, List.set_cons_succ, List.set_cons_zero]) | (refine st_plainK (fun b => b = g ∨ (Value.slice A7 (R2.length + 1) c7).ownBlock = some b) (fun a => a = ⟨g, 2, none⟩) (w8) rfl rfl rfl (f := ?_) (by rfl) rfl rfl (fun w hC hG => ?_) ?_; rotate_left; (clear hG; first | (go_simp; done) | (go_simp; with_reducible rfl) | (simp [*, go_sem, ↓IntWalk.iteOmega]; done) | (simp [*, go_sem, ↓IntWalk.iteOmega]; with_reducible rfl)); simp only [Act.put, List.setIfInBounds_toArray, List.set_cons_succ, List.set_cons_zero]))
  refine st_majorK (fun b => b = g ∨ (Value.slice A7 (R2.length + 1) c7).ownBlock = some b) (fun a => a = ⟨g, 2, none⟩) (w8) rfl rfl rfl (by rfl) rfl (⟨_, rfl⟩) (fun _ _ _ _ _ _ => trivial) (fun v w ob h => ⟨h.1.alloc _, h.2.non ((Chg.refl _ _).alloc _)⟩) (fun w hC hG hS => ?_) ?_
  · clear hG
    refine settle_of (r2 := .ok (.enter 17 #[.pointer (some ⟨g, 0, none⟩)]) w) ?_ (settle_enter ((oldest_any w g A7 c7 x0 R2 _ _ _ hS.1 hS.2).mono ?_))
    · first | (go_simp; done) | (go_simp; rfl)
    · rintro e w9 ⟨rfl, h1, h2, h3⟩
      exact ⟨_, rfl, rfl, ⟨h3, fun a v hn hc => by obtain rfl : a = _ := hn; rw [hS.1.cell 2] at hc; rw [h1.cell 2]; exact hc⟩, ⟨h1, h2⟩, trivial⟩
  rintro v hv
  obtain rfl : v = .string x0 := hv
  simp only [Act.put, List.setIfInBounds_toArray, List.set_cons_succ, List.set_cons_zero]
  repeat (first | (refine st_passK (by rfl) ?_; simp only [Act.put, List.setIfInBounds_toArray, List.set_cons_succ, List.set_cons_zero]) | (refine st_plainK (fun b => b = g ∨ (Value.slice A7 (R2.length + 1) c7).ownBlock = some b) (fun a => a = ⟨g, 2, none⟩) (w8) rfl rfl rfl (f := ?_) (by rfl) rfl rfl (fun w hC hG => ?_) ?_; rotate_left; (clear hG; first | (go_simp; done) | (go_simp; with_reducible rfl) | (simp [*, go_sem, ↓IntWalk.iteOmega]; done) | (simp [*, go_sem, ↓IntWalk.iteOmega]; with_reducible rfl)); simp only [Act.put, List.setIfInBounds_toArray, List.set_cons_succ, List.set_cons_zero]))
  refine st_tailK (fun b => b = g ∨ (Value.slice A7 (R2.length + 1) c7).ownBlock = some b) (fun a => a = ⟨g, 2, none⟩) w8 rfl rfl rfl rfl (fun wB hCB hSB hGB => ?_)
  obtain ⟨hbB, hoB⟩ : Blk wB g 42 #[.slice A7 R2.length c7, .int .i64 s.size, .map (some mr), .map (some mw)] ∧ Win rkI wB (.slice A7 R2.length c7) R2.length (sv R2) := hSB
  have hmB := Hm8.out.chg hCB.1 (fun e => e.elim (fun e => hmg e.symm) (fun e => Hmo7.out _ e rfl))
  have hCBw : Chg F w wB := hC8.trans2 hCB.1 (fun b e => e.elim (fun e => .inl (by rw [e]; exact h1)) (fun e => How7.out b e))
  clear hGB kk2 hol8 hb8 ho8
  simp only [List.drop_succ_cons, List.drop_zero]
  refine wp_delete_Mp (K := idKey) rfl (.tmp 49) (.tmp 53) 39 rfl hmB Try.underlying39 rfl (b := x0) HX0.out rfl ?_
  intro wD hmD hcD
  simp only [Act.put, List.setIfInBounds_toArray, List.set_cons_succ, List.set_cons_zero]
  have hbD := hbB.chg hcD (fun e => hmg e)
  have hoD := hoB.chg hcD (fun b e e2 => Hmo7.out b (Hbo.out b e) e2)
  have hCD : Chg F w wD := hCBw.trans2 hcD (fun b e => .inl (by rw [show b = mr from e]; exact h2))
  have hmD := hmD.congr (resF_out _ x0)
  rw [resF_some, ← HNN.out] at hmD
  have hmD : Mp idKey wD mr (cntD (setRes s.res id (x, y) x0).isSome (s.nr + 1)) _ := hmD
  have hsD : w.heap.size ≤ wD.heap.size := hCD.size
  have hCaD : ∃ F2, Ca wD F2 g mw { s with R := R2, res := outRes (setRes s.res id (x, y)) x0, nr := cntD (setRes s.res id (x, y) x0).isSome (s.nr + 1) } ∧ (∀ b, F2 b → F b ∨ w.heap.size ≤ b) := by
    refine ⟨fun b => F b ∨ (Value.slice A7 R2.length c7).ownBlock = some b, ⟨⟨A7, c7, mr, hbD, hoD, hmD, .inl h1, .inl h2, fun b e => .inr e⟩, fun b hb => ?_⟩, fun b hb => hb.elim .inl (fun e => How7.out b (Hbo.out b e))⟩
    rcases hb with hb | hb
    · have := Hh5.out b hb; omega
    · exact hoD.lt hb
  have HCa := Lib.hid hCaD
  have c3 : wD.cell? ⟨g, 3, none⟩ = some (.map (some mw)) := hbD.cell 3
  have hgD := hbD.lt
  clear hbD hoD hmD hbB hoB hmB hCB hCBw hcD hC8 hCaD
  obtain ⟨w8, hw8⟩ : ∃ w9, wD = w9 := ⟨_, rfl⟩
  subst hw8
  have hSD := HS.out.chg hCD (fun b hb e => HFF.out b e hb)
  cases hf : f id with
  | some b0 =>
    have q2 := hSD.map.lookS Try.underlying40 (z := .map none) (by kernel_rfl) hid (u := some (.map (some b0))) (by unfold toM; rw [hf]; rfl)
    simp only [Option.getD_some] at q2
    obtain ⟨hFb, hbm, cc, hcc, hMb⟩ := hSD.inn id b0 hf
    have HSD := Lib.hid hSD
    have HMb := Lib.hid hMb
    have Hf := Lib.hid hf
    clear hSD hMb hf
    go_wp2_with fail
    refine (caSKeys wD (some b0)).mono ?_
    rintro e wK ⟨rfl, rfl⟩
    go_wp2_with fail
    refine (caSSorted wD b0 cc _ HMb.out (by omega)).mono ?_
    rintro e wS ⟨v, k, L, rfl, rfl, hL, hrs, hmem, hz, hown, hCS⟩
    have hSS := HSD.out.non hCS
    obtain ⟨A9, c9, rfl, _⟩ := hown.open_
    have c3S : wS.cell? ⟨g, 3, none⟩ = some (.map (some mw)) := hCS.cell c3 _root_.id
    have hgS : g < wS.heap.size := by have := hCS.size; omega
    have HL := Lib.hid hL
    have HM := Lib.hid hmem
    have HZ := Lib.hid hz
    clear c3 q2 hL hmem hz
    go_wp2_with (at_delete; refine wp_delete_Mp (K := idKey) rfl (.tmp 65) (.tmp 66) 40 rfl hSS.map Try.underlying40 rfl (b := id) hid rfl ?_; intro wE hmE hcE)
    go_ret
    have hmwl : mw < w.heap.size := hFSl mw hmwF
    have hCE : Chg (fun b => F b ∨ FS b) w wE := ((hCD.mono (fun b e => .inl e)).non hCS).trans2 hcE (fun b e => .inl (.inr (by rw [show b = mw from e]; exact hmwF)))
    have hn6 := hSS.drop hmE hcE
    rw [toM_some] at hn6
    obtain ⟨F2, hCa, hF2⟩ := HCa.out
    have hkl := HL.out
    refine ⟨⟨A9, L, c9, by rw [← HL.out]; rfl, hrs, fun z => by rw [HM.out, inF_some], by omega, ?_, hn6⟩, F2, (hCa.non hCS).chg hcE (fun b hb e => (hF2 b hb).elim (fun h => HFF.out b h (by rw [show b = mw from e]; exact hmwF)) (fun h => by have e : b = mw := e; omega)), hF2, hCE⟩
    rw [← HL.out]
    exact (hown.mono hsD).chg hcE (fun b hb e => by have h9 := (hown.lt hb).1; have e : b = mw := e; omega)
  | none =>
    have q2 := hSD.map.lookS Try.underlying40 (z := .map none) (by kernel_rfl) hid (u := none) (by unfold toM; rw [hf]; rfl)
    simp only [Option.getD_none] at q2
    have hDn := Lib.hid (hSD.no id hf)
    have HSD := Lib.hid hSD
    have Hf := Lib.hid hf
    clear hSD hf
    go_wp2_with fail
    refine (caSKeys wD none).mono ?_
    rintro e wK ⟨rfl, rfl⟩
    go_wp2_with fail
    refine (caSSortedNil wD).mono ?_
    rintro e wS ⟨rfl, hCS⟩
    have hSS := HSD.out.non hCS
    have c3S : wS.cell? ⟨g, 3, none⟩ = some (.map (some mw)) := hCS.cell c3 _root_.id
    have hgS : g < wS.heap.size := by have := hCS.size; omega
    clear c3 q2
    go_wp2_with (at_delete; refine wp_delete_Mp (K := idKey) rfl (.tmp 65) (.tmp 66) 40 rfl hSS.map Try.underlying40 rfl (b := id) hid rfl ?_; intro wE hmE hcE)
    go_ret
    have hmwl : mw < w.heap.size := hFSl mw hmwF
    have hCE : Chg (fun b => F b ∨ FS b) w wE := ((hCD.mono (fun b e => .inl e)).non hCS).trans2 hcE (fun b e => .inl (.inr (by rw [show b = mw from e]; exact hmwF)))
    have hn6 := hSS.drop hmE hcE
    rw [toM_some] at hn6
    obtain ⟨F2, hCa, hF2⟩ := HCa.out
    exact ⟨⟨none, [], 0, rfl, List.Pairwise.nil, fun z => by rw [hDn.out z]; simp, Nat.zero_le _, OwnR.nil _ _ _, hn6⟩, F2, (hCa.non hCS).chg hcE (fun b hb e => (hF2 b hb).elim (fun h => HFF.out b h (by rw [show b = mw from e]; exact hmwF)) (fun h => by have e : b = mw := e; omega)), hF2, hCE⟩

set_option maxRecDepth 100000 in
theorem cacheKnown_any (w : World) (F : Nat → Prop) (g mw : Nat) (s : CaS) (h : Ca w F g mw s) (hR : s.R.length ≤ 1000000) :
    Calls Try.prog 10 #[.pointer (some ⟨g, 0, none⟩)] w fun e w2 => ∃ A m c, e = .returned (.slice A m c) ∧ m = (risenS s.R).length ∧ OwnR rkI w2 w.heap.size (.slice A m c) m (sv (risenS s.R)) ∧ Chg Non w w2 := by
  obtain ⟨⟨A, c, mr, hb, ho, hm, h1, h2, h4⟩, h5⟩ := h
  have c0 := hb.cell 0
  simp only [List.getElem?_toArray, List.getElem?_cons_zero] at c0
  have hgl := hb.lt
  have hsrt := identSort_any w A s.R.length c s.R ho.rds (by omega)
  clear hb ho hm h4 h5
  go_enter Try.func10, Try.ntmps10
  go_wp2_with fail
  refine hsrt.mono ?_
  rintro e w9 ⟨v, m9, rfl, hm9, hO9, hc9⟩
  obtain ⟨A9, c9, rfl, _⟩ := hO9.open_
  have Hm9 := Lib.hid hm9
  clear hm9 hsrt
  go_wp2_with fail
  go_ret
  exact ⟨A9, m9, c9, rfl, Hm9.out, hO9, hc9⟩
set_option maxRecDepth 100000 in
theorem cacheWanted_any (w : World) (F FS : Nat → Prop) (g mw n q : Nat) (s : CaS) (f : ByteArray → Option Nat) (D : ByteArray → ByteArray → Bool) (h : Ca w F g mw s) (hS : Sets idKey idKey w FS mw n f D q) (hn : n ≤ 1000000) :
    Calls Try.prog 12 #[.pointer (some ⟨g, 0, none⟩)] w fun e w2 => ∃ A c, e = .returned (.slice A n c) ∧ Chg Non w w2 := by
  have c3 := h.g3
  have hgl := h.gF.2
  have hm := hS.map
  clear h hS
  have hk := caWKeys w (some mw)
  have hso := caWSorted w mw n _ hm (by omega)
  clear hm
  go_enter Try.func12, Try.ntmps12
  go_wp2_with fail
  refine hk.mono ?_
  rintro e w2 ⟨rfl, rfl⟩
  go_wp2_with fail
  refine hso.mono ?_
  rintro e w2 ⟨v, k, L, rfl, rfl, hL, hr, hm, hz, hown, hC⟩
  obtain ⟨A2, c2, rfl, _⟩ := hown.open_
  clear hL hr hm hz hk hso
  go_wp2_with fail
  go_ret
  exact ⟨_, _, rfl, hC⟩
end Go.Proofs.Ytogmnhneobdklaa
