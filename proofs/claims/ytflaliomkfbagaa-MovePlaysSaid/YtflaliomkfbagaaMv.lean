/-
  move.Giver: what it holds; NewGiver, Own, Has, the note of an offer, Offer, Again, In.
-/
import Derived.Test.YtflaliomkfbagaaNotePack
import Derived.Test.YtflaliomkfbagaaNmPlain
import Derived.Test.YtflaliomkfbagaaMvSetKeys
import Derived.Test.YtflaliomkfbagaaMvOffKeys
import Derived.Test.YtflaliomkfbagaaRegionF
namespace Go.Proofs.Ytflaliomkfbagaa
open Go.RowKit
set_option linter.unusedVariables false
set_option linter.unusedSimpArgs false

/-- An offer that stands. -/
structure Of where
  to : Int
  epoch : Int
  num : Int
def ofV (o : Of) : Value := .agg #[.int .i64 o.to, .int .i64 o.epoch, .int .i64 o.num]
def inB {β : Type} (p : β → Bool) (x : β) : Option Value := if p x then some (.bool true) else none
noncomputable abbrev nmKey : KeyKind Try.prog 33 ByteArray := strKey Try.underlying33
/-- A giver. -/
structure GvS where
  node : Int
  has : ByteArray → Bool
  off : ByteArray → Option Of
  num : Int
structure Gv (w : World) (F : Nat → Prop) (g sm om ns no : Nat) (s : GvS) : Prop where
  hb : Blk w g 48 #[.map (some sm), .int .i64 s.node, .map (some om), .int .i64 s.num]
  hs : Mp nmKey w sm ns (inB s.has)
  ho : Mp nmKey w om no (fun a => (s.off a).map ofV)
  ne : sm ≠ om
  Fg : F g
  Fs : F sm
  Fo : F om
  lt : ∀ b, F b → b < w.heap.size
theorem Gv.chg {w w2 : World} {F S : Nat → Prop} {g sm om ns no : Nat} {s : GvS} (h : Gv w F g sm om ns no s) (hc : Chg S w w2) (hS : ∀ b, F b → ¬ S b) : Gv w2 F g sm om ns no s :=
  ⟨h.hb.chg hc (hS _ h.Fg), h.hs.chg hc (hS _ h.Fs), h.ho.chg hc (hS _ h.Fo), h.ne, h.Fg, h.Fs, h.Fo, fun b hb => Nat.lt_of_lt_of_le (h.lt b hb) hc.size⟩
theorem Gv.non {w w2 : World} {F : Nat → Prop} {g sm om ns no : Nat} {s : GvS} (h : Gv w F g sm om ns no s) (hc : Chg Non w w2) : Gv w2 F g sm om ns no s := h.chg hc fun _ _ => id
theorem inB_set (p : ByteArray → Bool) (a : ByteArray) : (fun c => if c = a then some (.bool true) else inB p c) = inB (fun c => decide (c = a) || p c) := by
  funext c
  unfold inB
  by_cases h : c = a <;> simp [h]
theorem inB_del (p : ByteArray → Bool) (a : ByteArray) : (fun c => if c = a then none else inB p c) = inB (fun c => !decide (c = a) && p c) := by
  funext c
  unfold inB
  by_cases h : c = a <;> simp [h]
def setO (f : ByteArray → Option Of) (a : ByteArray) (o : Option Of) : ByteArray → Option Of := fun c => if c = a then o else f c
theorem of_set (f : ByteArray → Option Of) (a : ByteArray) (o : Of) : (fun c => if c = a then some (ofV o) else (f c).map ofV) = fun c => (setO f a (some o) c).map ofV := by
  funext c
  unfold setO
  by_cases h : c = a <;> simp [h]
theorem of_del (f : ByteArray → Option Of) (a : ByteArray) : (fun c => if c = a then none else (f c).map ofV) = fun c => (setO f a none c).map ofV := by
  funext c
  unfold setO
  by_cases h : c = a <;> simp [h]

theorem newGiver_any (w : World) (node : Int) : Calls Try.prog 9 #[.int .i64 node] w fun e w2 => ∃ g sm om F, e = .returned (.pointer (some ⟨g, 0, none⟩)) ∧ Gv w2 F g sm om 0 0 ⟨node, fun _ => false, fun _ => none, 0⟩ ∧ (∀ b, F b → w.heap.size ≤ b) ∧ Chg Non w w2 := by
  have hmm := @run_makeMap Try.prog
  go_enter Try.func9, Try.ntmps9
  go_wp2_with fail
  go_ret
  have hC := (((Chg.refl Non w).alloc (.map #[] 0)).alloc (.map #[] 0)).alloc (.cells #[.map (some w.heap.size), .int .i64 node, .map (some (w.heap.size + 1)), .int .i64 0] 48)
  have hm1 := Mp.made nmKey w
  have hm2 := Mp.made nmKey (w.alloc (.map #[] 0))
  rw [World.size_alloc] at hm2
  refine ⟨w.heap.size + 2, w.heap.size, w.heap.size + 1, fun b => b = w.heap.size ∨ b = w.heap.size + 1 ∨ b = w.heap.size + 2, rfl, ⟨?_, ((hm1.alloc _).alloc _).congr (fun a => rfl), (hm2.alloc _).congr (fun a => rfl), by omega, .inr (.inr rfl), .inl rfl, .inr (.inl rfl), fun b hb => ?_⟩, fun b hb => by omega, hC⟩
  · have := Blk.new ((w.alloc (.map #[] 0)).alloc (.map #[] 0)) 48 #[.map (some w.heap.size), .int .i64 node, .map (some (w.heap.size + 1)), .int .i64 0]
    simpa using this
  · simp
    omega

/-- The note of an offer. -/
def offN (o : Of) (a : ByteArray) : Nt := { Nt.zero with kind := 4, life := o.num, epoch := o.epoch, id := a }
def offV (o : Of) (a : ByteArray) : Value := .agg (NtC (offN o a) none 0 0 none 0 0)
def noneV : Value := .agg (NtC Nt.zero none 0 0 none 0 0)

set_option maxRecDepth 100000 in
set_option maxHeartbeats 2000000 in
theorem offNote_any (w : World) (o : Of) (a : ByteArray) : Calls Try.prog 39 #[.agg #[.int .i64 o.to, .int .i64 o.epoch, .int .i64 o.num], .string a] w fun e w2 => e = .returned (offV o a) ∧ Chg Non w w2 := by
  obtain ⟨w1, hw1⟩ : ∃ w1, (w.alloc (.cells #[.int .i64 o.to, .int .i64 o.epoch, .int .i64 o.num] 95)).alloc (.cells #[.int .i64 0, .int .i64 0, .int .i64 0, .int .i64 0, .string ⟨#[]⟩, .int .i64 0, .slice none 0 0, .int .i64 0, .int .i64 0, .int .i64 0, .slice none 0 0] 59) = w1 := ⟨_, rfl⟩
  have hc1 : Chg Non w w1 := hw1 ▸ ((Chg.refl _ _).alloc _).alloc _
  have hbO : Blk w1 w.heap.size 95 #[.int .i64 o.to, .int .i64 o.epoch, .int .i64 o.num] := hw1 ▸ (Blk.new w _ _).alloc _
  have hbR : Blk w1 (w.heap.size + 1) 59 #[.int .i64 0, .int .i64 0, .int .i64 0, .int .i64 0, .string ⟨#[]⟩, .int .i64 0, .slice none 0 0, .int .i64 0, .int .i64 0, .int .i64 0, .slice none 0 0] := by
    have := Blk.new (w.alloc (.cells #[.int .i64 o.to, .int .i64 o.epoch, .int .i64 o.num] 95)) 59 #[.int .i64 0, .int .i64 0, .int .i64 0, .int .i64 0, .string ⟨#[]⟩, .int .i64 0, .slice none 0 0, .int .i64 0, .int .i64 0, .int .i64 0, .slice none 0 0]
    rw [hw1, World.size_alloc] at this
    exact this
  have o1 := hbO.cell 1
  have o2 := hbO.cell 2
  simp only [List.getElem?_toArray, List.getElem?_cons_zero, List.getElem?_cons_succ] at o1 o2
  have ol := hbR.lt
  have d0 := hbR.cell 0
  have d1 := hbR.cell 1
  have d2 := hbR.cell 2
  have d3 := hbR.cell 3
  have d4 := hbR.cell 4
  have d5 := hbR.cell 5
  have d6 := hbR.cell 6
  have d7 := hbR.cell 7
  have d8 := hbR.cell 8
  have d9 := hbR.cell 9
  have d10 := hbR.cell 10
  simp only [List.getElem?_toArray, List.getElem?_cons_zero, List.getElem?_cons_succ] at d0 d1 d2 d3 d4 d5 d6 d7 d8 d9 d10
  have f0 := hbR.frozen 0
  have f1 := hbR.frozen 1
  have f2 := hbR.frozen 2
  have f3 := hbR.frozen 3
  have f4 := hbR.frozen 4
  have f5 := hbR.frozen 5
  have f6 := hbR.frozen 6
  have f7 := hbR.frozen 7
  have f8 := hbR.frozen 8
  have f9 := hbR.frozen 9
  have f10 := hbR.frozen 10
  have hb4 := (((((((((((hbR.put 0 (.int .i64 4)).put 1 (.int .i64 0)).put 2 (.int .i64 o.num)).put 3 (.int .i64 o.epoch)).put 4 (.string a)).put 5 (.int .i64 0)).put 6 (.slice none 0 0)).put 7 (.int .i64 0)).put 8 (.int .i64 0)).put 9 (.int .i64 0)).put 10 (.slice none 0 0))
  simp only [List.setIfInBounds_toArray, List.set_cons_succ, List.set_cons_zero] at hb4
  have r0 := hb4.cell 0
  have r1 := hb4.cell 1
  have r2 := hb4.cell 2
  have r3 := hb4.cell 3
  have r4 := hb4.cell 4
  have r5 := hb4.cell 5
  have r6 := hb4.cell 6
  have r7 := hb4.cell 7
  have r8 := hb4.cell 8
  have r9 := hb4.cell 9
  have r10 := hb4.cell 10
  simp only [List.getElem?_toArray, List.getElem?_cons_zero, List.getElem?_cons_succ] at r0 r1 r2 r3 r4 r5 r6 r7 r8 r9 r10
  have hC4 := (((((((((((hc1.setCell (p := ⟨w.heap.size + 1, 0, none⟩) (.inr (by show w.heap.size ≤ w.heap.size + 1; omega)) (.int .i64 4)).setCell (p := ⟨w.heap.size + 1, 1, none⟩) (.inr (by show w.heap.size ≤ w.heap.size + 1; omega)) (.int .i64 0)).setCell (p := ⟨w.heap.size + 1, 2, none⟩) (.inr (by show w.heap.size ≤ w.heap.size + 1; omega)) (.int .i64 o.num)).setCell (p := ⟨w.heap.size + 1, 3, none⟩) (.inr (by show w.heap.size ≤ w.heap.size + 1; omega)) (.int .i64 o.epoch)).setCell (p := ⟨w.heap.size + 1, 4, none⟩) (.inr (by show w.heap.size ≤ w.heap.size + 1; omega)) (.string a)).setCell (p := ⟨w.heap.size + 1, 5, none⟩) (.inr (by show w.heap.size ≤ w.heap.size + 1; omega)) (.int .i64 0)).setCell (p := ⟨w.heap.size + 1, 6, none⟩) (.inr (by show w.heap.size ≤ w.heap.size + 1; omega)) (.slice none 0 0)).setCell (p := ⟨w.heap.size + 1, 7, none⟩) (.inr (by show w.heap.size ≤ w.heap.size + 1; omega)) (.int .i64 0)).setCell (p := ⟨w.heap.size + 1, 8, none⟩) (.inr (by show w.heap.size ≤ w.heap.size + 1; omega)) (.int .i64 0)).setCell (p := ⟨w.heap.size + 1, 9, none⟩) (.inr (by show w.heap.size ≤ w.heap.size + 1; omega)) (.int .i64 0)).setCell (p := ⟨w.heap.size + 1, 10, none⟩) (.inr (by show w.heap.size ≤ w.heap.size + 1; omega)) (.slice none 0 0))
  clear hbO hbR hb4
  go_enter Try.func39, Try.ntmps39
  go_wp2_with fail
  exact bodyPost_ret (v := offV o a) (by simp [results, Try.results39, go_sem, offV, offN, NtC, Nt.zero, r0, r1, r2, r3, r4, r5, r6, r7, r8, r9, r10]) rfl ⟨rfl, hC4⟩
set_option maxRecDepth 100000 in
theorem setHas_any (w : World) (m n : Nat) (p : ByteArray → Bool) (h : Mp nmKey w m n (inB p)) (hn : n ≤ 1000000) :
    Calls Try.prog 14 #[.map (some m)] w fun e w2 => ∃ A c L, e = .returned (.slice A n c) ∧ RisesS L ∧ (∀ x, x ∈ L ↔ p x = true) ∧ n = L.length ∧ OwnR rkI w2 w.heap.size (.slice A n c) n (sv L) ∧ Chg Non w w2 := by
  have hK := setKeys w (some m)
  have hS := setSorted w m n _ h (by omega)
  go_enter Try.func14, Try.ntmps14
  go_wp2_with fail
  refine hK.mono ?_
  rintro e w2 ⟨rfl, rfl⟩
  go_wp2_with fail
  refine hS.mono ?_
  clear hK hS
  rintro e w3 ⟨v3, q, L, rfl, hq, hql, hrise, hmem, hsz, hown, hc3⟩
  obtain ⟨A, c, rfl, _⟩ := hown.open_
  subst hq
  have Hql := Lib.hid hql
  clear hql
  go_wp2_with fail
  go_ret
  refine ⟨A, c, L, rfl, hrise, fun x => ?_, Hql.out, hown, hc3⟩
  rw [hmem]
  unfold inB
  cases p x <;> simp

/-- What has been given to the giver. -/
def own1 (q : GvS × Int) (a : ByteArray) : GvS × Int := if vid a && (q.1.off a).isNone && !q.1.has a then ({ q.1 with has := fun c => decide (c = a) || q.1.has c }, q.2 + 1) else q
def ownN (s : GvS) (I : List ByteArray) : GvS × Int := I.foldl own1 (s, 0)
theorem own_step {I : List ByteArray} {k : Nat} {a : ByteArray} (h : I[k]? = some a) (s : GvS) : ownN s (I.take (k + 1)) = own1 (ownN s (I.take k)) a := by
  unfold ownN
  rw [List.take_add_one, h, List.foldl_append]
  rfl

set_option maxRecDepth 100000 in
set_option maxHeartbeats 4000000 in
theorem gvOwn_any (w : World) (F : Nat → Prop) (g sm om ns no : Nat) (s : GvS) (h : Gv w F g sm om ns no s) (A : Option Addr) (q c : Nat) (I : List ByteArray) (hr : Rds w 1 A q (sv I)) (hA : ∀ ad, A = some ad → 0 < q → ¬ F ad.block) (hq : q ≤ 1000000) (hn : ns ≤ 1000000) (hI : ∀ a ∈ I, a.size ≤ 1000000) :
    Calls Try.prog 10 #[.pointer (some ⟨g, 0, none⟩), .slice A q c] w fun e w2 => e = .returned (.int .i64 (ownN s I).2) ∧ ∃ ns2, ns2 ≤ ns + q ∧ Gv w2 F g sm om ns2 no (ownN s I).1 ∧ Chg F w w2 := by
  have Hll := Lib.hid (hr.lenMap (f := Value.string))
  have HI := Lib.hid hI
  have Hr := Lib.hid hr
  clear hr hI
  go_enter Try.func10, Try.ntmps10
  go_wp2_with fail
  go_loopw [5, 12] (fun p i wr => ∃ (k ns2 : Nat), k ≤ q ∧ i = .int .i64 k ∧ p = .int .i64 (ownN s (I.take k)).2 ∧ 0 ≤ (ownN s (I.take k)).2 ∧ (ownN s (I.take k)).2 ≤ k ∧ ns2 ≤ ns + k ∧ Gv wr F g sm om ns2 no (ownN s (I.take k)).1 ∧ Chg F w wr) (fun _ i _ => q - (intOf i).toNat)
  case atStart => exact ⟨0, ns, Nat.zero_le _, rfl, rfl, Int.le_refl _, Int.le_refl _, Nat.le_refl _, h, Chg.refl _ _⟩
  case round =>
    clear h
    obtain ⟨k, ns2, hk, rfl, rfl, hc0, hck, hns2, hG, hC⟩ := hrel
    by_cases hlt : k < q
    · obtain ⟨ad, a, rfl, ha, hca⟩ := Hr.out.getS hlt
      have a0 := hC.cell hca (by rw [block_add]; exact hA ad rfl (by omega))
      have al := World.block_lt_of_cell? wr _ a0
      have has := HI.out a (List.mem_of_getElem? ha)
      have hst := own_step ha s
      generalize hT : ownN s (I.take k) = T at hc0 hck hG hst ⊢
      clear ha hca hT
      obtain ⟨s2, cnt⟩ := T
      have hc0 : 0 ≤ cnt := hc0
      have hck : cnt ≤ (k : Int) := hck
      have hG : Gv wr F g sm om ns2 no s2 := hG
      have c0 : wr.cell? ⟨g, 0, none⟩ = some (.map (some sm)) := hG.hb.cell 0
      have c2 : wr.cell? ⟨g, 2, none⟩ = some (.map (some om)) := hG.hb.cell 2
      have gl := hG.hb.lt
      have hmx : a.size ≤ maxLen := by unfold maxLen; omega
      show _
      have hcase : ∃ t e n b, (s2.off a).map ofV = (if b then some (.agg #[.int .i64 t, .int .i64 e, .int .i64 n]) else none) ∧ ((s2.off a).map ofV).getD (.agg #[.int .i64 0, .int .i64 0, .int .i64 0]) = .agg #[.int .i64 t, .int .i64 e, .int .i64 n] ∧ (s2.off a).isNone = !b := by
        cases hf : s2.off a with
        | none => exact ⟨0, 0, 0, false, rfl, rfl, rfl⟩
        | some x => exact ⟨x.to, x.epoch, x.num, true, rfl, rfl, rfl⟩
      obtain ⟨t, e, n, b, hb1, hb2, hb3⟩ := hcase
      have q1 := hG.ho.look_okS Try.underlying46 (z := .agg #[.int .i64 0, .int .i64 0, .int .i64 0]) (by kernel_rfl) hmx rfl
      have hsm : ((s2.off a).map ofV).isSome = b := by rw [hb1]; cases b <;> rfl
      rw [hb2, hsm] at q1
      obtain ⟨wB, hwB⟩ : ∃ wB, wr.alloc (.cells #[.int .i64 t, .int .i64 e, .int .i64 n] 95) = wB := ⟨_, rfl⟩
      have hcB : Chg Non wr wB := hwB ▸ (Chg.refl _ _).alloc _
      have hGB := hG.non hcB
      have z0 : wB.cell? ⟨g, 0, none⟩ = some (.map (some sm)) := hGB.hb.cell 0
      have zl := hGB.hb.lt
      have hCB := hC.non hcB
      have q2 := hGB.hs.lookS Try.underlying45 (z := .bool false) (by kernel_rfl) hmx rfl
      have hb4 : (inB s2.has a).getD (.bool false) = .bool (s2.has a) := by unfold inB; cases s2.has a <;> rfl
      rw [hb4] at q2
      have hval := valid_any a wB
      unfold own1 at hst
      dsimp only at hst
      rw [hb3] at hst
      have HGB := Lib.hid hGB
      clear hb1 hb2 hb3 hsm hG hGB hC hb4
      have hcases : (vid a = false) ∨ (vid a = true ∧ b = true) ∨ (vid a = true ∧ b = false ∧ s2.has a = true) ∨ (vid a = true ∧ b = false ∧ s2.has a = false) := by
        cases vid a <;> cases b <;> cases s2.has a <;> simp
      rcases hcases with h1 | ⟨h1, h2⟩ | ⟨h1, h2, h3⟩ | ⟨h1, h2, h3⟩
      rotate_right
      · rw [h1] at hval hst
        subst h2
        rw [h3] at q2 hst
        have hst2 : Hid (ownN s (I.take (k + 1)) = ({ s2 with has := fun c => decide (c = a) || s2.has c }, cnt + 1)) := by show _ = _; rw [hst]; rfl
        have hwr : IntKind.i64.wrap (cnt + 1) = cnt + 1 := by rw [IntKind.wrap_i64]; omega
        have hnn : Hid (inB s2.has a = none) := by show _ = _; unfold inB; rw [h3]; rfl
        clear hst h1 h3
        go_wp2_with fail
        refine hval.mono ?_
        rintro e w9 ⟨rfl, rfl⟩
        clear hval
        go_wp2_with (at_mapUpdate; refine wp_store_Mp (K := nmKey) rfl (.tmp 43) (.tmp 44) (.const (.bool true)) 45 rfl HGB.out.hs Try.underlying45 (by unfold maxLen; omega) rfl (b := a) hmx rfl (u := .bool true) rfl ?_; intro w6 hm6 hc6)
        have hG6 : Gv w6 F g sm om (ns2 + 1) no { s2 with has := fun c => decide (c = a) || s2.has c } := by
          have hG := HGB.out
          rw [hnn.out] at hm6
          rw [inB_set] at hm6
          exact ⟨hG.hb.chg hc6 (fun e => by have e : g = sm := e; exact hG.hs.apart hG.hb e.symm), hm6, hG.ho.chg hc6 (fun e => hG.ne e.symm), hG.ne, hG.Fg, hG.Fs, hG.Fo, fun b hb => Nat.lt_of_lt_of_le (hG.lt b hb) hc6.size⟩
        have hC6 : Chg F w w6 := hCB.trans2 hc6 (fun b e => .inl (by have e : b = sm := e; rw [e]; exact HGB.out.Fs))
        go_roundw
        case rel => exact ⟨k + 1, ns2 + 1, by omega, by go_num, by rw [hst2.out], by rw [hst2.out]; show 0 ≤ cnt + 1; omega, by rw [hst2.out]; show cnt + 1 ≤ _; omega, by omega, by rw [hst2.out]; exact hG6, hC6⟩
        case measure => simp [intOf]; omega
      · rw [h1] at hval hst
        have hst2 : Hid (ownN s (I.take (k + 1)) = (s2, cnt)) := by show _ = _; rw [hst]; simp
        clear hst h1
        try clear h3
        go_wp2_with fail
        refine hval.mono ?_
        rintro e w9 ⟨rfl, rfl⟩
        clear hval
        go_wp2_with fail
        go_roundw
        case rel => exact ⟨k + 1, ns2, by omega, by go_num, by rw [hst2.out], by rw [hst2.out]; exact hc0, by rw [hst2.out]; show cnt ≤ _; omega, by omega, by rw [hst2.out]; exact HGB.out, hCB⟩
        case measure => simp [intOf]; omega
      · rw [h1] at hval hst
        subst h2
        have hst2 : Hid (ownN s (I.take (k + 1)) = (s2, cnt)) := by show _ = _; rw [hst]; rfl
        clear hst h1
        try clear h3
        go_wp2_with fail
        refine hval.mono ?_
        rintro e w9 ⟨rfl, rfl⟩
        clear hval
        go_wp2_with fail
        go_roundw
        case rel => exact ⟨k + 1, ns2, by omega, by go_num, by rw [hst2.out], by rw [hst2.out]; exact hc0, by rw [hst2.out]; show cnt ≤ _; omega, by omega, by rw [hst2.out]; exact HGB.out, hCB⟩
        case measure => simp [intOf]; omega
      · rw [h1] at hval hst
        subst h2
        rw [h3] at q2 hst
        have hst2 : Hid (ownN s (I.take (k + 1)) = (s2, cnt)) := by show _ = _; rw [hst]; rfl
        clear hst h1
        try clear h3
        go_wp2_with fail
        refine hval.mono ?_
        rintro e w9 ⟨rfl, rfl⟩
        clear hval
        go_wp2_with fail
        go_roundw
        case rel => exact ⟨k + 1, ns2, by omega, by go_num, by rw [hst2.out], by rw [hst2.out]; exact hc0, by rw [hst2.out]; show cnt ≤ _; omega, by omega, by rw [hst2.out]; exact HGB.out, hCB⟩
        case measure => simp [intOf]; omega
    · have hst : I.take k = I := List.take_of_length_le (by have := Hll.out; omega)
      rw [hst] at hG ⊢
      clear hst hc0 hck
      go_wp2_with fail
      go_ret
      exact ⟨rfl, ns2, by omega, hG, hC⟩
end Go.Proofs.Ytflaliomkfbagaa
