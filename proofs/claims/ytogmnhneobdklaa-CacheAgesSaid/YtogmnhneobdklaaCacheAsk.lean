/-
  cache.Cache: Ask.
-/
import Derived.Test.YtogmnhneobdklaaCache
namespace Go.Proofs.Ytogmnhneobdklaa
open Go.RowKit
set_option linter.unusedVariables false
set_option linter.unusedSimpArgs false

/-- What Ask of a known name does. -/
def KnownPost (w : World) (F : Nat → Prop) (g mw : Nat) (s : CaS) (id : ByteArray) (x y : Int) (e : Ending) (w2 : World) : Prop :=
  e = .returned (.tuple #[.agg #[.int .i64 x, .int .i64 y], .bool true, .bool false]) ∧ ∃ F2, Ca w2 F2 g mw { s with R := useR s.R id } ∧ (∀ b, F2 b → F b ∨ w.heap.size ≤ b) ∧ Chg F w w2

set_option maxRecDepth 100000 in
set_option maxHeartbeats 2000000 in
theorem askKnown_any (w : World) (F : Nat → Prop) (g mw : Nat) (s : CaS) (id who : ByteArray) (x y : Int) (h : Ca w F g mw s) (hv : vid id = true) (hv2 : vid who = true) (hr : s.res id = some (x, y)) (hR : s.R.length ≤ 1000000) :
    Calls Try.prog 7 #[.pointer (some ⟨g, 0, none⟩), .string id, .string who] w (KnownPost w F g mw s id x y) := by
  have hid : id.size ≤ maxLen := by have := vid_small hv; unfold maxLen; omega
  obtain ⟨⟨A, c, mr, hb, ho, hm, h1, h2, h4⟩, h5⟩ := h
  have Hv := Lib.hid hv
  have Hv2 := Lib.hid hv2
  have hgl := hb.lt
  have hgs : g ≠ w.heap.size := by omega
  have hcA : Chg Non w (w.alloc (.cells #[.int .i64 0, .int .i64 0] 31)) := (Chg.refl _ _).alloc _
  have c2 := (hb.non hcA).cell 2
  simp only [List.getElem?_toArray, List.getElem?_cons_zero, List.getElem?_cons_succ] at c2
  have q1 := (hm.non hcA).look_okS Try.underlying39 (z := .agg #[.int .i64 0, .int .i64 0]) (by kernel_rfl) hid (u := some (.agg #[.int .i64 x, .int .i64 y])) (by unfold resF; rw [hr]; rfl)
  simp only [Option.getD_some, Option.isSome_some] at q1
  have hbox := (Blk.new w 31 #[.int .i64 0, .int .i64 0]).alloc (.cells #[.int .i64 x, .int .i64 y] 31)
  have hbox2 := Blk.new (w.alloc (.cells #[.int .i64 0, .int .i64 0] 31)) 31 #[.int .i64 x, .int .i64 y]
  rw [World.size_alloc] at hbox2
  have hC1 : Chg Non w ((w.alloc (.cells #[.int .i64 0, .int .i64 0] 31)).alloc (.cells #[.int .i64 x, .int .i64 y] 31)) := hcA.alloc _
  have hUse := use_any _ g A c s.R _ _ _ id (hb.non hC1) (ho.non hC1) hR
  have hownl : ∀ b, (Value.slice A s.R.length c).ownBlock = some b → b < w.heap.size := fun b e => h5 b (h4 b e)
  have Hm := Lib.hid (hm.non hC1)
  have hmg : g ≠ mr := fun e => hm.apart hb e.symm
  have hmo : ∀ b, (Value.slice A s.R.length c).ownBlock = some b → b ≠ mr := fun b e e2 => ho.apartMap hm (by rw [e, e2])
  have Hhm := Lib.hid hmo
  have Hol := Lib.hid hownl
  have Hh4 := Lib.hid h4
  have Hh5 := Lib.hid h5
  clear hr hb ho hm hv hv2 hmo hownl h4 h5
  go_enter Try.func7, Try.ntmps7
  go_wp2_with fail
  refine (valid_any id _).mono ?_
  rintro e w9 ⟨rfl, rfl⟩
  rw [Hv.out]
  go_wp2_with fail
  refine (valid_any who _).mono ?_
  rintro e w9 ⟨rfl, rfl⟩
  rw [Hv2.out]
  go_wp2_with fail
  refine hUse.mono ?_
  rintro e w2 ⟨rfl, A2, c2n, hb2, ho2, how2, hc2⟩
  have hx2 := hbox.chg hc2 (fun e => by rcases e with e | e; (omega); (have := Hol.out _ e; omega))
  have hy2 := hbox2.chg hc2 (fun e => by rcases e with e | e; (omega); (have := Hol.out _ e; omega))
  have a0 := hx2.cell 0
  have a1 := hx2.cell 1
  have f0 := hx2.frozen 0
  have f1 := hx2.frozen 1
  have b0 := hy2.cell 0
  have b1 := hy2.cell 1
  simp only [List.getElem?_toArray, List.getElem?_cons_zero, List.getElem?_cons_succ] at a0 a1 b0 b1
  have hl2 := hx2.lt
  have Hm2 := Lib.hid (Hm.out.chg hc2 (fun e => by rcases e with e | e; (exact hmg e.symm); (exact Hhm.out _ e rfl)))
  have Hb2 := Lib.hid hb2
  have Ho2 := Lib.hid ho2
  have Hw2 := Lib.hid how2
  have hC2 : Chg F w w2 := (hC1.of_non).trans2 hc2 (fun b e => .inl (by rcases e with e | e; (rw [e]; exact h1); (exact Hh4.out b e)))
  clear q1 c2 hUse hbox hbox2 hC1 hcA hc2 hx2 hy2 hb2 ho2 how2 Hm
  go_wp2_with fail
  refine bodyPost_ret (v := .tuple #[.agg #[.int .i64 x, .int .i64 y], .bool true, .bool false]) (by simp [results, Try.results7, go_sem, *]) rfl ?_
  refine ⟨rfl, fun b => F b ∨ (Value.slice A2 (useR s.R id).length c2n).ownBlock = some b, ?_, fun b hb => hb.elim .inl (fun e => (Hw2.out b e).elim (fun e => .inl (Hh4.out b e)) (fun e => .inr (by simp at e; omega))), ?_⟩
  · have hS : Chg (fun b => b = w.heap.size) w2 ((w2.setCell ⟨w.heap.size, 0, none⟩ (.int .i64 x)).setCell ⟨w.heap.size, 1, none⟩ (.int .i64 y)) := ((Chg.refl _ _).set1 0 _).set1 1 _
    have hFw : ∀ b, F b → b ≠ w.heap.size := fun b hb e => by have := Hh5.out b hb; omega
    have hnew : ∀ b, (Value.slice A2 (useR s.R id).length c2n).ownBlock = some b → b ≠ w.heap.size := fun b e e2 => (Hw2.out b e).elim (fun e => hFw b (Hh4.out b e) e2) (fun e => by simp at e; omega)
    refine ⟨⟨A2, c2n, mr, Hb2.out.chg hS (fun e => hgs e), Ho2.out.chg hS (fun b e e2 => hnew b e e2), Hm2.out.chg hS (fun e => hFw mr h2 e), .inl h1, .inl h2, fun b e => .inr e⟩, fun b hb => ?_⟩
    have hs := hS.size
    have hs2 := hC2.size
    rcases hb with hb | hb
    · have := Hh5.out b hb; omega
    · have := Ho2.out.lt hb; omega
  · exact (hC2.setCell (p := ⟨w.heap.size, 0, none⟩) (.inr (Nat.le_refl _)) _).setCell (p := ⟨w.heap.size, 1, none⟩) (.inr (Nat.le_refl _)) _

/-- What Ask of an unknown name does. -/
def AskPost (w : World) (FS : Nat → Prop) (mw n q : Nat) (f : ByteArray → Option Nat) (D : ByteArray → ByteArray → Bool) (id who : ByteArray) (e : Ending) (w2 : World) : Prop :=
  ∃ F2 n2 f2, e = .returned (.tuple #[.agg #[.int .i64 0, .int .i64 0], .bool false, .bool (f id).isNone]) ∧ Sets idKey idKey w2 F2 mw n2 f2 (fun a z => D a z || (decide (a = id) && decide (z = who))) (q + 1) ∧
    n2 = (if (f id).isSome then n else n + 1) ∧ (∀ a, a ≠ id → f2 a = f a) ∧ (f2 id).isSome = true ∧ (∀ b, F2 b → FS b ∨ w.heap.size ≤ b) ∧ Chg FS w w2

set_option maxRecDepth 100000 in
set_option maxHeartbeats 4000000 in
theorem askNew_any (w : World) (F FS : Nat → Prop) (g mw n q : Nat) (s : CaS) (f : ByteArray → Option Nat) (D : ByteArray → ByteArray → Bool) (id who : ByteArray) (h : Ca w F g mw s) (hS : Sets idKey idKey w FS mw n f D q) (hFF : ∀ b, F b → ¬ FS b) (hv : vid id = true) (hv2 : vid who = true) (hr : s.res id = none) (hn : n ≤ 1000000) (hq : q ≤ 1000000) :
    Calls Try.prog 7 #[.pointer (some ⟨g, 0, none⟩), .string id, .string who] w (AskPost w FS mw n q f D id who) := by
  have hid : id.size ≤ maxLen := by have := vid_small hv; unfold maxLen; omega
  have hwho : who.size ≤ maxLen := by have := vid_small hv2; unfold maxLen; omega
  have c3 := h.g3
  have hgw : ¬ FS g := hFF g h.gF.1
  obtain ⟨⟨A, c, mr, hb, ho, hm, h1, h2, h4⟩, h5⟩ := h
  have Hv := Lib.hid hv
  have Hv2 := Lib.hid hv2
  have hgl := hb.lt
  obtain ⟨w1, hw1⟩ : ∃ w1, (w.alloc (.cells #[.int .i64 0, .int .i64 0] 31)).alloc (.cells #[.int .i64 0, .int .i64 0] 31) = w1 := ⟨_, rfl⟩
  have hcA : Chg Non w (w.alloc (.cells #[.int .i64 0, .int .i64 0] 31)) := (Chg.refl _ _).alloc _
  have hc1 : Chg Non w w1 := hw1 ▸ hcA.alloc _
  have hbox : Blk w1 w.heap.size 31 #[.int .i64 0, .int .i64 0] := hw1 ▸ (Blk.new w 31 #[.int .i64 0, .int .i64 0]).alloc _
  have c2 := (hb.non hcA).cell 2
  simp only [List.getElem?_toArray, List.getElem?_cons_zero, List.getElem?_cons_succ] at c2
  have q1 := (hm.non hcA).look_okS Try.underlying39 (z := .agg #[.int .i64 0, .int .i64 0]) (by kernel_rfl) hid (u := none) (by unfold resF; rw [hr]; rfl)
  simp only [Option.getD_none, Option.isSome_none] at q1
  have qn : ∀ (w : World) (r : Option Nat), (binOp .eql 51 (.map r) (.map none)).run Try.prog w = .ok (.bool r.isNone) w := fun w r => run_eql_map_nil w _ _ _ r Try.underlying51
  have hmm := @run_makeMap Try.prog
  have hS1 := hS.non hc1
  have c31 : w1.cell? ⟨g, 3, none⟩ = some (.map (some mw)) := hc1.cell c3 _root_.id
  have hg1 : g < w1.heap.size := by have := hc1.size; omega
  have hs1 : w.heap.size < w1.heap.size := hbox.lt
  have hFSl : ∀ b, FS b → b < w.heap.size := hS.lt
  have hmwF : FS mw := hS.Fm
  have HS := Lib.hid hS
  have Hw1 := Lib.hid hw1
  clear hr hb ho hm hv hv2 h4 h5 hS hw1
  go_enter Try.func7, Try.ntmps7
  go_wp2_with fail
  refine (valid_any id _).mono ?_
  rintro e w9 ⟨rfl, rfl⟩
  rw [Hv.out]
  go_wp2_with fail
  refine (valid_any who _).mono ?_
  rintro e w9 ⟨rfl, rfl⟩
  rw [Hv2.out]
  cases hf : f id with
  | none =>
    have q2 := hS1.map.lookS Try.underlying40 (z := .map none) (by kernel_rfl) hid (u := none) (by unfold toM; rw [hf]; rfl)
    simp only [Option.getD_none] at q2
    have hmA := hS1.map.alloc (.map #[] 0)
    have hnn : (toM f id).isSome = false := by rw [toM_some, hf]; rfl
    have Hnn := Lib.hid hnn
    have Hf := Lib.hid hf
    have HS1 := Lib.hid hS1
    have HmA := Lib.hid hmA
    have Hbox := Lib.hid hbox
    have Hc1 := Lib.hid hc1
    clear hf hnn hmA hS1 hbox hc1 hcA
    go_wp2_with (first
      | (at_lookup; rw [Hw1.out])
      | (at_mapUpdate; refine wp_store_Mp (K := idKey) rfl (.tmp 48) (.tmp 49) (.tmp 50) 40 rfl HmA.out Try.underlying40 (by unfold maxLen; omega) rfl (b := id) hid rfl (u := .map (some w1.heap.size)) rfl ?_; intro w6 hm6 hc6; rw [Hnn.out] at hm6; have hS6 := HS1.out.add Hf.out hm6 hc6; have q3 := hS6.map.lookS Try.underlying40 (z := .map none) (by kernel_rfl) hid (u := some (.map (some w1.heap.size))) (by unfold toM; simp); simp only [Option.getD_some] at q3; have hin := hS6.inn id w1.heap.size (if_pos rfl); have HS6 := Lib.hid hS6; have Hin := Lib.hid hin; clear hS6 hm6 hin; have c36 : w6.cell? ⟨g, 3, none⟩ = some (.map (some mw)) := hc6.cell (((Chg.refl Non w1).alloc (.map #[] 0)).cell c31 _root_.id) (fun e => by have e : g = mw := e; exact hgw (by rw [e]; exact hmwF)); have hg6 : g < w6.heap.size := (by have := hc6.size; simp at this; omega); have Hbx6 := Lib.hid ((Hbox.out.alloc (.map #[] 0)).chg hc6 (fun e => by have e : w.heap.size = mw := e; have := hFSl mw hmwF; omega)); have Hne : Hid (w.heap.size ≠ w1.heap.size) := (fun e => by omega); obtain ⟨cc, hcc, hMb⟩ := Hin.out.2.2; have HMb := Lib.hid hMb; clear hMb)
      | (at_mapUpdate; refine wp_store_Mp (K := idKey) rfl (.tmp 56) (.tmp 57) (.const (.bool true)) 51 rfl HMb.out Try.underlying51 (by unfold maxLen; omega) rfl (b := who) hwho rfl (u := .bool true) rfl ?_; intro w7 hm7 hc7; have hx7 := Hbx6.out.chg hc7 (fun e => Hne.out e); have Hx7 := Lib.hid hx7; have x0 := hx7.cell 0; have x1 := hx7.cell 1; have f0 := hx7.frozen 0; have f1 := hx7.frozen 1; have hl7 := hx7.lt; clear hx7))

    have hS7 := HS6.out.put (a := id) (b := w1.heap.size) (if_pos rfl) (x := who) (c := _) (by split <;> omega) hm7 hc7
    have hC7 : Chg FS w w7 := ((Hc1.out.alloc (.map #[] 0)).of_non.trans2 hc6 (fun b e => .inl (by rw [show b = mw from e]; exact hmwF))).trans2 hc7 (fun b e => .inr (by have e : b = w1.heap.size := e; omega))
    have r0 := Hx7.out.cell 0
    have r1 := Hx7.out.cell 1
    clear hm7 x0 x1 f0 f1
    refine bodyPost_ret (v := .tuple #[.agg #[.int .i64 0, .int .i64 0], .bool false, .bool true]) (by simp [results, Try.results7, go_sem, *]) rfl ?_
    have hS : Chg (fun b => b = w.heap.size) w7 ((w7.setCell ⟨w.heap.size, 0, none⟩ (.int .i64 0)).setCell ⟨w.heap.size, 1, none⟩ (.int .i64 0)) := ((Chg.refl _ _).set1 0 _).set1 1 _
    exact ⟨fun b => FS b ∨ b = w1.heap.size, _, _, by rw [Hf.out]; rfl, hS7.chg hS (fun b hb e => by have e : b = w.heap.size := e; rcases hb with hb | hb; (have := hFSl b hb; omega); omega), by rw [Hf.out]; rfl, (fun a ha => if_neg ha), (by simp), (fun b hb => hb.imp (fun h => h) (fun e => by omega)), (hC7.setCell (p := ⟨w.heap.size, 0, none⟩) (.inr (Nat.le_refl _)) _).setCell (p := ⟨w.heap.size, 1, none⟩) (.inr (Nat.le_refl _)) _⟩
  | some b0 =>
    have q2 := hS1.map.lookS Try.underlying40 (z := .map none) (by kernel_rfl) hid (u := some (.map (some b0))) (by unfold toM; rw [hf]; rfl)
    simp only [Option.getD_some] at q2
    have Hf := Lib.hid hf
    have HS1 := Lib.hid hS1
    have Hin := Lib.hid (hS1.inn id b0 hf)
    obtain ⟨cc, hcc, hMb⟩ := Hin.out.2.2
    have HMb := Lib.hid hMb
    have Hbx6 := Lib.hid hbox
    have Hc1 := Lib.hid hc1
    have Hne : Hid (w.heap.size ≠ b0) := (fun e => by have := hFSl b0 (Hin.out.1); omega)
    clear hf hS1 hbox hc1 hcA hMb
    go_wp2_with (first
      | (at_lookup; rw [Hw1.out])
      | (at_mapUpdate; refine wp_store_Mp (K := idKey) rfl (.tmp 56) (.tmp 57) (.const (.bool true)) 51 rfl HMb.out Try.underlying51 (by unfold maxLen; omega) rfl (b := who) hwho rfl (u := .bool true) rfl ?_; intro w7 hm7 hc7; have hx7 := Hbx6.out.chg hc7 (fun e => Hne.out e); have Hx7 := Lib.hid hx7; have x0 := hx7.cell 0; have x1 := hx7.cell 1; have f0 := hx7.frozen 0; have f1 := hx7.frozen 1; have hl7 := hx7.lt; clear hx7))

    have hS7 := HS1.out.put Hf.out (x := who) (c := _) (by split <;> omega) hm7 hc7
    have hC7 : Chg FS w w7 := (Hc1.out.of_non).trans2 hc7 (fun b e => .inl (by rw [show b = b0 from e]; exact Hin.out.1))
    have r0 := Hx7.out.cell 0
    have r1 := Hx7.out.cell 1
    clear hm7 x0 x1 f0 f1
    refine bodyPost_ret (v := .tuple #[.agg #[.int .i64 0, .int .i64 0], .bool false, .bool false]) (by simp [results, Try.results7, go_sem, *]) rfl ?_
    have hS : Chg (fun b => b = w.heap.size) w7 ((w7.setCell ⟨w.heap.size, 0, none⟩ (.int .i64 0)).setCell ⟨w.heap.size, 1, none⟩ (.int .i64 0)) := ((Chg.refl _ _).set1 0 _).set1 1 _
    exact ⟨FS, _, _, by rw [Hf.out]; rfl, hS7.chg hS (fun b hb e => by have e : b = w.heap.size := e; have := hFSl b hb; omega), by rw [Hf.out]; rfl, (fun a ha => rfl), (by rw [Hf.out]; rfl), (fun b hb => .inl hb), (hC7.setCell (p := ⟨w.heap.size, 0, none⟩) (.inr (Nat.le_refl _)) _).setCell (p := ⟨w.heap.size, 1, none⟩) (.inr (Nat.le_refl _)) _⟩
end Go.Proofs.Ytogmnhneobdklaa
