/-
  move.Taker: what it holds; NewTaker, In that takes.
-/
import Derived.Test.YtflaliomkfbagaaMvIn
import Derived.Test.YtflaliomkfbagaaMvKey
namespace Go.Proofs.Ytflaliomkfbagaa
open Go.RowKit
set_option linter.unusedVariables false
set_option linter.unusedSimpArgs false

structure TkS where
  node : Int
  room : Int
  has : ByteArray → Bool
  told : OK3 → Option Int
structure Tk (w : World) (F : Nat → Prop) (g sm tm ns nt : Nat) (s : TkS) : Prop where
  hb : Blk w g 51 #[.map (some sm), .int .i64 s.node, .int .i64 s.room, .map (some tm)]
  hs : Mp nmKey w sm ns (inB s.has)
  ht : Mp k3Key w tm nt (fun x => (s.told x).map fun v => .int .i64 v)
  ne : sm ≠ tm
  Fg : F g
  Fs : F sm
  Ft : F tm
  lt : ∀ b, F b → b < w.heap.size
theorem Tk.chg {w w2 : World} {F S : Nat → Prop} {g sm tm ns nt : Nat} {s : TkS} (h : Tk w F g sm tm ns nt s) (hc : Chg S w w2) (hS : ∀ b, F b → ¬ S b) : Tk w2 F g sm tm ns nt s :=
  ⟨h.hb.chg hc (hS _ h.Fg), h.hs.chg hc (hS _ h.Fs), h.ht.chg hc (hS _ h.Ft), h.ne, h.Fg, h.Fs, h.Ft, fun b hb => Nat.lt_of_lt_of_le (h.lt b hb) hc.size⟩
theorem Tk.non {w w2 : World} {F : Nat → Prop} {g sm tm ns nt : Nat} {s : TkS} (h : Tk w F g sm tm ns nt s) (hc : Chg Non w w2) : Tk w2 F g sm tm ns nt s := h.chg hc fun _ _ => id

theorem newTaker_any (w : World) (node room : Int) (hr : 0 ≤ room) : Calls Try.prog 11 #[.int .i64 node, .int .i64 room] w fun e w2 => ∃ g sm tm F, e = .returned (.pointer (some ⟨g, 0, none⟩)) ∧ Tk w2 F g sm tm 0 0 ⟨node, room, fun _ => false, fun _ => none⟩ ∧ (∀ b, F b → w.heap.size ≤ b) ∧ Chg Non w w2 := by
  have hmm := @run_makeMap Try.prog
  have hC : ∀ r, Chg Non w (((w.alloc (.map #[] 0)).alloc (.map #[] 0)).alloc (.cells #[.map (some w.heap.size), .int .i64 node, .int .i64 r, .map (some (w.heap.size + 1))] 51)) := fun r => (((Chg.refl Non w).alloc (.map #[] 0)).alloc (.map #[] 0)).alloc _
  have key : ∃ g sm tm F, Ending.returned (.pointer (some ⟨w.heap.size + 2, 0, none⟩)) = .returned (.pointer (some ⟨g, 0, none⟩)) ∧ Tk (((w.alloc (.map #[] 0)).alloc (.map #[] 0)).alloc (.cells #[.map (some w.heap.size), .int .i64 node, .int .i64 room, .map (some (w.heap.size + 1))] 51)) F g sm tm 0 0 ⟨node, room, fun _ => false, fun _ => none⟩ ∧ (∀ b, F b → w.heap.size ≤ b) ∧ Chg Non w (((w.alloc (.map #[] 0)).alloc (.map #[] 0)).alloc (.cells #[.map (some w.heap.size), .int .i64 node, .int .i64 room, .map (some (w.heap.size + 1))] 51)) := by
    have hm1 := Mp.made nmKey w
    have hm2 := Mp.made k3Key (w.alloc (.map #[] 0))
    rw [World.size_alloc] at hm2
    refine ⟨w.heap.size + 2, w.heap.size, w.heap.size + 1, fun b => b = w.heap.size ∨ b = w.heap.size + 1 ∨ b = w.heap.size + 2, rfl, ⟨?_, ((hm1.alloc _).alloc _).congr (fun a => rfl), (hm2.alloc _).congr (fun a => rfl), by omega, .inr (.inr rfl), .inl rfl, .inr (.inl rfl), fun b hb => ?_⟩, fun b hb => by omega, hC _⟩
    · have := Blk.new ((w.alloc (.map #[] 0)).alloc (.map #[] 0)) 51 #[.map (some w.heap.size), .int .i64 node, .int .i64 room, .map (some (w.heap.size + 1))]
      simpa using this
    · simp
      omega
  have Key := Lib.hid key
  clear key hC
  have hmx : max 0 room = room := by omega
  go_enter Try.func11, Try.ntmps11
  go_wp2_with fail
  go_ret
  exact Key.out

theorem i64_wf {n : Int} (h : i64 n) : (Lit.int .i64 n).wf = true := by
  unfold i64 at h
  exact WalkArith.wf_i64 (by omega)
/-- The answer to an offer. -/
def ansN (kd node : Int) (n : Nt) : Nt := { Nt.zero with kind := kd, node := node, life := n.life, epoch := n.epoch, id := n.id }
def keyN (n : Nt) (h : n.ok) : OK3 := ⟨(n.id, n.epoch, n.life), h.id, i64_wf h.epoch, i64_wf h.life⟩
def takeS (s : TkS) (n : Nt) (h : n.ok) (kd : Int) : TkS := { s with has := if kd = 5 then fun c => decide (c = n.id) || s.has c else s.has, told := fun x => if x = keyN n h then some kd else s.told x }
def TkTakePost (w : World) (F : Nat → Prop) (g sm tm ns nt : Nat) (s : TkS) (n : Nt) (hn : n.ok) (e : Ending) (w2 : World) : Prop :=
  e = .returned (.tuple #[.agg (NtC (ansN 5 s.node n) none 0 0 none 0 0), .bool true]) ∧ Tk w2 F g sm tm (ns + 1) (nt + 1) (takeS s n hn 5) ∧ Chg F w w2

set_option maxRecDepth 100000 in
set_option maxHeartbeats 8000000 in
theorem tkIn_take (w : World) (F : Nat → Prop) (g sm tm ns nt : Nat) (s : TkS) (h : Tk w F g sm tm ns nt s) (n : Nt) (A : Option Addr) (k c : Nat) (B : Option Addr) (m d : Nat) (hN : NtAt w n A k c B m d) (hk : k ≤ 1099511627776) (hm : m ≤ 1099511627776) (hmay : n.clear.may = true) (hkind : n.kind = 4) (htold : s.told (keyN n hN.ok) = none) (hroom : (ns : Int) < s.room) (hhas : s.has n.id = false) (hns : ns ≤ 1000000) (hnt : nt ≤ 1000000) :
    Calls Try.prog 17 #[.pointer (some ⟨g, 0, none⟩), .agg (NtC n A k c B m d)] w (TkTakePost w F g sm tm ns nt s n hN.ok) := by
  obtain ⟨w1, hw1⟩ : ∃ w1, (w.alloc (.cells #[.int .i64 n.kind, .int .i64 n.node, .int .i64 n.life, .int .i64 n.epoch, .string n.id, .int .i64 n.fn, .slice A k c, .int .i64 n.err, .int .i64 n.val, .int .i64 n.vep, .slice B m d] 59)).alloc (.cells #[.int .i64 0, .int .i64 0, .int .i64 0, .int .i64 0, .string ⟨#[]⟩, .int .i64 0, .slice none 0 0, .int .i64 0, .int .i64 0, .int .i64 0, .slice none 0 0] 59) = w1 := ⟨_, rfl⟩
  have hc1 : Chg Non w w1 := hw1 ▸ ((Chg.refl _ _).alloc _).alloc _
  have hbN : Blk w1 w.heap.size 59 #[.int .i64 n.kind, .int .i64 n.node, .int .i64 n.life, .int .i64 n.epoch, .string n.id, .int .i64 n.fn, .slice A k c, .int .i64 n.err, .int .i64 n.val, .int .i64 n.vep, .slice B m d] := hw1 ▸ (Blk.new w _ _).alloc _
  have hbR : Blk w1 (w.heap.size + 1) 59 #[.int .i64 0, .int .i64 0, .int .i64 0, .int .i64 0, .string ⟨#[]⟩, .int .i64 0, .slice none 0 0, .int .i64 0, .int .i64 0, .int .i64 0, .slice none 0 0] := by
    have := Blk.new (w.alloc (.cells #[.int .i64 n.kind, .int .i64 n.node, .int .i64 n.life, .int .i64 n.epoch, .string n.id, .int .i64 n.fn, .slice A k c, .int .i64 n.err, .int .i64 n.val, .int .i64 n.vep, .slice B m d] 59)) 59 #[.int .i64 0, .int .i64 0, .int .i64 0, .int .i64 0, .string ⟨#[]⟩, .int .i64 0, .slice none 0 0, .int .i64 0, .int .i64 0, .int .i64 0, .slice none 0 0]
    rw [hw1, World.size_alloc] at this
    exact this
  have hFl : ∀ b, F b → b < w.heap.size := h.lt
  have h := h.non hc1
  have hpk := pack_any w1 n A k c B m d (hN.non hc1) hk hm
  have hpe : n.packErr = 0 := by unfold Nt.packErr; rw [hmay]; rfl
  rw [hpe] at hpk
  have Hk4 := Lib.hid hkind
  have hkb : (n.kind != 4) = false := by rw [hkind]; rfl
  have hid := hN.ok.id
  obtain ⟨ky, hky⟩ : ∃ ky, keyN n hN.ok = ky := ⟨_, rfl⟩
  have HKe : Hid (k3V ky = .agg #[.string n.id, .int .i64 n.epoch, .int .i64 n.life]) := by show _ = _; rw [← hky]; rfl
  rw [hky] at htold
  have HT := Lib.hid htold
  have Hky := Lib.hid hky
  have Hhas := Lib.hid hhas
  have H := Lib.hid h
  have HbN := Lib.hid hbN
  have HbR := Lib.hid hbR
  have Hc1 := Lib.hid hc1
  have hz1 := hc1.size
  have hNF : ¬ F w.heap.size := fun e => by have := hFl _ e; omega
  have hRF : ¬ F (w.heap.size + 1) := fun e => by have := hFl _ e; omega
  have HFl := Lib.hid hFl
  have y0 : w1.cell? ⟨w.heap.size, 0, none⟩ = some (.int .i64 n.kind) := hbN.cell 0
  have y1 : w1.cell? ⟨w.heap.size, 1, none⟩ = some (.int .i64 n.node) := hbN.cell 1
  have y2 : w1.cell? ⟨w.heap.size, 2, none⟩ = some (.int .i64 n.life) := hbN.cell 2
  have y3 : w1.cell? ⟨w.heap.size, 3, none⟩ = some (.int .i64 n.epoch) := hbN.cell 3
  have y4 : w1.cell? ⟨w.heap.size, 4, none⟩ = some (.string n.id) := hbN.cell 4
  have y5 : w1.cell? ⟨w.heap.size, 5, none⟩ = some (.int .i64 n.fn) := hbN.cell 5
  have y6 : w1.cell? ⟨w.heap.size, 6, none⟩ = some (.slice A k c) := hbN.cell 6
  have y7 : w1.cell? ⟨w.heap.size, 7, none⟩ = some (.int .i64 n.err) := hbN.cell 7
  have y8 : w1.cell? ⟨w.heap.size, 8, none⟩ = some (.int .i64 n.val) := hbN.cell 8
  have y9 : w1.cell? ⟨w.heap.size, 9, none⟩ = some (.int .i64 n.vep) := hbN.cell 9
  have y10 : w1.cell? ⟨w.heap.size, 10, none⟩ = some (.slice B m d) := hbN.cell 10
  have yl := hbN.lt
  have hOkG := Lib.hid hN.ok
  clear hpe hkind htold hky hhas h hbN hbR hc1 hmay hFl
  go_enter Try.func17, Try.ntmps17
  unfold NtC at hpk ⊢
  go_wp2_with fail
  refine hpk.mono ?_
  clear hpk y0 y1 y2 y3 y4 y5 y6 y7 y8 y9 y10 yl hw1
  rintro e w2 ⟨v, rfl, _, hc2⟩
  have hN2 := HbN.out.non hc2
  have y0 : w2.cell? ⟨w.heap.size, 0, none⟩ = some (.int .i64 n.kind) := hN2.cell 0
  have y2 : w2.cell? ⟨w.heap.size, 2, none⟩ = some (.int .i64 n.life) := hN2.cell 2
  have y3 : w2.cell? ⟨w.heap.size, 3, none⟩ = some (.int .i64 n.epoch) := hN2.cell 3
  have y4 : w2.cell? ⟨w.heap.size, 4, none⟩ = some (.string n.id) := hN2.cell 4
  have yl := hN2.lt
  obtain ⟨w3, hw3⟩ : ∃ w3, w2.alloc (.cells #[.string n.id, .int .i64 n.epoch, .int .i64 n.life] 107) = w3 := ⟨_, rfl⟩
  have hc3 : Chg Non w1 w3 := hw3 ▸ hc2.alloc _
  have hbK : Blk w3 w2.heap.size 107 #[.string n.id, .int .i64 n.epoch, .int .i64 n.life] := hw3 ▸ Blk.new _ _ _
  obtain ⟨gk, hgk⟩ : ∃ x, w2.heap.size = x := ⟨_, rfl⟩
  have hgk1 : w1.heap.size ≤ gk := by have := hc2.size; omega
  rw [hgk] at hbK
  go_wp2_with fail
  clear y0 y2 y3 y4 yl hw3 hgk hN2
  have hT3 := H.out.non hc3
  have hN3 := HbN.out.non hc3
  have t3 : ∀ wx, Chg Non w3 wx → wx.cell? ⟨g, 3, none⟩ = some (.map (some tm)) := fun wx hc => (hT3.non hc).hb.cell 3
  have o0 : ∀ wx, Chg Non w3 wx → wx.cell? ⟨gk, 0, none⟩ = some (.string n.id) := fun wx hc => (hbK.non hc).cell 0
  have o1 : ∀ wx, Chg Non w3 wx → wx.cell? ⟨gk, 1, none⟩ = some (.int .i64 n.epoch) := fun wx hc => (hbK.non hc).cell 1
  have o2 : ∀ wx, Chg Non w3 wx → wx.cell? ⟨gk, 2, none⟩ = some (.int .i64 n.life) := fun wx hc => (hbK.non hc).cell 2
  have ql : ∀ wx, Chg Non w3 wx → (Instr.lookup 49 (.map (some tm)) (.agg #[.string n.id, .int .i64 n.epoch, .int .i64 n.life]) true).run Try.prog wx = .ok (.tuple #[.int .i64 0, .bool false]) wx := fun wx hc => by
    have q := (hT3.non hc).ht.look_ok Try.underlying49 (z := .int .i64 0) (by kernel_rfl) (a := ky) trivial
    rw [HT.out] at q
    have e : k3Key.val ky = .agg #[.string n.id, .int .i64 n.epoch, .int .i64 n.life] := HKe.out
    rw [e] at q
    exact q
  have gl3 := hT3.hb.lt
  have kl3 := hbK.lt
  refine st_region _ Non [] [] (fun _ _ _ _ => True) (fun _ _ _ _ => True) (fun _ _ _ => True) (fun _ => True) (by kernel_rfl) (okB_of_F _ (by kernel_rfl)) (fun _ h => h.elim) trivial (fun _ _ _ => trivial) ?_
  repeat (first | (refine st_pass (by rfl) ?_; simp only [Act.put, List.setIfInBounds_toArray, List.set_cons_succ, List.set_cons_zero]) | (refine st_plain (Non) (w3) rfl rfl (f := ?_) (by rfl) rfl rfl (fun w hC hG => ?_) ?_; rotate_left; (clear hG; first | (go_simp; done) | (go_simp; with_reducible rfl) | (simp [*, go_sem, ↓IntWalk.iteOmega]; done) | (simp [*, go_sem, ↓IntWalk.iteOmega]; with_reducible rfl)); simp only [Act.put, List.setIfInBounds_toArray, List.set_cons_succ, List.set_cons_zero]))
  refine st_end Non w3 rfl rfl (fun w4 hC4 _ _ => ?_)
  have hc4 := hc3.non hC4
  have hT4 := H.out.non hc4
  have hN4 := HbN.out.non hc4
  have hK4 := hbK.non hC4
  clear t3 o0 o1 o2 ql gl3 kl3 hT3 hN3 hbK
  go_wp2_with fail
  have t0 : ∀ wx, Chg Non w4 wx → wx.cell? ⟨g, 0, none⟩ = some (.map (some sm)) := fun wx hc => (hT4.non hc).hb.cell 0
  have t2 : ∀ wx, Chg Non w4 wx → wx.cell? ⟨g, 2, none⟩ = some (.int .i64 s.room) := fun wx hc => (hT4.non hc).hb.cell 2
  have y4 : ∀ wx, Chg Non w4 wx → wx.cell? ⟨w.heap.size, 4, none⟩ = some (.string n.id) := fun wx hc => (hN4.non hc).cell 4
  have hlen : ∀ (ty : TypeId) wx, Chg Non w4 wx → (Builtin.len_ #[45] ty #[.map (some sm)]).run Try.prog wx = .ok (.int .i64 ns) wx := fun ty wx hc => (hT4.non hc).hs.len Try.underlying45 ty
  have qs : ∀ wx, Chg Non w4 wx → (Instr.lookup 45 (.map (some sm)) (.string n.id) false).run Try.prog wx = .ok (.bool false) wx := fun wx hc => by
    have q := (hT4.non hc).hs.lookS Try.underlying45 (z := .bool false) (by kernel_rfl) hid rfl
    have e : (inB s.has n.id).getD (.bool false) = .bool false := by unfold inB; rw [Hhas.out]; rfl
    rw [e] at q
    exact q
  have gl4 := hT4.hb.lt
  have nl4 := hN4.lt
  have hdr : decide ((ns : Int) < s.room) = true := decide_eq_true hroom
  refine st_region _ Non [] [] (fun _ _ _ _ => True) (fun _ _ _ _ => True) (fun _ _ _ => True) (fun _ => True) (by kernel_rfl) (okB_of_F _ (by kernel_rfl)) (fun _ h => h.elim) trivial (fun _ _ _ => trivial) ?_
  repeat (first | (refine st_pass (by rfl) ?_; simp only [Act.put, List.setIfInBounds_toArray, List.set_cons_succ, List.set_cons_zero]) | (refine st_plain (Non) (w4) rfl rfl (f := ?_) (by rfl) rfl rfl (fun w hC hG => ?_) ?_; rotate_left; (clear hG; first | (go_simp; done) | (go_simp; with_reducible rfl) | (simp [*, go_sem, ↓IntWalk.iteOmega]; done) | (simp [*, go_sem, ↓IntWalk.iteOmega]; with_reducible rfl)); simp only [Act.put, List.setIfInBounds_toArray, List.set_cons_succ, List.set_cons_zero]))
  refine st_end Non w4 rfl rfl (fun w5 hC5 _ _ => ?_)
  have hc5 := hc4.non hC5
  have hT5 := H.out.non hc5
  have hN5 := HbN.out.non hc5
  have hK5 := hK4.non hC5
  clear t0 t2 y4 hlen qs gl4 nl4 hT4 hN4 hK4
  go_wp2_with fail
  have t0 : ∀ wx, Chg Non w5 wx → wx.cell? ⟨g, 0, none⟩ = some (.map (some sm)) := fun wx hc => (hT5.non hc).hb.cell 0
  have y4 : ∀ wx, Chg Non w5 wx → wx.cell? ⟨w.heap.size, 4, none⟩ = some (.string n.id) := fun wx hc => (hN5.non hc).cell 4
  have gl5 := hT5.hb.lt
  have nl5 := hN5.lt
  refine st_region_tail 8 6 Non [] [] (fun _ _ _ _ => True) (fun _ _ _ _ => True) (fun _ _ _ => True) (fun _ => True) (by kernel_rfl) (by kernel_rfl) (by kernel_rfl) (fun _ h => h.elim) trivial (fun _ _ _ => trivial) ?_
  repeat (first | (refine st_pass (by rfl) ?_; simp only [Act.put, List.setIfInBounds_toArray, List.set_cons_succ, List.set_cons_zero]) | (refine st_plain (Non) (w5) rfl rfl (f := ?_) (by rfl) rfl rfl (fun w hC hG => ?_) ?_; rotate_left; (clear hG; first | (go_simp; done) | (go_simp; with_reducible rfl) | (simp [*, go_sem, ↓IntWalk.iteOmega]; done) | (simp [*, go_sem, ↓IntWalk.iteOmega]; with_reducible rfl)); simp only [Act.put, List.setIfInBounds_toArray, List.set_cons_succ, List.set_cons_zero]))
  refine st_tail Non w5 rfl rfl rfl (fun w6 hC6 _ _ => ?_)
  simp only [List.drop_succ_cons, List.drop_zero]
  have hc6 := hc5.non hC6
  have hT6 := H.out.non hc6
  have hN6 := HbN.out.non hc6
  have hK6 := hK5.non hC6
  clear t0 y4 gl5 nl5 hT5 hN5 hK5
  refine wp_store_Mp (K := nmKey) rfl (.tmp 65) (.tmp 67) (.const (.bool true)) 45 rfl hT6.hs Try.underlying45 (by unfold maxLen; omega) rfl (b := n.id) hid rfl (u := .bool true) rfl ?_
  intro w7 hm7 hc7
  have hsg : g ≠ sm := fun e => hT6.hs.apart hT6.hb e.symm
  have htg : g ≠ tm := fun e => hT6.ht.apart hT6.hb e.symm
  have hNs : w.heap.size ≠ sm := fun e => hNF (e ▸ hT6.Fs)
  have hNt : w.heap.size ≠ tm := fun e => hNF (e ▸ hT6.Ft)
  have hRs : w.heap.size + 1 ≠ sm := fun e => hRF (e ▸ hT6.Fs)
  have hRt : w.heap.size + 1 ≠ tm := fun e => hRF (e ▸ hT6.Ft)
  have hKs : gk ≠ sm := fun e => by have := HFl.out sm hT6.Fs; omega
  have hKt : gk ≠ tm := fun e => by have := HFl.out tm hT6.Ft; omega
  have hnn : inB s.has n.id = none := by unfold inB; rw [Hhas.out]; rfl
  rw [hnn] at hm7
  rw [inB_set] at hm7
  have hb7 := hT6.hb.chg hc7 hsg
  have ht7 := hT6.ht.chg hc7 (fun e => hT6.ne (show tm = sm from e).symm)
  have hN7 := hN6.chg hc7 hNs
  have hK7 := hK6.chg hc7 hKs
  have hR7 := (HbR.out.non hc6).chg hc7 hRs
  have hCF7 : Chg F w w7 := ((Hc1.out.of_non (S := F)).non hc6).trans2 hc7 (fun b e => .inl (by have e : b = sm := e; rw [e]; exact hT6.Fs))
  have hz7 := hc7.size
  have hz6 := hc6.size
  have hne := hT6.ne
  have hFg := hT6.Fg
  have hFs := hT6.Fs
  have hFt := hT6.Ft
  clear hc7 hT6 hN6 hK6 hC6 hC5 hC4 hc3 hc4 hc5 hc6 hc2 hnn
  go_wp2_with fail
  have t3 : ∀ wx, Chg Non w7 wx → wx.cell? ⟨g, 3, none⟩ = some (.map (some tm)) := fun wx hc => (hb7.non hc).cell 3
  have o0 : ∀ wx, Chg Non w7 wx → wx.cell? ⟨gk, 0, none⟩ = some (.string n.id) := fun wx hc => (hK7.non hc).cell 0
  have o1 : ∀ wx, Chg Non w7 wx → wx.cell? ⟨gk, 1, none⟩ = some (.int .i64 n.epoch) := fun wx hc => (hK7.non hc).cell 1
  have o2 : ∀ wx, Chg Non w7 wx → wx.cell? ⟨gk, 2, none⟩ = some (.int .i64 n.life) := fun wx hc => (hK7.non hc).cell 2
  have gl7 := hb7.lt
  have kl7 := hK7.lt
  refine st_region_tail 8 6 Non [] [] (fun _ _ _ _ => True) (fun _ _ _ _ => True) (fun _ _ _ => True) (fun _ => True) (by kernel_rfl) (by kernel_rfl) (by kernel_rfl) (fun _ h => h.elim) trivial (fun _ _ _ => trivial) ?_
  repeat (first | (refine st_pass (by rfl) ?_; simp only [Act.put, List.setIfInBounds_toArray, List.set_cons_succ, List.set_cons_zero]) | (refine st_plain (Non) (w7) rfl rfl (f := ?_) (by rfl) rfl rfl (fun w hC hG => ?_) ?_; rotate_left; (clear hG; first | (go_simp; done) | (go_simp; with_reducible rfl) | (simp [*, go_sem, ↓IntWalk.iteOmega]; done) | (simp [*, go_sem, ↓IntWalk.iteOmega]; with_reducible rfl)); simp only [Act.put, List.setIfInBounds_toArray, List.set_cons_succ, List.set_cons_zero]))
  refine st_tail Non w7 rfl rfl rfl (fun w8 hC8 _ _ => ?_)
  simp only [List.drop_succ_cons, List.drop_zero]
  have ht8 := ht7.non hC8
  have hs8 := hm7.non hC8
  have hb8 := hb7.non hC8
  have hN8 := hN7.non hC8
  have hR8 := hR7.non hC8
  have hz8 := hC8.size
  have hCF8 := hCF7.non hC8
  clear t3 o0 o1 o2 gl7 kl7 ht7 hm7 hb7 hN7 hR7 hK7 hCF7 hC8
  refine wp_store_Mp (K := k3Key) rfl (.tmp 71) (.tmp 72) (.tmp 73) 49 rfl ht8 Try.underlying49 (by unfold maxLen; omega) rfl (b := ky) trivial (by exact HKe.out.symm) (u := .int .i64 5) rfl ?_
  intro w9 hm9 hc9
  have hnn : (s.told ky).map (fun v => Value.int .i64 v) = none := by rw [HT.out]; rfl
  rw [hnn] at hm9
  have hm9' : Mp k3Key w9 tm (nt + 1) (fun x => ((takeS s n hOkG.out 5).told x).map fun v => .int .i64 v) := hm9.congr fun x => by
    unfold takeS
    dsimp only
    rw [Hky.out]
    by_cases hx : x = ky <;> simp [hx]
  have hb9 := hb8.chg hc9 htg
  have hs9 := hs8.chg hc9 (fun e => hne e)
  have hN9 := hN8.chg hc9 hNt
  have hR9 := hR8.chg hc9 hRt
  have hCF9 : Chg F w w9 := hCF8.trans2 hc9 (fun b e => .inl (by have e : b = tm := e; rw [e]; exact hFt))
  have hz9 := hc9.size
  have htk : Tk w9 F g sm tm (ns + 1) (nt + 1) (takeS s n hOkG.out 5) := by
    refine ⟨hb9, ?_, hm9', hne, hFg, hFs, hFt, fun b hb => by have := HFl.out b hb; omega⟩
    exact hs9
  clear hc9 hm9 hm9' hs9 ht8 hs8 hb8 hN8 hR8 hnn hCF8
  go_wp2_with fail
  have hgR : g ≠ w.heap.size + 1 := fun e => hRF (e ▸ hFg)
  have t1 : ∀ wx, Chg (fun b => b = w.heap.size + 1) w9 wx → wx.cell? ⟨g, 1, none⟩ = some (.int .i64 s.node) := fun wx hc => (hb9.chg hc hgR).cell 1
  have y2 : ∀ wx, Chg (fun b => b = w.heap.size + 1) w9 wx → wx.cell? ⟨w.heap.size, 2, none⟩ = some (.int .i64 n.life) := fun wx hc => (hN9.chg hc (fun e => by have e : w.heap.size = w.heap.size + 1 := e; omega)).cell 2
  have y3 : ∀ wx, Chg (fun b => b = w.heap.size + 1) w9 wx → wx.cell? ⟨w.heap.size, 3, none⟩ = some (.int .i64 n.epoch) := fun wx hc => (hN9.chg hc (fun e => by have e : w.heap.size = w.heap.size + 1 := e; omega)).cell 3
  have y4 : ∀ wx, Chg (fun b => b = w.heap.size + 1) w9 wx → wx.cell? ⟨w.heap.size, 4, none⟩ = some (.string n.id) := fun wx hc => (hN9.chg hc (fun e => by have e : w.heap.size = w.heap.size + 1 := e; omega)).cell 4
  have gl9 := hb9.lt
  have nl9 := hN9.lt
  refine st_region _ (fun b => b = w.heap.size + 1) [12] [] (fun _ _ _ w2 => Blk w2 (w.heap.size + 1) 59 #[.int .i64 5, .int .i64 s.node, .int .i64 n.life, .int .i64 n.epoch, .string n.id, .int .i64 0, .slice none 0 0, .int .i64 0, .int .i64 0, .int .i64 0, .slice none 0 0]) (fun _ _ _ _ => True) (fun _ _ v => v = undef) (fun w2 => Blk w2 (w.heap.size + 1) 59 #[.int .i64 0, .int .i64 0, .int .i64 0, .int .i64 0, .string ⟨#[]⟩, .int .i64 0, .slice none 0 0, .int .i64 0, .int .i64 0, .int .i64 0, .slice none 0 0]) (by kernel_rfl) (okB_of_F _ (by kernel_rfl)) (fun b e => by rw [e]; exact hR9.lt) hR9 (fun _ _ h => h.alloc _) ?_
  repeat (first | (refine st_pass (by rfl) ?_; simp only [Act.put, List.setIfInBounds_toArray, List.set_cons_succ, List.set_cons_zero]) | (refine st_plain (fun b => b = w.heap.size + 1) (w9) rfl rfl (f := ?_) (by rfl) rfl rfl (fun w hC hG => ?_) ?_; rotate_left; (clear hG; first | (go_simp; done) | (go_simp; with_reducible rfl) | (simp [*, go_sem, ↓IntWalk.iteOmega]; done) | (simp [*, go_sem, ↓IntWalk.iteOmega]; with_reducible rfl)); simp only [Act.put, List.setIfInBounds_toArray, List.set_cons_succ, List.set_cons_zero]))
  refine st_major (fun b => b = w.heap.size + 1) w9 rfl rfl (by rfl) rfl ⟨_, rfl⟩ (fun _ _ _ _ _ _ => trivial) (fun v wx ob h => h.alloc ob) (fun wx hC hG hS => ?_) ?_
  · have d0 := hS.cell 0
    have d1 := hS.cell 1
    have d2 := hS.cell 2
    have d3 := hS.cell 3
    have d4 := hS.cell 4
    have d5 := hS.cell 5
    have d6 := hS.cell 6
    have d7 := hS.cell 7
    have d8 := hS.cell 8
    have d9 := hS.cell 9
    have d10 := hS.cell 10
    simp only [List.getElem?_toArray, List.getElem?_cons_zero, List.getElem?_cons_succ] at d0 d1 d2 d3 d4 d5 d6 d7 d8 d9 d10
    have f0 := hS.frozen 0
    have f1 := hS.frozen 1
    have f2 := hS.frozen 2
    have f3 := hS.frozen 3
    have f4 := hS.frozen 4
    have f5 := hS.frozen 5
    have f6 := hS.frozen 6
    have f7 := hS.frozen 7
    have f8 := hS.frozen 8
    have f9 := hS.frozen 9
    have f10 := hS.frozen 10
    have hb4 := (((((((((((hS.put 0 (.int .i64 5)).put 1 (.int .i64 s.node)).put 2 (.int .i64 n.life)).put 3 (.int .i64 n.epoch)).put 4 (.string n.id)).put 5 (.int .i64 0)).put 6 (.slice none 0 0)).put 7 (.int .i64 0)).put 8 (.int .i64 0)).put 9 (.int .i64 0)).put 10 (.slice none 0 0))
    simp only [List.setIfInBounds_toArray, List.set_cons_succ, List.set_cons_zero] at hb4
    clear hG t1 y2 y3 y4
    refine settle_of (r2 := .ok .skip (((((((((((wx.setCell ⟨w.heap.size + 1, 0, none⟩ (.int .i64 5)).setCell ⟨w.heap.size + 1, 1, none⟩ (.int .i64 s.node)).setCell ⟨w.heap.size + 1, 2, none⟩ (.int .i64 n.life)).setCell ⟨w.heap.size + 1, 3, none⟩ (.int .i64 n.epoch)).setCell ⟨w.heap.size + 1, 4, none⟩ (.string n.id)).setCell ⟨w.heap.size + 1, 5, none⟩ (.int .i64 0)).setCell ⟨w.heap.size + 1, 6, none⟩ (.slice none 0 0)).setCell ⟨w.heap.size + 1, 7, none⟩ (.int .i64 0)).setCell ⟨w.heap.size + 1, 8, none⟩ (.int .i64 0)).setCell ⟨w.heap.size + 1, 9, none⟩ (.int .i64 0)).setCell ⟨w.heap.size + 1, 10, none⟩ (.slice none 0 0))) ?_ (settle_skip ⟨rfl, ((((((((((((Chg.refl _ _).set1 0 _).set1 1 _).set1 2 _).set1 3 _).set1 4 _).set1 5 _).set1 6 _).set1 7 _).set1 8 _).set1 9 _).set1 10 _), hb4, trivial⟩)
    first | (go_simp; done) | (go_simp; rfl)
  · rintro v4 rfl
    simp only [Act.put, List.setIfInBounds_toArray, List.set_cons_succ, List.set_cons_zero]
    repeat (first | (refine st_pass (by rfl) ?_; simp only [Act.put, List.setIfInBounds_toArray, List.set_cons_succ, List.set_cons_zero]) | (refine st_plain (fun b => b = w.heap.size + 1) (w9) rfl rfl (f := ?_) (by rfl) rfl rfl (fun w hC hG => ?_) ?_; rotate_left; (clear hG; first | (go_simp; done) | (go_simp; with_reducible rfl) | (simp [*, go_sem, ↓IntWalk.iteOmega]; done) | (simp [*, go_sem, ↓IntWalk.iteOmega]; with_reducible rfl)); simp only [Act.put, List.setIfInBounds_toArray, List.set_cons_succ, List.set_cons_zero]))
    refine st_end (fun b => b = w.heap.size + 1) w9 rfl rfl (fun w10 hC10 hS10 hG => ?_)
    have hS10 : Blk w10 (w.heap.size + 1) 59 #[.int .i64 5, .int .i64 s.node, .int .i64 n.life, .int .i64 n.epoch, .string n.id, .int .i64 0, .slice none 0 0, .int .i64 0, .int .i64 0, .int .i64 0, .slice none 0 0] := hS10
    have r0 := hS10.cell 0
    have r1 := hS10.cell 1
    have r2 := hS10.cell 2
    have r3 := hS10.cell 3
    have r4 := hS10.cell 4
    have r5 := hS10.cell 5
    have r6 := hS10.cell 6
    have r7 := hS10.cell 7
    have r8 := hS10.cell 8
    have r9 := hS10.cell 9
    have r10 := hS10.cell 10
    simp only [List.getElem?_toArray, List.getElem?_cons_zero, List.getElem?_cons_succ] at r0 r1 r2 r3 r4 r5 r6 r7 r8 r9 r10
    have htk10 := htk.chg hC10 (fun b hb e => hRF (by have e : b = w.heap.size + 1 := e; rw [← e]; exact hb))
    have hCF10 : Chg F w w10 := hCF9.trans2 hC10 (fun b e => .inr (by have e : b = w.heap.size + 1 := e; omega))
    have Hfin := Lib.hid (show TkTakePost w F g sm tm ns nt s n hOkG.out (.returned (.tuple #[.agg (NtC (ansN 5 s.node n) none 0 0 none 0 0), .bool true])) w10 from ⟨rfl, htk10, hCF10⟩)
    clear hG t1 y2 y3 y4 hS10 hC10 htk htk10 hCF9 hCF10 hb9 hN9 hR9
    try go_wp2_with fail
    exact bodyPost_ret (v := .tuple #[.agg #[.int .i64 5, .int .i64 s.node, .int .i64 n.life, .int .i64 n.epoch, .string n.id, .int .i64 0, .slice none 0 0, .int .i64 0, .int .i64 0, .int .i64 0, .slice none 0 0], .bool true]) (by simp [results, Try.results17, go_sem, r0, r1, r2, r3, r4, r5, r6, r7, r8, r9, r10]) rfl Hfin.out
end Go.Proofs.Ytflaliomkfbagaa
