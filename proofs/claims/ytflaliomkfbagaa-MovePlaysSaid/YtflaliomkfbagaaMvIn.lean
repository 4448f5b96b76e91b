/-
  move.Giver: In.
-/
import Derived.Test.YtflaliomkfbagaaMvAgain
namespace Go.Proofs.Ytflaliomkfbagaa
open Go.RowKit
set_option linter.unusedVariables false
set_option linter.unusedSimpArgs false

theorem eq_of (w : World) (a b c a2 b2 c2 : Int) : (Op.equalIn 10000 95 (.agg #[.int .i64 a, .int .i64 b, .int .i64 c]) (.agg #[.int .i64 a2, .int .i64 b2, .int .i64 c2])).run Try.prog w = .ok (a == a2 && b == b2 && c == c2) w := by
  have u3 := Try.underlying3
  have hS : Try.prog.underlying 95 = some (.struct (Try.prog.fieldsOf 95)) := by kernel_rfl
  have hp : Try.prog.stoodInHeld 95 = false := by kernel_rfl
  rw [show (10000 : Nat) = 9999 + 1 from rfl, run_equalIn_agg w 9999 95 _ _ hS hp]
  simp only [Program.fieldsOf, Try.underlying95]
  go_simp
  by_cases h1 : a = a2 <;> by_cases h2 : b = b2 <;> by_cases h3 : c = c2 <;> simp [h1, h2, h3]

/-- Is a note the answer to an offer that stands? -/
def inOk (s : GvS) (n : Nt) : Bool := match s.off n.id with | some o => (n.kind == 5 || n.kind == 6) && (o.to == n.node && o.epoch == n.epoch && o.num == n.life) | none => false
def inS (s : GvS) (n : Nt) : GvS := { node := s.node, has := if n.kind = 6 then fun c => decide (c = n.id) || s.has c else s.has, off := setO s.off n.id none, num := s.num }

def GvInPost (w : World) (F : Nat → Prop) (g sm om ns no : Nat) (s : GvS) (n : Nt) (e : Ending) (w2 : World) : Prop :=
  e = .returned (.bool (inOk s n)) ∧ ∃ ns2 no2, ns2 ≤ ns + 1 ∧ no2 ≤ no ∧ Gv w2 F g sm om ns2 no2 (if inOk s n then inS s n else s) ∧ Chg F w w2
set_option maxRecDepth 100000 in
set_option maxHeartbeats 8000000 in
theorem gvIn_any (w : World) (F : Nat → Prop) (g sm om ns no : Nat) (s : GvS) (h : Gv w F g sm om ns no s) (n : Nt) (A : Option Addr) (k c : Nat) (B : Option Addr) (m d : Nat) (ha : n.id.size ≤ maxLen) (hns : ns ≤ 1000000) :
    Calls Try.prog 18 #[.pointer (some ⟨g, 0, none⟩), .agg (NtC n A k c B m d)] w (GvInPost w F g sm om ns no s n) := by
  obtain ⟨w1, hw1⟩ : ∃ w1, w.alloc (.cells #[.int .i64 n.kind, .int .i64 n.node, .int .i64 n.life, .int .i64 n.epoch, .string n.id, .int .i64 n.fn, .slice A k c, .int .i64 n.err, .int .i64 n.val, .int .i64 n.vep, .slice B m d] 59) = w1 := ⟨_, rfl⟩
  have hc1 : Chg Non w w1 := hw1 ▸ (Chg.refl _ _).alloc _
  have hbN : Blk w1 w.heap.size 59 #[.int .i64 n.kind, .int .i64 n.node, .int .i64 n.life, .int .i64 n.epoch, .string n.id, .int .i64 n.fn, .slice A k c, .int .i64 n.err, .int .i64 n.val, .int .i64 n.vep, .slice B m d] := hw1 ▸ Blk.new _ _ _
  have hNF : ¬ F w.heap.size := fun e => by have := h.lt _ e; omega
  have h := h.non hc1
  have hgl := h.hb.lt
  have hnl := hbN.lt
  have hstay : inOk s n = false → ∀ w2, Chg Non w1 w2 → GvInPost w F g sm om ns no s n (.returned (.bool false)) w2 := fun e w2 hc => by
    unfold GvInPost
    rw [e]
    exact ⟨rfl, ns, no, by omega, Nat.le_refl _, by rw [if_neg Bool.false_ne_true]; exact h.non hc, (hc1.non hc).of_non⟩
  have Hstay := Lib.hid hstay
  have hcase : ∃ t e nu b, ((s.off n.id).map ofV).getD (.agg #[.int .i64 0, .int .i64 0, .int .i64 0]) = .agg #[.int .i64 t, .int .i64 e, .int .i64 nu] ∧ ((s.off n.id).map ofV).isSome = b ∧ inOk s n = (b && ((n.kind == 5 || n.kind == 6) && (t == n.node && e == n.epoch && nu == n.life))) := by
    unfold inOk
    cases hf : s.off n.id with
    | none => exact ⟨0, 0, 0, false, rfl, rfl, rfl⟩
    | some x => exact ⟨x.to, x.epoch, x.num, true, rfl, rfl, by simp⟩
  obtain ⟨t, ee, nu, b, hb2, hsm, hok⟩ := hcase
  have q1 : ∀ wx, Chg Non w1 wx → (Instr.lookup 46 (.map (some om)) (.string n.id) true).run Try.prog wx = .ok (.tuple #[.agg #[.int .i64 t, .int .i64 ee, .int .i64 nu], .bool b]) wx := fun wx hc => by
    have q := (h.ho.non hc).look_okS Try.underlying46 (z := .agg #[.int .i64 0, .int .i64 0, .int .i64 0]) (by kernel_rfl) ha rfl
    rw [hb2, hsm] at q
    exact q
  have k2 : ∀ wx, Chg Non w1 wx → wx.cell? ⟨g, 2, none⟩ = some (.map (some om)) := fun wx hc => (h.non hc).hb.cell 2
  have x4 : ∀ wx, Chg Non w1 wx → wx.cell? ⟨w.heap.size, 4, none⟩ = some (.string n.id) := fun wx hc => (hbN.non hc).cell 4
  have H := Lib.hid h
  have HbN := Lib.hid hbN
  have Hc1 := Lib.hid hc1
  have Hok := Lib.hid hok
  clear h hbN hc1 hb2 hsm hstay hok
  go_enter Try.func18, Try.ntmps18
  unfold NtC
  go_wp2_with fail
  try rw [hw1]
  refine st_region_last 8 11 9 Non [] [10] (fun _ _ _ _ => True) (fun _ _ _ _ => True) (fun _ _ _ => True) (fun _ => True) (by kernel_rfl) (by kernel_rfl) (by kernel_rfl) (by kernel_rfl) (by decide) rfl rfl rfl rfl rfl rfl rfl (fun _ h => h.elim) trivial (fun _ _ _ => trivial) ?_
  repeat (first | (refine st_pass (by rfl) ?_; simp only [Act.put, List.setIfInBounds_toArray, List.set_cons_succ, List.set_cons_zero]) | (refine st_plain (Non) (w1) rfl rfl (f := ?_) (by rfl) rfl rfl (fun w hC hG => ?_) ?_; rotate_left; (clear hG; first | (go_simp; done) | (go_simp; with_reducible rfl) | (simp [*, go_sem, ↓IntWalk.iteOmega]; done) | (simp [*, go_sem, ↓IntWalk.iteOmega]; with_reducible rfl)); simp only [Act.put, List.setIfInBounds_toArray, List.set_cons_succ, List.set_cons_zero]))
  refine st_minor Non w1 rfl rfl (ob := .cells #[.int .i64 0, .int .i64 0, .int .i64 0] 95) (kd := none) (by rfl) rfl rfl (fun w hC hG => by clear hG; go_simp; rfl) (fun g3 => ?_)
  simp only [Act.put, List.setIfInBounds_toArray, List.set_cons_succ, List.set_cons_zero]
  refine st_tail Non w1 rfl rfl rfl (fun w7 hC7 _ hG7 => ?_)
  have hB3 : Blk w7 g3 95 #[.int .i64 0, .int .i64 0, .int .i64 0] := (hG7 10).2
  have hg3 : w1.heap.size ≤ g3 := (hG7 10).1
  clear hG7
  refine ⟨_, exec_store (cs := #[.int .i64 t, .int .i64 ee, .int .i64 nu]) _ _ rfl rfl rfl hB3 rfl (by kernel_rfl) (by simp [Value.oneCell']), ?_⟩
  simp only [List.drop_succ_cons, List.drop_zero]
  have hCs : Chg (fun b => b = g3) w7 (w7.setCells g3 0 [.int .i64 t, .int .i64 ee, .int .i64 nu]) := Chg.sets (S := fun b => b = g3) (.inl rfl) _ _ _ (Chg.refl _ w7)
  have hB8 : Blk (w7.setCells g3 0 [.int .i64 t, .int .i64 ee, .int .i64 nu]) g3 95 #[.int .i64 t, .int .i64 ee, .int .i64 nu] := hB3.puts _ _ _ _
  show wpList _ _ _ _ _ (w7.setCells g3 0 [.int .i64 t, .int .i64 ee, .int .i64 nu])
  obtain ⟨w8, hw8⟩ : ∃ w8, w7.setCells g3 0 [.int .i64 t, .int .i64 ee, .int .i64 nu] = w8 := ⟨_, rfl⟩
  rw [hw8] at hCs hB8 ⊢
  have hC8 : Chg Non w1 w8 := hC7.trans2 hCs (fun b e => .inr (by have e : b = g3 := e; omega))
  have b0 : w8.cell? ⟨g3, 0, none⟩ = some (.int .i64 t) := hB8.cell 0
  have b1 : w8.cell? ⟨g3, 1, none⟩ = some (.int .i64 ee) := hB8.cell 1
  have b2 : w8.cell? ⟨g3, 2, none⟩ = some (.int .i64 nu) := hB8.cell 2
  have hbN8 := HbN.out.non hC8
  have y0 : w8.cell? ⟨w.heap.size, 0, none⟩ = some (.int .i64 n.kind) := hbN8.cell 0
  have y1 : w8.cell? ⟨w.heap.size, 1, none⟩ = some (.int .i64 n.node) := hbN8.cell 1
  have y2 : w8.cell? ⟨w.heap.size, 2, none⟩ = some (.int .i64 n.life) := hbN8.cell 2
  have y3 : w8.cell? ⟨w.heap.size, 3, none⟩ = some (.int .i64 n.epoch) := hbN8.cell 3
  have bl := hB8.lt
  have yl := hbN8.lt
  have hG8 := H.out.non hC8
  have q := eq_of
  clear hw8 hCs hB3 hC7 hB8 q1 k2 x4
  simp only [mkv]
  have hcases : (b = false) ∨ (b = true ∧ (n.kind == 5) = false ∧ (n.kind == 6) = false) ∨ (b = true ∧ (n.kind == 5 || n.kind == 6) = true ∧ (t == n.node && ee == n.epoch && nu == n.life) = false) ∨ (b = true ∧ (n.kind == 5 || n.kind == 6) = true ∧ (t == n.node && ee == n.epoch && nu == n.life) = true) := by
    cases b <;> cases (n.kind == 5) <;> cases (n.kind == 6) <;> cases (t == n.node && ee == n.epoch && nu == n.life) <;> simp
  rcases hcases with h1 | ⟨h1, h2, h3⟩ | ⟨h1, h2, h3⟩ | ⟨h1, h2, h3⟩
  · as_aux_lemma =>
      subst h1
      have He : Hid (inOk s n = false) := by show _ = _; rw [Hok.out]; rfl
      clear hG8 hbN8
      go_wp2_with fail
      go_ret
      exact Hstay.out He.out _ hC8
  · as_aux_lemma =>
      subst h1
      have He : Hid (inOk s n = false) := by show _ = _; rw [Hok.out, h2, h3]; rfl
      have n1 : (n.kind != 5) = true := by rw [bne, h2]; rfl
      have n2 : (n.kind != 6) = true := by rw [bne, h3]; rfl
      clear hG8 hbN8 h2 h3
      go_wp2_with fail
      go_ret
      exact Hstay.out He.out _ hC8
  · have hk : ((n.kind != 5) = false) ∨ ((n.kind != 5) = true ∧ (n.kind != 6) = false) := by
      rw [bne, bne]
      cases h5 : (n.kind == 5) <;> cases h6 : (n.kind == 6) <;> simp_all
    subst h1
    have He : Hid (inOk s n = false) := by show _ = _; rw [Hok.out, h3]; simp
    clear hG8 hbN8 h2
    rcases hk with hk | ⟨hk, hk2⟩
    · as_aux_lemma =>
        go_wp2_with fail
        go_ret
        exact Hstay.out He.out _ hC8
    · as_aux_lemma =>
        go_wp2_with fail
        go_ret
        exact Hstay.out He.out _ hC8
  · have hk : ((n.kind != 5) = false) ∨ ((n.kind != 5) = true ∧ (n.kind != 6) = false) := by
      rw [bne, bne]
      cases h5 : (n.kind == 5) <;> cases h6 : (n.kind == 6) <;> simp_all
    subst h1
    have He : Hid (inOk s n = true) := by show _ = _; rw [Hok.out, h2, h3]; rfl
    clear h2
    rcases hk with hk | ⟨hk, hk2⟩
    · as_aux_lemma =>
        have hke : n.kind = 5 := by simpa [bne] using hk
        have He6 : Hid (n.kind = 5) := hke
        have hkb : (n.kind == 6) = false := by rw [hke]; rfl
        clear hke
        go_wp2_with fail
        clear b0 b1 b2 y1 y2 y3
        have k2 : ∀ wx, Chg Non w8 wx → wx.cell? ⟨g, 2, none⟩ = some (.map (some om)) := fun wx hc => (hG8.non hc).hb.cell 2
        have x4 : ∀ wx, Chg Non w8 wx → wx.cell? ⟨w.heap.size, 4, none⟩ = some (.string n.id) := fun wx hc => (hbN8.non hc).cell 4
        have gl8 := hG8.hb.lt
        refine st_region_tail 8 6 Non [] [] (fun _ _ _ _ => True) (fun _ _ _ _ => True) (fun _ _ _ => True) (fun _ => True) (by kernel_rfl) (by kernel_rfl) (by kernel_rfl) (fun _ h => h.elim) trivial (fun _ _ _ => trivial) ?_
        repeat (first | (refine st_pass (by rfl) ?_; simp only [Act.put, List.setIfInBounds_toArray, List.set_cons_succ, List.set_cons_zero]) | (refine st_plain (Non) (w8) rfl rfl (f := ?_) (by rfl) rfl rfl (fun w hC hG => ?_) ?_; rotate_left; (clear hG; first | (go_simp; done) | (go_simp; with_reducible rfl) | (simp [*, go_sem, ↓IntWalk.iteOmega]; done) | (simp [*, go_sem, ↓IntWalk.iteOmega]; with_reducible rfl)); simp only [Act.put, List.setIfInBounds_toArray, List.set_cons_succ, List.set_cons_zero]))
        refine st_tail Non w8 rfl rfl rfl (fun w9 hC9 _ _ => ?_)
        simp only [List.drop_succ_cons, List.drop_zero]
        have hG9 := hG8.non hC9
        have hbN9 := hbN8.non hC9
        clear k2 x4 gl8 y0 yl bl
        refine wp_delete_Mp (K := nmKey) rfl (.tmp 43) (.tmp 45) 46 rfl hG9.ho Try.underlying46 rfl (b := n.id) ha rfl ?_
        intro w10 hm10 hc10
        have hog : g ≠ om := fun e => hG9.ho.apart hG9.hb e.symm
        have hNo : w.heap.size ≠ om := fun e => hNF (e ▸ hG9.Fo)
        have hNs : w.heap.size ≠ sm := fun e => hNF (e ▸ hG9.Fs)
        have hsg : g ≠ sm := fun e => hG9.hs.apart hG9.hb e.symm
        have hb10 := hG9.hb.chg hc10 hog
        have hs10 := hG9.hs.chg hc10 (fun e => hG9.ne e)
        have hbN10 := hbN9.chg hc10 hNo
        rw [of_del] at hm10
        have hno2 : (if ((s.off n.id).map ofV).isSome then no - 1 else no) ≤ no := by split <;> omega
        generalize (if ((s.off n.id).map ofV).isSome then no - 1 else no) = nox at hm10 hno2
        have hCF : Chg F w w10 := ((Hc1.out.of_non (S := F)).non (hC8.non hC9)).trans2 hc10 (fun b e => .inl (by have e : b = om := e; rw [e]; exact hG9.Fo))
        have hz : w9.heap.size ≤ w10.heap.size := hc10.size
        have hlt9 := hG9.lt
        have hne := hG9.ne
        have hFg := hG9.Fg
        have hFs := hG9.Fs
        have hFo := hG9.Fo
        have y0 : w10.cell? ⟨w.heap.size, 0, none⟩ = some (.int .i64 n.kind) := hbN10.cell 0
        have yl := hbN10.lt
        clear hc10 hbN9 hG9 hbN8 hG8
        go_wp2_with fail
        go_ret
        show GvInPost w F g sm om ns no s n (.returned (.bool true)) _
        unfold GvInPost
        refine ⟨by rw [He.out], ns, nox, by omega, hno2, ?_, hCF⟩
        rw [He.out, if_pos rfl]
        unfold inS
        rw [He6.out, if_neg (by decide)]
        exact ⟨hb10, hs10, hm10, hne, hFg, hFs, hFo, fun b hb => Nat.lt_of_lt_of_le (hlt9 b hb) hz⟩
    · as_aux_lemma =>
        have hke : n.kind = 6 := by simpa [bne] using hk2
        have He6 : Hid (n.kind = 6) := hke
        have hkb : (n.kind == 6) = true := by rw [hke]; rfl
        clear hke
        go_wp2_with fail
        clear b0 b1 b2 y1 y2 y3
        have k2 : ∀ wx, Chg Non w8 wx → wx.cell? ⟨g, 2, none⟩ = some (.map (some om)) := fun wx hc => (hG8.non hc).hb.cell 2
        have x4 : ∀ wx, Chg Non w8 wx → wx.cell? ⟨w.heap.size, 4, none⟩ = some (.string n.id) := fun wx hc => (hbN8.non hc).cell 4
        have gl8 := hG8.hb.lt
        refine st_region_tail 8 6 Non [] [] (fun _ _ _ _ => True) (fun _ _ _ _ => True) (fun _ _ _ => True) (fun _ => True) (by kernel_rfl) (by kernel_rfl) (by kernel_rfl) (fun _ h => h.elim) trivial (fun _ _ _ => trivial) ?_
        repeat (first | (refine st_pass (by rfl) ?_; simp only [Act.put, List.setIfInBounds_toArray, List.set_cons_succ, List.set_cons_zero]) | (refine st_plain (Non) (w8) rfl rfl (f := ?_) (by rfl) rfl rfl (fun w hC hG => ?_) ?_; rotate_left; (clear hG; first | (go_simp; done) | (go_simp; with_reducible rfl) | (simp [*, go_sem, ↓IntWalk.iteOmega]; done) | (simp [*, go_sem, ↓IntWalk.iteOmega]; with_reducible rfl)); simp only [Act.put, List.setIfInBounds_toArray, List.set_cons_succ, List.set_cons_zero]))
        refine st_tail Non w8 rfl rfl rfl (fun w9 hC9 _ _ => ?_)
        simp only [List.drop_succ_cons, List.drop_zero]
        have hG9 := hG8.non hC9
        have hbN9 := hbN8.non hC9
        clear k2 x4 gl8 y0 yl bl
        refine wp_delete_Mp (K := nmKey) rfl (.tmp 43) (.tmp 45) 46 rfl hG9.ho Try.underlying46 rfl (b := n.id) ha rfl ?_
        intro w10 hm10 hc10
        have hog : g ≠ om := fun e => hG9.ho.apart hG9.hb e.symm
        have hNo : w.heap.size ≠ om := fun e => hNF (e ▸ hG9.Fo)
        have hNs : w.heap.size ≠ sm := fun e => hNF (e ▸ hG9.Fs)
        have hsg : g ≠ sm := fun e => hG9.hs.apart hG9.hb e.symm
        have hb10 := hG9.hb.chg hc10 hog
        have hs10 := hG9.hs.chg hc10 (fun e => hG9.ne e)
        have hbN10 := hbN9.chg hc10 hNo
        rw [of_del] at hm10
        have hno2 : (if ((s.off n.id).map ofV).isSome then no - 1 else no) ≤ no := by split <;> omega
        generalize (if ((s.off n.id).map ofV).isSome then no - 1 else no) = nox at hm10 hno2
        have hCF : Chg F w w10 := ((Hc1.out.of_non (S := F)).non (hC8.non hC9)).trans2 hc10 (fun b e => .inl (by have e : b = om := e; rw [e]; exact hG9.Fo))
        have hz : w9.heap.size ≤ w10.heap.size := hc10.size
        have hlt9 := hG9.lt
        have hne := hG9.ne
        have hFg := hG9.Fg
        have hFs := hG9.Fs
        have hFo := hG9.Fo
        have y0 : w10.cell? ⟨w.heap.size, 0, none⟩ = some (.int .i64 n.kind) := hbN10.cell 0
        have yl := hbN10.lt
        clear hc10 hbN9 hG9 hbN8 hG8
        go_wp2_with fail
        have k0 : ∀ wx, Chg Non w10 wx → wx.cell? ⟨g, 0, none⟩ = some (.map (some sm)) := fun wx hc => (hb10.non hc).cell 0
        have x4 : ∀ wx, Chg Non w10 wx → wx.cell? ⟨w.heap.size, 4, none⟩ = some (.string n.id) := fun wx hc => (hbN10.non hc).cell 4
        have gl10 := hb10.lt
        refine st_region_tail 8 6 Non [] [] (fun _ _ _ _ => True) (fun _ _ _ _ => True) (fun _ _ _ => True) (fun _ => True) (by kernel_rfl) (by kernel_rfl) (by kernel_rfl) (fun _ h => h.elim) trivial (fun _ _ _ => trivial) ?_
        repeat (first | (refine st_pass (by rfl) ?_; simp only [Act.put, List.setIfInBounds_toArray, List.set_cons_succ, List.set_cons_zero]) | (refine st_plain (Non) (w10) rfl rfl (f := ?_) (by rfl) rfl rfl (fun w hC hG => ?_) ?_; rotate_left; (clear hG; first | (go_simp; done) | (go_simp; with_reducible rfl) | (simp [*, go_sem, ↓IntWalk.iteOmega]; done) | (simp [*, go_sem, ↓IntWalk.iteOmega]; with_reducible rfl)); simp only [Act.put, List.setIfInBounds_toArray, List.set_cons_succ, List.set_cons_zero]))
        refine st_tail Non w10 rfl rfl rfl (fun w11 hC11 _ _ => ?_)
        simp only [List.drop_succ_cons, List.drop_zero]
        have hs11 := hs10.non hC11
        have hb11 := hb10.non hC11
        have hm11 := hm10.non hC11
        have hz11 := hC11.size
        clear k0 x4 gl10 y0 yl
        refine wp_store_Mp (K := nmKey) rfl (.tmp 52) (.tmp 54) (.const (.bool true)) 45 rfl hs11 Try.underlying45 (by unfold maxLen; omega) rfl (b := n.id) ha rfl (u := .bool true) rfl ?_
        intro w12 hm12 hc12
        have hb12 := hb11.chg hc12 hsg
        have ho12 := hm11.chg hc12 (fun e => hne (show om = sm from e).symm)
        have hz12 := hc12.size
        have hCF2 : Chg F w w12 := (hCF.non hC11).trans2 hc12 (fun b e => .inl (by have e : b = sm := e; rw [e]; exact hFs))
        rw [inB_set] at hm12
        have hns2 : (if (inB s.has n.id).isSome then ns else ns + 1) ≤ ns + 1 := by split <;> omega
        generalize (if (inB s.has n.id).isSome then ns else ns + 1) = nsx at hm12 hns2
        clear hs10 hb10 hm10 hs11 hb11 hm11 hC11 hc12 hCF
        go_wp2_with fail
        go_ret
        show GvInPost w F g sm om ns no s n (.returned (.bool true)) _
        unfold GvInPost
        refine ⟨by rw [He.out], nsx, nox, hns2, hno2, ?_, hCF2⟩
        rw [He.out, if_pos rfl]
        unfold inS
        rw [He6.out, if_pos rfl]
        exact ⟨hb12, hm12, ho12, hne, hFg, hFs, hFo, fun b hb => by have := hlt9 b hb; omega⟩
end Go.Proofs.Ytflaliomkfbagaa
