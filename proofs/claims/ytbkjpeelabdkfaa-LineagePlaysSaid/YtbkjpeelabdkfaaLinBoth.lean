/-
  Both logs side by side; what lies where between two calls.
-/
import Derived.Test.YtbkjpeelabdkfaaLinRefHeld
namespace Go.Proofs.Ytbkjpeelabdkfaa
open Go.ChangeShapes Go.WideShapes Go.ChangeAt Go.RowKit Go.Deep
set_option linter.unusedVariables false
set_option linter.unusedSimpArgs false

structure LBs (wo : World) (FL F : Nat → Prop) (g r n : Nat) (s : LS) (L : List Rr) (w : World) : Prop where
  ln : Ln w FL g n s
  rl : Rl w F r L
  nd : (L.map (·.id)).Nodup
  ap : ∀ b, FL b → ¬ F b
  f1 : ∀ b, FL b → wo.heap.size ≤ b
  f2 : ∀ b, F b → wo.heap.size ≤ b
  chg : Chg Non wo w
section
variable {wo w w2 : World} {FL F : Nat → Prop} {g r n : Nat} {s : LS} {L : List Rr}
theorem LBs.put {S : Nat → Prop} (h : LBs wo FL F g r n s L w) (hc : Chg S w w2) (h1 : ∀ b, FL b → ¬ S b) (h2 : ∀ b, F b → ¬ S b) (h3 : ∀ b, S b → wo.heap.size ≤ b) : LBs wo FL F g r n s L w2 :=
  ⟨h.ln.chg hc h1, h.rl.chg hc h2, h.nd, h.ap, h.f1, h.f2, h.chg.trans2 hc fun b e => .inr (h3 b e)⟩
theorem LBs.non (h : LBs wo FL F g r n s L w) (hc : Chg Non w w2) : LBs wo FL F g r n s L w2 := h.put hc (fun _ _ => id) (fun _ _ => id) fun _ e => e.elim
theorem LBs.prog {FL2 : Nat → Prop} {n2 : Nat} {s2 : LS} (h : LBs wo FL F g r n s L w) (h1 : Ln w2 FL2 g n2 s2) (h2 : ∀ b, FL2 b → FL b ∨ w.heap.size ≤ b) (hc : Chg FL w w2) : LBs wo FL2 F g r n2 s2 L w2 :=
  ⟨h1, h.rl.chg hc fun b hb e => h.ap b e hb, h.nd, fun b hb hf => (h2 b hb).elim (fun e => h.ap b e hf) (fun e => by have := h.rl.lt b hf; omega), fun b hb => (h2 b hb).elim (h.f1 b) (fun e => Nat.le_trans h.chg.size e), h.f2, h.chg.trans2 hc fun b e => .inr (h.f1 b e)⟩
theorem LBs.ref {F2 : Nat → Prop} {L2 : List Rr} (h : LBs wo FL F g r n s L w) (h1 : Rl w2 F2 r L2) (hn : (L2.map (·.id)).Nodup) (h2 : ∀ b, F2 b → F b ∨ w.heap.size ≤ b) (hc : Chg F w w2) : LBs wo FL F2 g r n s L2 w2 :=
  ⟨h.ln.chg hc fun b hb e => h.ap b hb e, h1, hn, fun b hb hf => (h2 b hf).elim (fun e => h.ap b hb e) (fun e => by have := h.ln.lt hb; omega), h.f1, fun b hb => (h2 b hb).elim (h.f2 b) (fun e => Nat.le_trans h.chg.size e), h.chg.trans2 hc fun b e => .inr (h.f2 b e)⟩
end
/-- All that is known between two calls. -/
def LB (wo : World) (g r k : Nat) (w : World) : Prop := ∃ (FL F : Nat → Prop) (n : Nat) (s : LS) (L : List Rr), LBs wo FL F g r n s L w ∧ Hid (s = lsOf L) ∧ n ≤ 100 * k ∧ Hid (L.length ≤ 100 * k) ∧ Hid (∀ a x, s a = some x → 0 ≤ x.times ∧ x.times ≤ (k : Int) + 1)

theorem eq_held (w : World) (a : ByteArray) (b c : Int) : (Op.equalIn 10000 55 (.agg #[.string a, .int .i64 b, .int .i64 c]) (.agg #[.string a, .int .i64 b, .int .i64 c])).run Try.prog w = .ok true w := by
  have u3 := Try.underlying3
  have u4 := Try.underlying27
  have hS : Try.prog.underlying 55 = some (.struct (Try.prog.fieldsOf 55)) := by kernel_rfl
  have hp : Try.prog.stoodInHeld 55 = false := by kernel_rfl
  rw [show (10000 : Nat) = 9999 + 1 from rfl, run_equalIn_agg w 9999 55 _ _ hS hp]
  simp only [Program.fieldsOf, Try.underlying55]
  go_simp
  try simp
theorem held_agg (s : LS) (a : ByteArray) : ∃ x y z, heldA s a = .agg #[.string x, .int .i64 y, .int .i64 z] := by
  unfold heldA
  cases goR s a with
  | none => exact ⟨_, _, _, rfl⟩
  | some r => exact ⟨_, _, _, rfl⟩
/-- How often any task was begun: at most once more a call. -/
theorem times_moved {s : LS} {k : Int} (h : ∀ a x, s a = some x → 0 ≤ x.times ∧ x.times ≤ k) (b : ByteArray) (node epoch : Int) : ∀ a x, (movedE s b node epoch).2 a = some x → 0 ≤ x.times ∧ x.times ≤ k + 1 := by
  intro a x hx
  have h0 : s a = some x → 0 ≤ x.times ∧ x.times ≤ k + 1 := fun e => by have := h a x e; omega
  unfold movedE at hx
  cases hg : goR s b with
  | none => rw [hg] at hx; exact h0 hx
  | some r =>
    rw [hg] at hx
    dsimp only at hx
    split at hx
    · unfold setR at hx
      dsimp only at hx
      split at hx
      · obtain rfl := Option.some.inj hx
        have hr : s b = some r := by unfold goR at hg; cases hs : s b with
          | none => rw [hs] at hg; cases hg
          | some q => rw [hs] at hg; cases he : q.ended <;> simp [Option.filter, he] at hg; rw [hg]
        have := h b r hr
        show 0 ≤ r.times ∧ r.times ≤ k + 1
        omega
      · exact h0 hx
    · exact h0 hx
theorem goR_some {s : LS} {b : ByteArray} {r : Rc} (hg : goR s b = some r) : s b = some r := by
  unfold goR at hg
  cases hs : s b with
  | none => rw [hs] at hg; cases hg
  | some q => rw [hs] at hg; cases he : q.ended <;> simp [Option.filter, he] at hg; rw [hg]
theorem times_ended {s : LS} {k : Int} (h : ∀ a x, s a = some x → 0 ≤ x.times ∧ x.times ≤ k) (b : ByteArray) : ∀ a x, (endedE s b).2 a = some x → 0 ≤ x.times ∧ x.times ≤ k + 1 := by
  intro a x hx
  have h0 : s a = some x → 0 ≤ x.times ∧ x.times ≤ k + 1 := fun e => by have := h a x e; omega
  unfold endedE at hx
  cases hg : goR s b with
  | none => rw [hg] at hx; exact h0 hx
  | some r =>
    rw [hg] at hx
    unfold setR at hx
    dsimp only at hx
    split at hx
    · obtain rfl := Option.some.inj hx
      have := h b r (goR_some hg)
      show 0 ≤ r.times ∧ r.times ≤ k + 1
      omega
    · exact h0 hx
theorem times_again {s : LS} {k : Int} (h : ∀ a x, s a = some x → 0 ≤ x.times ∧ x.times ≤ k) (b : ByteArray) (node epoch : Int) : ∀ a x, (againE s b node epoch).2 a = some x → 0 ≤ x.times ∧ x.times ≤ k + 1 := by
  intro a x hx
  have h0 : s a = some x → 0 ≤ x.times ∧ x.times ≤ k + 1 := fun e => by have := h a x e; omega
  unfold againE at hx
  cases hg : goR s b with
  | none => rw [hg] at hx; exact h0 hx
  | some r =>
    rw [hg] at hx
    dsimp only at hx
    split at hx
    · unfold setR at hx
      dsimp only at hx
      split at hx
      · obtain rfl := Option.some.inj hx
        have := h b r (goR_some hg)
        show 0 ≤ r.times + 1 ∧ r.times + 1 ≤ k + 1
        omega
      · exact h0 hx
    · exact h0 hx
theorem times_spawn {k : Int} (hk : 1 ≤ k) (node epoch : Int) : ∀ (I : List ByteArray) (p : LS × Int), (∀ a x, p.1 a = some x → 0 ≤ x.times ∧ x.times ≤ k) → ∀ a x, (I.foldl (spawn1 node epoch) p).1 a = some x → 0 ≤ x.times ∧ x.times ≤ k
  | [], p, h => h
  | b :: I, p, h => by
    rw [List.foldl_cons]
    refine times_spawn hk node epoch I _ ?_
    intro a x hx
    unfold spawn1 at hx
    split at hx
    · unfold setR at hx
      dsimp only at hx
      split at hx
      · obtain rfl := Option.some.inj hx
        show (0 : Int) ≤ 1 ∧ (1 : Int) ≤ k
        omega
      · exact h a x hx
    · exact h a x hx
theorem times_list {L : List Rr} (hn : (L.map (·.id)).Nodup) {k : Int} (h : ∀ a x, lsOf L a = some x → 0 ≤ x.times ∧ x.times ≤ k) : ∀ x ∈ L, 0 ≤ x.rc.times ∧ x.rc.times ≤ k := fun x hx => h x.id x.rc (ls_of_mem hn hx)
/-- Are names short, and few? -/
def namesB (L : List ByteArray) : Bool := decide (L.length ≤ 100) && L.all fun x => decide (x.size ≤ 100)
theorem namesB_true {L : List ByteArray} : namesB L = true ↔ L.length ≤ 100 ∧ ∀ x ∈ L, x.size ≤ 100 := by simp [namesB]
set_option maxRecDepth 100000 in
theorem names_any (w : World) (A : Option Addr) (n c : Nat) (L : List ByteArray) (h1 : Rds w 1 A n (sv L)) (hn : n ≤ 9223372036854775807) (hL : ∀ x ∈ L, x.size ≤ 9223372036854775807) :
    Calls Try.prog 17 #[.slice A n c] w fun e w2 => e = .returned (.bool (namesB L)) ∧ w = w2 := by
  have H1 := Lib.hid h1
  have Hnl := Lib.hid (h1.lenMap (f := Value.string))
  have HL := Lib.hid hL
  clear h1 hL
  go_enter Try.func17, Try.ntmps17
  go_wp2_with fail
  go_loop [3] (fun i => ∃ k : Nat, k ≤ n ∧ k ≤ 200 ∧ i = .int .i64 k ∧ Hid (∀ x ∈ L.take k, x.size ≤ 100)) (fun i => n - (intOf i).toNat)
  case atStart => exact ⟨0, Nat.zero_le _, by omega, rfl, (fun x hx => by simp at hx)⟩
  case round =>
    obtain ⟨k, hk, hk2, rfl, hno⟩ := hrel
    by_cases hlt : k < n ∧ k < 200
    · obtain ⟨hlt, hlt2⟩ := hlt
      obtain ⟨ad, x, rfl, hx, hc⟩ := H1.out.getS hlt
      have hxs := HL.out x (List.mem_of_getElem? hx)
      by_cases heq : x.size ≤ 100
      · have hno2 : Hid (∀ y ∈ L.take (k + 1), y.size ≤ 100) := by
          intro y hy
          rw [List.take_add_one, hx] at hy
          rcases List.mem_append.1 hy with hy | hy
          · exact hno.out y hy
          · simp at hy; subst hy; exact heq
        clear hx hno
        go_wp2_with fail
        go_round
        case rel => exact ⟨k + 1, by omega, by omega, by go_num, hno2⟩
        case measure => simp [intOf]; omega
      · have Hres := Lib.hid (show namesB L = false by
          cases h : namesB L with
          | false => rfl
          | true => exact absurd ((namesB_true.1 h).2 x (List.mem_of_getElem? hx)) heq)
        have hgt : 100 < x.size := by omega
        clear hx hno heq
        go_wp2_with fail
        go_ret
        exact ⟨by rw [Hres.out]; rfl, rfl⟩
    · have hex : (¬ k < n) ∨ (k < n ∧ ¬ k < 200) := by omega
      clear hlt
      rcases hex with h1 | ⟨h1, h2⟩
      · have hst : L.take k = L := List.take_of_length_le (by have := Hnl.out; omega)
        rw [hst] at hno
        have Hres := Lib.hid (show namesB L = decide ((n : Int) ≤ 100) by
          unfold namesB
          rw [← Hnl.out]
          have : (L.all fun x => decide (x.size ≤ 100)) = true := by simpa using hno.out
          rw [this, Bool.and_true, decide_eq_decide]
          omega)
        clear hst hno
        go_wp2_with fail
        go_ret
        exact ⟨by rw [Hres.out]; rfl, rfl⟩
      · have Hres := Lib.hid (show namesB L = decide ((n : Int) ≤ 100) by unfold namesB; rw [← Hnl.out, decide_eq_false (show ¬ n ≤ 100 by omega), decide_eq_false (show ¬ (n : Int) ≤ 100 by omega)]; rfl)
        clear hno
        go_wp2_with fail
        go_ret
        exact ⟨by rw [Hres.out]; rfl, rfl⟩
theorem big_any (w : World) (ep : Int) (A : Option Addr) (n c : Nat) : Calls Try.prog 18 #[.agg #[.int .i64 ep, .slice A n c]] w fun e w2 => e = .returned (.bool (decide (200 < n))) ∧ Chg Non w w2 := by
  by_cases h : 200 < n
  · have Hd := Lib.hid (decide_eq_true h)
    go_enter Try.func18, Try.ntmps18
    go_wp2_with fail
    go_ret
    exact ⟨by rw [Hd.out]; simp; omega, (Chg.refl _ _).alloc _⟩
  · have Hd := Lib.hid (decide_eq_false h)
    go_enter Try.func18, Try.ntmps18
    go_wp2_with fail
    go_ret
    exact ⟨by rw [Hd.out]; simp; omega, (Chg.refl _ _).alloc _⟩
end Go.Proofs.Ytbkjpeelabdkfaa
