/-
  lineage.Log: what it holds; goes, New, Moved, Ended, Again, Held, Times, Spawned.
-/
import Derived.Test.YtbkjpeelabdkfaaNmPlain
import Derived.Test.YtbkjpeelabdkfaaMaps
import Derived.Test.YtbkjpeelabdkfaaIdentValid
namespace Go.Proofs.Ytbkjpeelabdkfaa
open Go.RowKit
set_option linter.unusedVariables false
set_option linter.unusedSimpArgs false

/-- A known task. -/
structure Rc where
  node : Int
  epoch : Int
  times : Int
  ended : Bool
def cellR (r : Rc) : Array Value := #[.int .i64 r.node, .int .i64 r.epoch, .int .i64 r.times, .bool r.ended]
abbrev LS := ByteArray → Option Rc
def ptr (b : Nat) : Value := .pointer (some ⟨b, 0, none⟩)
noncomputable abbrev nmKey : KeyKind Try.prog 27 ByteArray := strKey Try.underlying27

structure LnA (w : World) (F : Nat → Prop) (g m n : Nat) (f : ByteArray → Option Nat) (s : LS) : Prop where
  hb : Blk w g 62 #[.map (some m)]
  hm : Mp nmKey w m n (fun a => (f a).map ptr)
  recs : ∀ a b, f a = some b → ∃ r, s a = some r ∧ Blk w b 65 (cellR r) ∧ F b
  no : ∀ a, f a = none → s a = none
  inj : ∀ a a2 b, f a = some b → f a2 = some b → a = a2
  Fg : F g
  Fm : F m
  lt : ∀ b, F b → b < w.heap.size
def Ln (w : World) (F : Nat → Prop) (g n : Nat) (s : LS) : Prop := ∃ m f, LnA w F g m n f s

section
variable {w w2 : World} {F : Nat → Prop} {g m n : Nat} {f : ByteArray → Option Nat} {s : LS}
theorem LnA.chg {S : Nat → Prop} (h : LnA w F g m n f s) (hc : Chg S w w2) (hS : ∀ b, F b → ¬ S b) : LnA w2 F g m n f s :=
  ⟨h.hb.chg hc (hS _ h.Fg), h.hm.chg hc (hS _ h.Fm), fun a b e => by obtain ⟨r, h1, h2, h3⟩ := h.recs a b e; exact ⟨r, h1, h2.chg hc (hS _ h3), h3⟩, h.no, h.inj, h.Fg, h.Fm, fun b hb => Nat.lt_of_lt_of_le (h.lt b hb) hc.size⟩
theorem LnA.non (h : LnA w F g m n f s) (hc : Chg Non w w2) : LnA w2 F g m n f s := h.chg hc fun _ _ => id
theorem Ln.chg {S : Nat → Prop} (h : Ln w F g n s) (hc : Chg S w w2) (hS : ∀ b, F b → ¬ S b) : Ln w2 F g n s := let ⟨m, f, h⟩ := h; ⟨m, f, h.chg hc hS⟩
theorem Ln.non (h : Ln w F g n s) (hc : Chg Non w w2) : Ln w2 F g n s := h.chg hc fun _ _ => id
theorem Ln.lt (h : Ln w F g n s) {b : Nat} (hb : F b) : b < w.heap.size := let ⟨_, _, h⟩ := h; h.lt b hb
/-- A new task's record. -/
theorem LnA.add (h : LnA w F g m n f s) {a : ByteArray} (hf : f a = none) (r : Rc) {n2 : Nat} (hm : Mp nmKey w2 m n2 (fun c => if c = a then some (ptr w.heap.size) else (f c).map ptr)) (hc : Chg (fun b => b = m) (w.alloc (.cells (cellR r) 65)) w2) :
    LnA w2 (fun b => F b ∨ b = w.heap.size) g m n2 (fun c => if c = a then some w.heap.size else f c) (fun c => if c = a then some r else s c) := by
  have hne : ∀ b, F b → b ≠ w.heap.size := fun b hb e => by have := h.lt b hb; omega
  have hgm : g ≠ m := fun e => h.hm.apart h.hb e.symm
  refine ⟨(h.hb.alloc _).chg hc hgm, hm.congr fun c => ?_, fun c b e => ?_, fun c e => ?_, fun c c2 b e e2 => ?_, .inl h.Fg, .inl h.Fm, fun b hb => ?_⟩
  · by_cases hca : c = a
    · simp [hca]
    · simp [hca]
  · by_cases hca : c = a
    · simp only [hca, if_true, Option.some.injEq] at e ⊢
      subst e
      exact ⟨r, rfl, (Blk.new w _ _).chg hc (fun e => hne m h.Fm e.symm), .inr rfl⟩
    · simp only [hca, if_false] at e ⊢
      obtain ⟨r2, h1, h2, h3⟩ := h.recs c b e
      exact ⟨r2, h1, (h2.alloc _).chg hc (fun e2 => (h.hm.apart h2) e2.symm), .inl h3⟩
  · by_cases hca : c = a
    · simp [hca] at e
    · simp only [hca, if_false] at e ⊢
      exact h.no c e
  · by_cases hca : c = a
    · by_cases hca2 : c2 = a
      · rw [hca, hca2]
      · simp only [hca, hca2, if_true, if_false, Option.some.injEq] at e e2
        obtain ⟨_, _, _, h3⟩ := h.recs c2 b e2
        exact absurd e.symm (hne b h3)
    · by_cases hca2 : c2 = a
      · simp only [hca, hca2, if_true, if_false, Option.some.injEq] at e e2
        obtain ⟨_, _, _, h3⟩ := h.recs c b e
        exact absurd e2.symm (hne b h3)
      · simp only [hca, hca2, if_false] at e e2
        exact h.inj c c2 b e e2
  · have h9 := hc.size
    rw [World.size_alloc] at h9
    rcases hb with hb | rfl
    · have := h.lt b hb; omega
    · omega
/-- A record is written anew. -/
theorem LnA.set (h : LnA w F g m n f s) {a : ByteArray} {b : Nat} (hf : f a = some b) {r : Rc} (hb2 : Blk w2 b 65 (cellR r)) (hc : Chg (fun c => c = b) w w2) : LnA w2 F g m n f (fun c => if c = a then some r else s c) := by
  obtain ⟨r0, h1, h2, h3⟩ := h.recs a b hf
  refine ⟨h.hb.chg hc (fun e => by have e : g = b := e; exact h.hb.apart h2 (by decide) e), h.hm.chg hc (fun e => by have e : m = b := e; exact h.hm.apart h2 e), fun c b2 e => ?_, fun c e => ?_, h.inj, h.Fg, h.Fm, fun b hb => Nat.lt_of_lt_of_le (h.lt b hb) hc.size⟩
  · by_cases hca : c = a
    · subst hca
      rw [hf] at e
      obtain rfl := Option.some.inj e
      exact ⟨r, by simp, hb2, h3⟩
    · obtain ⟨r2, h4, h5, h6⟩ := h.recs c b2 e
      exact ⟨r2, by simp [hca, h4], h5.chg hc (fun e2 => hca (h.inj c a b2 e (by have e2 : b2 = b := e2; rw [e2]; exact hf))), h6⟩
  · by_cases hca : c = a
    · rw [hca, hf] at e; cases e
    · simp only [hca, if_false]; exact h.no c e
end

def goR (s : LS) (a : ByteArray) : Option Rc := (s a).filter fun r => !r.ended
def setR (s : LS) (a : ByteArray) (r : Rc) : LS := fun c => if c = a then some r else s c
def LnPost (w : World) (F : Nat → Prop) (g n : Nat) (v : Value) (s : LS) (e : Ending) (w2 : World) : Prop :=
  e = .returned v ∧ ∃ F2 n2, Ln w2 F2 g n2 s ∧ n2 ≤ n ∧ (∀ b, F2 b → F b ∨ w.heap.size ≤ b) ∧ Chg F w w2
theorem LnPost.stay {w w2 : World} {F : Nat → Prop} {g n : Nat} {v : Value} {s : LS} (h : Ln w2 F g n s) (hc : Chg Non w w2) : LnPost w F g n v s (.returned v) w2 := ⟨rfl, F, n, h, Nat.le_refl _, fun _ h => .inl h, hc.of_non⟩

theorem linNew_any (w : World) : Calls Try.prog 7 #[] w fun e w2 => ∃ g F, e = .returned (ptr g) ∧ Ln w2 F g 0 (fun _ => none) ∧ (∀ b, F b → w.heap.size ≤ b) ∧ Chg Non w w2 := by
  have hmm := @run_makeMap Try.prog
  go_enter Try.func7, Try.ntmps7
  go_wp2_with fail
  go_ret
  have hm := Mp.made nmKey w
  have hb := Blk.new (w.alloc (.map #[] 0)) 62 #[.map (some w.heap.size)]
  refine ⟨_, fun b => b = w.heap.size ∨ b = w.heap.size + 1, rfl, ⟨w.heap.size, fun _ => none, ?_, hm.alloc _, (fun a b e => by cases e), (fun _ _ => rfl), (fun a a2 b e => by cases e), .inr (by simp), .inl rfl, fun b hb => ?_⟩, fun b hb => ?_, ((Chg.refl _ _).alloc _).alloc _⟩
  · rw [World.size_alloc] at hb; exact hb
  · rcases hb with rfl | rfl <;> simp <;> omega
  · omega

set_option maxRecDepth 100000 in
theorem goes_any (w : World) (F : Nat → Prop) (g m n : Nat) (f : ByteArray → Option Nat) (s : LS) (h : LnA w F g m n f s) (a : ByteArray) (ha : a.size ≤ maxLen) :
    Calls Try.prog 30 #[.map (some m), .string a] w fun e w2 => w = w2 ∧ ((e = .returned (.pointer none) ∧ goR s a = none) ∨ ∃ b r, e = .returned (.pointer (some ⟨b, 0, none⟩)) ∧ f a = some b ∧ s a = some r ∧ goR s a = some r) := by
  cases hf : f a with
  | none =>
    have q1 := h.hm.lookS Try.underlying60 (z := .pointer none) (by kernel_rfl) ha (u := none) (by rw [hf]; rfl)
    have Hr : Hid (goR s a = none) := by show _ = _; unfold goR; rw [h.no a hf]; rfl
    clear hf h
    go_enter Try.func30, Try.ntmps30
    go_wp2_with fail
    go_ret
    exact ⟨rfl, .inl ⟨rfl, Hr.out⟩⟩
  | some b =>
    have q1 := h.hm.lookS Try.underlying60 (z := .pointer none) (by kernel_rfl) ha (u := some (ptr b)) (by rw [hf]; rfl)
    obtain ⟨r, hs, hb, hF⟩ := h.recs a b hf
    simp only [ptr, Option.getD] at q1
    have c3 : w.cell? ⟨b, 3, none⟩ = some (.bool r.ended) := hb.cell 3
    have bl := hb.lt
    have Hf := Lib.hid hf
    have Hs := Lib.hid hs
    cases he : r.ended with
    | true =>
      rw [he] at c3
      have Hr : Hid (goR s a = none) := by show _ = _; unfold goR; rw [hs]; simp [Option.filter, he]
      clear hf hs hb hF he h
      go_enter Try.func30, Try.ntmps30
      go_wp2_with fail
      go_ret
      exact ⟨rfl, .inl ⟨rfl, Hr.out⟩⟩
    | false =>
      rw [he] at c3
      have Hr : Hid (goR s a = some r) := by show _ = _; unfold goR; rw [hs]; simp [Option.filter, he]
      clear hf hs hb hF he h
      go_enter Try.func30, Try.ntmps30
      go_wp2_with fail
      go_ret
      exact ⟨rfl, .inr ⟨b, r, rfl, rfl, Hs.out, Hr.out⟩⟩

def movedE (s : LS) (a : ByteArray) (node epoch : Int) : Bool × LS := match goR s a with | some r => if r.epoch ≤ epoch then (true, setR s a { r with node := node, epoch := epoch }) else (false, s) | none => (false, s)
def endedE (s : LS) (a : ByteArray) : Bool × LS := match goR s a with | some r => (true, setR s a { r with ended := true }) | none => (false, s)
def againE (s : LS) (a : ByteArray) (node epoch : Int) : Bool × LS := match goR s a with | some r => if r.epoch < epoch then (true, setR s a { r with node := node, epoch := epoch, times := r.times + 1 }) else (false, s) | none => (false, s)

set_option maxRecDepth 100000 in
set_option maxHeartbeats 1000000 in
theorem linMoved_any (w : World) (F : Nat → Prop) (g n : Nat) (s : LS) (h : Ln w F g n s) (a : ByteArray) (ha : a.size ≤ maxLen) (node epoch : Int) :
    Calls Try.prog 20 #[.pointer (some ⟨g, 0, none⟩), .string a, .int .i64 node, .int .i64 epoch] w (LnPost w F g n (.bool (movedE s a node epoch).1) (movedE s a node epoch).2) := by
  obtain ⟨m, f, h⟩ := h
  have hG := goes_any w F g m n f s h a ha
  have c0 : w.cell? ⟨g, 0, none⟩ = some (.map (some m)) := h.hb.cell 0
  have gl := h.hb.lt
  have H := Lib.hid h
  clear h
  go_enter Try.func20, Try.ntmps20
  go_wp2_with fail
  refine hG.mono ?_
  clear hG
  rintro e w2 ⟨rfl, ⟨rfl, hr⟩ | ⟨b, r, rfl, hf, hs, hr⟩⟩
  · have he : movedE s a node epoch = (false, s) := by unfold movedE; rw [hr]
    have He := Lib.hid he
    clear he hr
    go_wp2_with fail
    go_ret
    rw [He.out]
    exact LnPost.stay ⟨m, f, H.out⟩ (Chg.refl _ _)
  · obtain ⟨r', hs', hb, hF⟩ := H.out.recs a b hf
    obtain rfl : r = r' := by rw [hs] at hs'; exact Option.some.inj hs'
    have b0 : w.cell? ⟨b, 0, none⟩ = some (.int .i64 r.node) := hb.cell 0
    have b1 : w.cell? ⟨b, 1, none⟩ = some (.int .i64 r.epoch) := hb.cell 1
    have f0 := hb.frozen 0
    have f1 := hb.frozen 1
    have bl := hb.lt
    have Hf := Lib.hid hf
    have Hb := Lib.hid hb
    by_cases hle : r.epoch ≤ epoch
    · have he : movedE s a node epoch = (true, setR s a { r with node := node, epoch := epoch }) := by unfold movedE; rw [hr]; dsimp only; rw [if_pos hle]
      have He := Lib.hid he
      clear he hr hf hs hs' hb
      go_wp2_with fail
      go_ret
      have hb2 := (Hb.out.put 0 (.int .i64 node)).put 1 (.int .i64 epoch)
      simp only [cellR, List.setIfInBounds_toArray, List.set_cons_succ, List.set_cons_zero] at hb2
      have hc : Chg (fun c => c = b) w ((w.setCell ⟨b, 0, none⟩ (.int .i64 node)).setCell ⟨b, 1, none⟩ (.int .i64 epoch)) := ((Chg.refl _ _).set1 0 _).set1 1 _
      rw [He.out]
      exact ⟨rfl, F, n, ⟨m, f, H.out.set Hf.out (r := { r with node := node, epoch := epoch }) hb2 hc⟩, Nat.le_refl _, fun _ h => .inl h, hc.mono fun c e => e ▸ hF⟩
    · have he : movedE s a node epoch = (false, s) := by unfold movedE; rw [hr]; dsimp only; rw [if_neg hle]
      have He := Lib.hid he
      have hlt : epoch < r.epoch := by omega
      clear he hr hf hs hs' hb hle
      go_wp2_with fail
      go_ret
      rw [He.out]
      exact LnPost.stay ⟨m, f, H.out⟩ (Chg.refl _ _)

set_option maxRecDepth 100000 in
set_option maxHeartbeats 1000000 in
theorem linEnded_any (w : World) (F : Nat → Prop) (g n : Nat) (s : LS) (h : Ln w F g n s) (a : ByteArray) (ha : a.size ≤ maxLen) :
    Calls Try.prog 9 #[.pointer (some ⟨g, 0, none⟩), .string a] w (LnPost w F g n (.bool (endedE s a).1) (endedE s a).2) := by
  obtain ⟨m, f, h⟩ := h
  have hG := goes_any w F g m n f s h a ha
  have c0 : w.cell? ⟨g, 0, none⟩ = some (.map (some m)) := h.hb.cell 0
  have gl := h.hb.lt
  have H := Lib.hid h
  clear h
  go_enter Try.func9, Try.ntmps9
  go_wp2_with fail
  refine hG.mono ?_
  clear hG
  rintro e w2 ⟨rfl, ⟨rfl, hr⟩ | ⟨b, r, rfl, hf, hs, hr⟩⟩
  · have he : endedE s a = (false, s) := by unfold endedE; rw [hr]
    have He := Lib.hid he
    clear he hr
    go_wp2_with fail
    go_ret
    rw [He.out]
    exact LnPost.stay ⟨m, f, H.out⟩ (Chg.refl _ _)
  · obtain ⟨r', hs', hb, hF⟩ := H.out.recs a b hf
    obtain rfl : r = r' := by rw [hs] at hs'; exact Option.some.inj hs'
    have b3 : w.cell? ⟨b, 3, none⟩ = some (.bool r.ended) := hb.cell 3
    have f3 := hb.frozen 3
    have bl := hb.lt
    have Hf := Lib.hid hf
    have Hb := Lib.hid hb
    have he : endedE s a = (true, setR s a { r with ended := true }) := by unfold endedE; rw [hr]
    have He := Lib.hid he
    clear he hr hf hs hs' hb
    go_wp2_with fail
    go_ret
    have hb2 := Hb.out.put 3 (.bool true)
    simp only [cellR, List.setIfInBounds_toArray, List.set_cons_succ, List.set_cons_zero] at hb2
    have hc : Chg (fun c => c = b) w (w.setCell ⟨b, 3, none⟩ (.bool true)) := (Chg.refl _ _).set1 3 _
    rw [He.out]
    exact ⟨rfl, F, n, ⟨m, f, H.out.set Hf.out (r := { r with ended := true }) hb2 hc⟩, Nat.le_refl _, fun _ h => .inl h, hc.mono fun c e => e ▸ hF⟩

set_option maxRecDepth 100000 in
set_option maxHeartbeats 1000000 in
theorem linAgain_any (w : World) (F : Nat → Prop) (g n : Nat) (s : LS) (h : Ln w F g n s) (hT : ∀ a r, s a = some r → 0 ≤ r.times ∧ r.times ≤ 1000000) (a : ByteArray) (ha : a.size ≤ maxLen) (node epoch : Int) :
    Calls Try.prog 10 #[.pointer (some ⟨g, 0, none⟩), .string a, .int .i64 node, .int .i64 epoch] w (LnPost w F g n (.bool (againE s a node epoch).1) (againE s a node epoch).2) := by
  obtain ⟨m, f, h⟩ := h
  have hG := goes_any w F g m n f s h a ha
  have c0 : w.cell? ⟨g, 0, none⟩ = some (.map (some m)) := h.hb.cell 0
  have gl := h.hb.lt
  have H := Lib.hid h
  clear h
  go_enter Try.func10, Try.ntmps10
  go_wp2_with fail
  refine hG.mono ?_
  clear hG
  rintro e w2 ⟨rfl, ⟨rfl, hr⟩ | ⟨b, r, rfl, hf, hs, hr⟩⟩
  · have he : againE s a node epoch = (false, s) := by unfold againE; rw [hr]
    have He := Lib.hid he
    clear he hr
    go_wp2_with fail
    go_ret
    rw [He.out]
    exact LnPost.stay ⟨m, f, H.out⟩ (Chg.refl _ _)
  · obtain ⟨r', hs', hb, hF⟩ := H.out.recs a b hf
    obtain rfl : r = r' := by rw [hs] at hs'; exact Option.some.inj hs'
    have b0 : w.cell? ⟨b, 0, none⟩ = some (.int .i64 r.node) := hb.cell 0
    have b1 : w.cell? ⟨b, 1, none⟩ = some (.int .i64 r.epoch) := hb.cell 1
    have b2 : w.cell? ⟨b, 2, none⟩ = some (.int .i64 r.times) := hb.cell 2
    have f0 := hb.frozen 0
    have f1 := hb.frozen 1
    have f2 := hb.frozen 2
    have bl := hb.lt
    have Hf := Lib.hid hf
    have Hb := Lib.hid hb
    have hti := hT a r hs
    by_cases hle : r.epoch < epoch
    · have he : againE s a node epoch = (true, setR s a { r with node := node, epoch := epoch, times := r.times + 1 }) := by unfold againE; rw [hr]; dsimp only; rw [if_pos hle]
      have He := Lib.hid he
      have hwr : IntKind.i64.wrap (r.times + 1) = r.times + 1 := by rw [IntKind.wrap_i64]; omega
      clear he hr hf hs hs' hb hT
      go_wp2_with fail
      go_ret
      have hb2 := ((Hb.out.put 0 (.int .i64 node)).put 1 (.int .i64 epoch)).put 2 (.int .i64 (r.times + 1))
      simp only [cellR, List.setIfInBounds_toArray, List.set_cons_succ, List.set_cons_zero] at hb2
      have hc : Chg (fun c => c = b) w (((w.setCell ⟨b, 0, none⟩ (.int .i64 node)).setCell ⟨b, 1, none⟩ (.int .i64 epoch)).setCell ⟨b, 2, none⟩ (.int .i64 (r.times + 1))) := (((Chg.refl _ _).set1 0 _).set1 1 _).set1 2 _
      rw [He.out]
      exact ⟨rfl, F, n, ⟨m, f, H.out.set Hf.out (r := { r with node := node, epoch := epoch, times := r.times + 1 }) hb2 hc⟩, Nat.le_refl _, fun _ h => .inl h, hc.mono fun c e => e ▸ hF⟩
    · have he : againE s a node epoch = (false, s) := by unfold againE; rw [hr]; dsimp only; rw [if_neg hle]
      have He := Lib.hid he
      have hlt : epoch ≤ r.epoch := by omega
      clear he hr hf hs hs' hb hle hT
      go_wp2_with fail
      go_ret
      rw [He.out]
      exact LnPost.stay ⟨m, f, H.out⟩ (Chg.refl _ _)

def heldV (s : LS) (a : ByteArray) : Value := match goR s a with | some r => .tuple #[.agg #[.string a, .int .i64 r.node, .int .i64 r.epoch], .bool true] | none => .tuple #[.agg #[.string ByteArray.empty, .int .i64 0, .int .i64 0], .bool false]
def timesR (s : LS) (a : ByteArray) : Int := match s a with | some r => r.times | none => 0

set_option maxRecDepth 100000 in
theorem linTimes_any (w : World) (F : Nat → Prop) (g n : Nat) (s : LS) (h : Ln w F g n s) (a : ByteArray) (ha : a.size ≤ maxLen) :
    Calls Try.prog 11 #[.pointer (some ⟨g, 0, none⟩), .string a] w fun e w2 => e = .returned (.int .i64 (timesR s a)) ∧ w = w2 := by
  obtain ⟨m, f, h⟩ := h
  have c0 : w.cell? ⟨g, 0, none⟩ = some (.map (some m)) := h.hb.cell 0
  cases hf : f a with
  | none =>
    have q1 := h.hm.lookS Try.underlying60 (z := .pointer none) (by kernel_rfl) ha (u := none) (by rw [hf]; rfl)
    have Hr : Hid (timesR s a = 0) := by show _ = _; unfold timesR; rw [h.no a hf]
    clear hf h
    go_enter Try.func11, Try.ntmps11
    go_wp2_with fail
    go_ret
    exact ⟨by rw [Hr.out]; rfl, rfl⟩
  | some b =>
    have q1 := h.hm.lookS Try.underlying60 (z := .pointer none) (by kernel_rfl) ha (u := some (ptr b)) (by rw [hf]; rfl)
    obtain ⟨r, hs, hb, hF⟩ := h.recs a b hf
    simp only [ptr, Option.getD] at q1
    have c2 : w.cell? ⟨b, 2, none⟩ = some (.int .i64 r.times) := hb.cell 2
    have Hr : Hid (timesR s a = r.times) := by show _ = _; unfold timesR; rw [hs]
    clear hf hs hb hF h
    go_enter Try.func11, Try.ntmps11
    go_wp2_with fail
    go_ret
    exact ⟨by rw [Hr.out]; rfl, rfl⟩

end Go.Proofs.Ytbkjpeelabdkfaa
