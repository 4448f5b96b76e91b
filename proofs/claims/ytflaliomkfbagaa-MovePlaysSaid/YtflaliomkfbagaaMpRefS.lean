/-
  gleanerref14.Giver and Taker: what they hold, and where it lies.
-/
import Derived.Test.YtflaliomkfbagaaMvBack
import Derived.Test.YtflaliomkfbagaaMpSmall
import Derived.Test.YtflaliomkfbagaaMpNo
import Derived.Test.YtflaliomkfbagaaMpTk
namespace Go.Proofs.Ytflaliomkfbagaa
section
open Go.RowKit
set_option linter.unusedVariables false
set_option linter.unusedSimpArgs false

theorem OwnR.apart2 {K K2 : RowKind Try.prog} {w : World} {b1 b2 n m : Nat} {v u : Value} {xs ys : List Value} (h : OwnR K w b1 v n xs) (h2 : OwnR K2 w b2 u m ys) (hne : K.e ≠ K2.e) : ∀ b, v.ownBlock = some b → u.ownBlock ≠ some b := by
  intro b hb hu
  rcases h2.2 with ⟨rfl, _⟩ | ⟨g2, cap, cur, rfl, _, hh, _⟩
  · simp [Value.ownBlock] at hu
  · have e : g2 = b := by simpa [Value.ownBlock] using hu
    subst e
    exact h.apart hh hne hb
/-- The blocks of an object with two rows. -/
def F2 (g : Nat) (v v2 : Value) (b : Nat) : Prop := b = g ∨ v.ownBlock = some b ∨ v2.ownBlock = some b

abbrev rkRg : RowKind Try.prog where
  t := 77
  e := 113
  z := .agg #[.string ⟨#[]⟩, .int .i64 0, .int .i64 0, .int .i64 0]
  size := 4
  bytes := 40
  ht := Try.underlying77
  info := by kernel_rfl
  hz := rfl
  hs := by decide
  hb := by decide
/-- An offer that stands, with its name. -/
structure Oe where
  id : ByteArray
  o : Of
def cellRg (x : Oe) : List Value := [.string x.id, .int .i64 x.o.to, .int .i64 x.o.epoch, .int .i64 x.o.num]
theorem cellRg_len (x : Oe) : (cellRg x).length = 4 := rfl
theorem cellRg_one (x : Oe) : ∀ u ∈ cellRg x, u.oneCell' = true := by
  intro u hu
  simp only [cellRg, List.mem_cons, List.not_mem_nil, or_false] at hu
  rcases hu with rfl | rfl | rfl | rfl <;> rfl
def Rgvs (L : List Oe) : List Value := L.flatMap cellRg
/-- The document's giver. -/
structure RgS where
  node : Int
  H : List ByteArray
  O : List Oe
  no : Int
structure RgAt (w : World) (g : Nat) (r : RgS) (A : Option Addr) (n c : Nat) (A2 : Option Addr) (n2 c2 : Nat) : Prop where
  hn : Hid (n = r.H.length)
  hn2 : Hid (n2 = r.O.length)
  hb : Blk w g 79 #[.int .i64 r.node, .slice A n c, .slice A2 n2 c2, .int .i64 r.no]
  hH : OwnR rkI w 0 (.slice A n c) n (sv r.H)
  hO : OwnR rkRg w 0 (.slice A2 n2 c2) n2 (Rgvs r.O)
section
variable {w w2 : World} {g : Nat} {r : RgS} {A A2 : Option Addr} {n c n2 c2 : Nat}
theorem RgAt.chg {S : Nat → Prop} (h : RgAt w g r A n c A2 n2 c2) (hc : Chg S w w2) (h0 : ¬ S g) (h1 : ∀ b, (Value.slice A n c).ownBlock = some b → ¬ S b) (h2 : ∀ b, (Value.slice A2 n2 c2).ownBlock = some b → ¬ S b) : RgAt w2 g r A n c A2 n2 c2 :=
  ⟨h.hn, h.hn2, h.hb.chg hc h0, h.hH.chg hc h1, h.hO.chg hc h2⟩
theorem RgAt.non (h : RgAt w g r A n c A2 n2 c2) (hc : Chg Non w w2) : RgAt w2 g r A n c A2 n2 c2 := h.chg hc id (fun _ _ => id) (fun _ _ => id)
theorem RgAt.gH (h : RgAt w g r A n c A2 n2 c2) : ∀ b, (Value.slice A n c).ownBlock = some b → b ≠ g := fun b hb e => h.hH.apart h.hb (by decide) (e ▸ hb)
theorem RgAt.gO (h : RgAt w g r A n c A2 n2 c2) : ∀ b, (Value.slice A2 n2 c2).ownBlock = some b → b ≠ g := fun b hb e => h.hO.apart h.hb (by decide) (e ▸ hb)
theorem RgAt.lt (h : RgAt w g r A n c A2 n2 c2) : ∀ b, F2 g (.slice A n c) (.slice A2 n2 c2) b → b < w.heap.size := by
  rintro b (rfl | hb | hb)
  · exact h.hb.lt
  · exact (h.hH.lt hb).2
  · exact (h.hO.lt hb).2
end
def Rg (w : World) (F : Nat → Prop) (g : Nat) (r : RgS) : Prop := ∃ A n c A2 n2 c2, RgAt w g r A n c A2 n2 c2 ∧ F = F2 g (.slice A n c) (.slice A2 n2 c2)
theorem Rg.chg {w w2 : World} {F S : Nat → Prop} {g : Nat} {r : RgS} (h : Rg w F g r) (hc : Chg S w w2) (hs : ∀ b, F b → ¬ S b) : Rg w2 F g r := by
  obtain ⟨A, n, c, A2, n2, c2, h, rfl⟩ := h
  exact ⟨A, n, c, A2, n2, c2, h.chg hc (hs g (.inl rfl)) (fun b hb => hs b (.inr (.inl hb))) (fun b hb => hs b (.inr (.inr hb))), rfl⟩
theorem Rg.non {w w2 : World} {F : Nat → Prop} {g : Nat} {r : RgS} (h : Rg w F g r) (hc : Chg Non w w2) : Rg w2 F g r := h.chg hc fun _ _ => id
theorem Rg.lt {w : World} {F : Nat → Prop} {g : Nat} {r : RgS} (h : Rg w F g r) : ∀ b, F b → b < w.heap.size := by
  obtain ⟨A, n, c, A2, n2, c2, h, rfl⟩ := h
  exact h.lt
/-- A row is put in the place of one: what is known then. -/
structure RgSwap (w w7 : World) (g : Nat) (r : RgS) (v v2 u u2 : Value) (A : Option Addr) (n c : Nat) (A2 : Option Addr) (n2 c2 : Nat) : Prop where
  at_ : RgAt w7 g r A n c A2 n2 c2
  sub : ∀ b, F2 g u u2 b → F2 g v v2 b ∨ w.heap.size ≤ b
  chg : Chg (F2 g v v2) w w7
theorem RgAt.swapH {w w6 : World} {g : Nat} {r : RgS} {A A2 B : Option Addr} {n c n2 c2 m d : Nat} {S : Nat → Prop} {R : List ByteArray} (h : RgAt w g r A n c A2 n2 c2) (hc : Chg S w w6) (hS : ∀ b, S b → (Value.slice A n c).ownBlock = some b)
    (o6 : OwnR rkI w6 0 (.slice B m d) m (sv R)) (hm : m = R.length) (hv : ∀ b, (Value.slice B m d).ownBlock = some b → (Value.slice A n c).ownBlock = some b ∨ w.heap.size ≤ b) :
    RgSwap w (w6.setCell ⟨g, 1, none⟩ (.slice B m d)) g { r with H := R } (.slice A n c) (.slice A2 n2 c2) (.slice B m d) (.slice A2 n2 c2) B m d A2 n2 c2 := by
  have hb6 := h.hb.chg hc (fun e => h.gH _ (hS _ e) rfl)
  have hO6 := h.hO.chg hc (fun b hb e => (h.hH.apart2 h.hO (by decide)) b (hS b e) hb)
  have hSt : Chg (fun b => b = g) w6 (w6.setCell ⟨g, 1, none⟩ (.slice B m d)) := (Chg.refl _ w6).set1 1 _
  have hb7 := hb6.put 1 (.slice B m d)
  simp only [List.setIfInBounds_toArray, List.set_cons_succ, List.set_cons_zero] at hb7
  refine ⟨⟨hm, h.hn2, hb7, o6.chg hSt (fun b hb e => o6.apart hb6 (by decide) (by rw [← show b = g from e]; exact hb)), hO6.chg hSt h.gO⟩, ?_, ?_⟩
  · rintro b (rfl | hb | hb)
    · exact .inl (.inl rfl)
    · exact (hv b hb).imp (fun h => .inr (.inl h)) id
    · exact .inl (.inr (.inr hb))
  · exact Chg.setCell (p := ⟨g, 1, none⟩) (hc.mono (S2 := F2 g (.slice A n c) (.slice A2 n2 c2)) (fun b e => Or.inr (Or.inl (hS b e)))) (Or.inl (Or.inl rfl)) _
theorem RgAt.swapO {w w6 : World} {g : Nat} {r : RgS} {A A2 B : Option Addr} {n c n2 c2 m d : Nat} {S : Nat → Prop} {R : List Oe} (h : RgAt w g r A n c A2 n2 c2) (hc : Chg S w w6) (hS : ∀ b, S b → (Value.slice A2 n2 c2).ownBlock = some b)
    (o6 : OwnR rkRg w6 0 (.slice B m d) m (Rgvs R)) (hm : m = R.length) (hv : ∀ b, (Value.slice B m d).ownBlock = some b → (Value.slice A2 n2 c2).ownBlock = some b ∨ w.heap.size ≤ b) :
    RgSwap w (w6.setCell ⟨g, 2, none⟩ (.slice B m d)) g { r with O := R } (.slice A n c) (.slice A2 n2 c2) (.slice A n c) (.slice B m d) A n c B m d := by
  have hb6 := h.hb.chg hc (fun e => h.gO _ (hS _ e) rfl)
  have hH6 := h.hH.chg hc (fun b hb e => (h.hH.apart2 h.hO (by decide)) b hb (hS b e))
  have hSt : Chg (fun b => b = g) w6 (w6.setCell ⟨g, 2, none⟩ (.slice B m d)) := (Chg.refl _ w6).set1 2 _
  have hb7 := hb6.put 2 (.slice B m d)
  simp only [List.setIfInBounds_toArray, List.set_cons_succ, List.set_cons_zero] at hb7
  refine ⟨⟨h.hn, hm, hb7, hH6.chg hSt h.gH, o6.chg hSt (fun b hb e => o6.apart hb6 (by decide) (by rw [← show b = g from e]; exact hb))⟩, ?_, ?_⟩
  · rintro b (rfl | hb | hb)
    · exact .inl (.inl rfl)
    · exact .inl (.inr (.inl hb))
    · exact (hv b hb).imp (fun h => .inr (.inr h)) id
  · exact Chg.setCell (p := ⟨g, 2, none⟩) (hc.mono (S2 := F2 g (.slice A n c) (.slice A2 n2 c2)) (fun b e => Or.inr (Or.inr (hS b e)))) (Or.inl (Or.inl rfl)) _
theorem RgSwap.ref {w w7 : World} {g : Nat} {r : RgS} {v v2 : Value} {A A2 : Option Addr} {n c n2 c2 : Nat} (h : RgSwap w w7 g r v v2 (.slice A n c) (.slice A2 n2 c2) A n c A2 n2 c2) : ∃ F3, Rg w7 F3 g r ∧ (∀ b, F3 b → F2 g v v2 b ∨ w.heap.size ≤ b) ∧ Chg (F2 g v v2) w w7 :=
  ⟨_, ⟨A, n, c, A2, n2, c2, h.at_, rfl⟩, h.sub, h.chg⟩
/-- What a call leaves: the result, the state, its blocks. -/
def RgPost (w : World) (F : Nat → Prop) (g : Nat) (v : Value) (r : RgS) (e : Ending) (w2 : World) : Prop :=
  e = .returned v ∧ ∃ F3, Rg w2 F3 g r ∧ (∀ b, F3 b → F b ∨ w.heap.size ≤ b) ∧ Chg F w w2
theorem RgPost.stay {w w2 : World} {F : Nat → Prop} {g : Nat} {v : Value} {r : RgS} (h : Rg w F g r) (hc : Chg Non w w2) : RgPost w F g v r (.returned v) w2 := ⟨rfl, F, h.non hc, fun b h => .inl h, hc.of_non⟩

abbrev rkRk : RowKind Try.prog where
  t := 81
  e := 119
  z := .agg #[.string ⟨#[]⟩, .int .i64 0, .int .i64 0, .int .i64 0]
  size := 4
  bytes := 40
  ht := Try.underlying81
  info := by kernel_rfl
  hz := rfl
  hs := by decide
  hb := by decide
/-- An answer. -/
structure Ae where
  id : ByteArray
  ep : Int
  num : Int
  kind : Int
def cellRk (x : Ae) : List Value := [.string x.id, .int .i64 x.ep, .int .i64 x.num, .int .i64 x.kind]
theorem cellRk_len (x : Ae) : (cellRk x).length = 4 := rfl
theorem cellRk_one (x : Ae) : ∀ u ∈ cellRk x, u.oneCell' = true := by
  intro u hu
  simp only [cellRk, List.mem_cons, List.not_mem_nil, or_false] at hu
  rcases hu with rfl | rfl | rfl | rfl <;> rfl
def Rkvs (L : List Ae) : List Value := L.flatMap cellRk
/-- The document's taker. -/
structure RkS where
  node : Int
  room : Int
  H : List ByteArray
  O : List Ae
structure RkAt (w : World) (g : Nat) (r : RkS) (A : Option Addr) (n c : Nat) (A2 : Option Addr) (n2 c2 : Nat) : Prop where
  hn : Hid (n = r.H.length)
  hn2 : Hid (n2 = r.O.length)
  hb : Blk w g 83 #[.int .i64 r.node, .int .i64 r.room, .slice A n c, .slice A2 n2 c2]
  hH : OwnR rkI w 0 (.slice A n c) n (sv r.H)
  hO : OwnR rkRk w 0 (.slice A2 n2 c2) n2 (Rkvs r.O)
section
variable {w w2 : World} {g : Nat} {r : RkS} {A A2 : Option Addr} {n c n2 c2 : Nat}
theorem RkAt.chg {S : Nat → Prop} (h : RkAt w g r A n c A2 n2 c2) (hc : Chg S w w2) (h0 : ¬ S g) (h1 : ∀ b, (Value.slice A n c).ownBlock = some b → ¬ S b) (h2 : ∀ b, (Value.slice A2 n2 c2).ownBlock = some b → ¬ S b) : RkAt w2 g r A n c A2 n2 c2 :=
  ⟨h.hn, h.hn2, h.hb.chg hc h0, h.hH.chg hc h1, h.hO.chg hc h2⟩
theorem RkAt.non (h : RkAt w g r A n c A2 n2 c2) (hc : Chg Non w w2) : RkAt w2 g r A n c A2 n2 c2 := h.chg hc id (fun _ _ => id) (fun _ _ => id)
theorem RkAt.gH (h : RkAt w g r A n c A2 n2 c2) : ∀ b, (Value.slice A n c).ownBlock = some b → b ≠ g := fun b hb e => h.hH.apart h.hb (by decide) (e ▸ hb)
theorem RkAt.gO (h : RkAt w g r A n c A2 n2 c2) : ∀ b, (Value.slice A2 n2 c2).ownBlock = some b → b ≠ g := fun b hb e => h.hO.apart h.hb (by decide) (e ▸ hb)
theorem RkAt.lt (h : RkAt w g r A n c A2 n2 c2) : ∀ b, F2 g (.slice A n c) (.slice A2 n2 c2) b → b < w.heap.size := by
  rintro b (rfl | hb | hb)
  · exact h.hb.lt
  · exact (h.hH.lt hb).2
  · exact (h.hO.lt hb).2
end
def Rk (w : World) (F : Nat → Prop) (g : Nat) (r : RkS) : Prop := ∃ A n c A2 n2 c2, RkAt w g r A n c A2 n2 c2 ∧ F = F2 g (.slice A n c) (.slice A2 n2 c2)
theorem Rk.chg {w w2 : World} {F S : Nat → Prop} {g : Nat} {r : RkS} (h : Rk w F g r) (hc : Chg S w w2) (hs : ∀ b, F b → ¬ S b) : Rk w2 F g r := by
  obtain ⟨A, n, c, A2, n2, c2, h, rfl⟩ := h
  exact ⟨A, n, c, A2, n2, c2, h.chg hc (hs g (.inl rfl)) (fun b hb => hs b (.inr (.inl hb))) (fun b hb => hs b (.inr (.inr hb))), rfl⟩
theorem Rk.non {w w2 : World} {F : Nat → Prop} {g : Nat} {r : RkS} (h : Rk w F g r) (hc : Chg Non w w2) : Rk w2 F g r := h.chg hc fun _ _ => id
theorem Rk.lt {w : World} {F : Nat → Prop} {g : Nat} {r : RkS} (h : Rk w F g r) : ∀ b, F b → b < w.heap.size := by
  obtain ⟨A, n, c, A2, n2, c2, h, rfl⟩ := h
  exact h.lt
/-- A row is put in the place of one: what is known then. -/
structure RkSwap (w w7 : World) (g : Nat) (r : RkS) (v v2 u u2 : Value) (A : Option Addr) (n c : Nat) (A2 : Option Addr) (n2 c2 : Nat) : Prop where
  at_ : RkAt w7 g r A n c A2 n2 c2
  sub : ∀ b, F2 g u u2 b → F2 g v v2 b ∨ w.heap.size ≤ b
  chg : Chg (F2 g v v2) w w7
theorem RkAt.swapH {w w6 : World} {g : Nat} {r : RkS} {A A2 B : Option Addr} {n c n2 c2 m d : Nat} {S : Nat → Prop} {R : List ByteArray} (h : RkAt w g r A n c A2 n2 c2) (hc : Chg S w w6) (hS : ∀ b, S b → (Value.slice A n c).ownBlock = some b)
    (o6 : OwnR rkI w6 0 (.slice B m d) m (sv R)) (hm : m = R.length) (hv : ∀ b, (Value.slice B m d).ownBlock = some b → (Value.slice A n c).ownBlock = some b ∨ w.heap.size ≤ b) :
    RkSwap w (w6.setCell ⟨g, 2, none⟩ (.slice B m d)) g { r with H := R } (.slice A n c) (.slice A2 n2 c2) (.slice B m d) (.slice A2 n2 c2) B m d A2 n2 c2 := by
  have hb6 := h.hb.chg hc (fun e => h.gH _ (hS _ e) rfl)
  have hO6 := h.hO.chg hc (fun b hb e => (h.hH.apart2 h.hO (by decide)) b (hS b e) hb)
  have hSt : Chg (fun b => b = g) w6 (w6.setCell ⟨g, 2, none⟩ (.slice B m d)) := (Chg.refl _ w6).set1 2 _
  have hb7 := hb6.put 2 (.slice B m d)
  simp only [List.setIfInBounds_toArray, List.set_cons_succ, List.set_cons_zero] at hb7
  refine ⟨⟨hm, h.hn2, hb7, o6.chg hSt (fun b hb e => o6.apart hb6 (by decide) (by rw [← show b = g from e]; exact hb)), hO6.chg hSt h.gO⟩, ?_, ?_⟩
  · rintro b (rfl | hb | hb)
    · exact .inl (.inl rfl)
    · exact (hv b hb).imp (fun h => .inr (.inl h)) id
    · exact .inl (.inr (.inr hb))
  · exact Chg.setCell (p := ⟨g, 2, none⟩) (hc.mono (S2 := F2 g (.slice A n c) (.slice A2 n2 c2)) (fun b e => Or.inr (Or.inl (hS b e)))) (Or.inl (Or.inl rfl)) _
theorem RkAt.swapO {w w6 : World} {g : Nat} {r : RkS} {A A2 B : Option Addr} {n c n2 c2 m d : Nat} {S : Nat → Prop} {R : List Ae} (h : RkAt w g r A n c A2 n2 c2) (hc : Chg S w w6) (hS : ∀ b, S b → (Value.slice A2 n2 c2).ownBlock = some b)
    (o6 : OwnR rkRk w6 0 (.slice B m d) m (Rkvs R)) (hm : m = R.length) (hv : ∀ b, (Value.slice B m d).ownBlock = some b → (Value.slice A2 n2 c2).ownBlock = some b ∨ w.heap.size ≤ b) :
    RkSwap w (w6.setCell ⟨g, 3, none⟩ (.slice B m d)) g { r with O := R } (.slice A n c) (.slice A2 n2 c2) (.slice A n c) (.slice B m d) A n c B m d := by
  have hb6 := h.hb.chg hc (fun e => h.gO _ (hS _ e) rfl)
  have hH6 := h.hH.chg hc (fun b hb e => (h.hH.apart2 h.hO (by decide)) b hb (hS b e))
  have hSt : Chg (fun b => b = g) w6 (w6.setCell ⟨g, 3, none⟩ (.slice B m d)) := (Chg.refl _ w6).set1 3 _
  have hb7 := hb6.put 3 (.slice B m d)
  simp only [List.setIfInBounds_toArray, List.set_cons_succ, List.set_cons_zero] at hb7
  refine ⟨⟨h.hn, hm, hb7, hH6.chg hSt h.gH, o6.chg hSt (fun b hb e => o6.apart hb6 (by decide) (by rw [← show b = g from e]; exact hb))⟩, ?_, ?_⟩
  · rintro b (rfl | hb | hb)
    · exact .inl (.inl rfl)
    · exact .inl (.inr (.inl hb))
    · exact (hv b hb).imp (fun h => .inr (.inr h)) id
  · exact Chg.setCell (p := ⟨g, 3, none⟩) (hc.mono (S2 := F2 g (.slice A n c) (.slice A2 n2 c2)) (fun b e => Or.inr (Or.inr (hS b e)))) (Or.inl (Or.inl rfl)) _
theorem RkSwap.ref {w w7 : World} {g : Nat} {r : RkS} {v v2 : Value} {A A2 : Option Addr} {n c n2 c2 : Nat} (h : RkSwap w w7 g r v v2 (.slice A n c) (.slice A2 n2 c2) A n c A2 n2 c2) : ∃ F3, Rk w7 F3 g r ∧ (∀ b, F3 b → F2 g v v2 b ∨ w.heap.size ≤ b) ∧ Chg (F2 g v v2) w w7 :=
  ⟨_, ⟨A, n, c, A2, n2, c2, h.at_, rfl⟩, h.sub, h.chg⟩
/-- What a call leaves: the result, the state, its blocks. -/
def RkPost (w : World) (F : Nat → Prop) (g : Nat) (v : Value) (r : RkS) (e : Ending) (w2 : World) : Prop :=
  e = .returned v ∧ ∃ F3, Rk w2 F3 g r ∧ (∀ b, F3 b → F b ∨ w.heap.size ≤ b) ∧ Chg F w w2
theorem RkPost.stay {w w2 : World} {F : Nat → Prop} {g : Nat} {v : Value} {r : RkS} (h : Rk w F g r) (hc : Chg Non w w2) : RkPost w F g v r (.returned v) w2 := ⟨rfl, F, h.non hc, fun b h => .inl h, hc.of_non⟩
end

section
open Go.RowKit
set_option linter.unusedVariables false
set_option linter.unusedSimpArgs false

def pO (O : List Oe) (a : ByteArray) : Option Nat := O.findIdx? fun x => decide (x.id = a)
def iO (O : List Oe) (a : ByteArray) : Int := match pO O a with | some k => (k : Int) | none => -1
def offO (O : List Oe) (a : ByteArray) : Option Of := (O.find? fun x => decide (x.id = a)).map (·.o)
theorem pO_at {L : List Oe} {a : ByteArray} {k : Nat} {x : Oe} (hno : ∀ j y, j < k → L[j]? = some y → y.id ≠ a) (hx : L[k]? = some x) (he : x.id = a) : pO L a = some k := by
  unfold pO
  rw [List.findIdx?_eq_some_iff_getElem]
  obtain ⟨hk, hx2⟩ := List.getElem?_eq_some_iff.1 hx
  refine ⟨hk, by rw [hx2]; exact decide_eq_true he, fun j hj => ?_⟩
  have := hno j L[j] hj (List.getElem?_eq_getElem _)
  simpa using this
theorem pO_no {L : List Oe} {a : ByteArray} (hno : ∀ y ∈ L, y.id ≠ a) : pO L a = none := by
  unfold pO
  rw [List.findIdx?_eq_none_iff]
  intro x hx
  exact decide_eq_false (hno x hx)
theorem iO_some {L : List Oe} {a : ByteArray} {k : Nat} (h : pO L a = some k) : iO L a = k := by unfold iO; rw [h]
theorem iO_none {L : List Oe} {a : ByteArray} (h : pO L a = none) : iO L a = -1 := by unfold iO; rw [h]
theorem pO_cons (x : Oe) (L : List Oe) (a : ByteArray) : pO (x :: L) a = if x.id = a then some 0 else (pO L a).map (· + 1) := by
  unfold pO
  rw [List.findIdx?_cons]
  by_cases h : x.id = a <;> simp [h]
theorem offO_cons (x : Oe) (L : List Oe) (a : ByteArray) : offO (x :: L) a = if x.id = a then some x.o else offO L a := by
  unfold offO
  rw [List.find?_cons]
  by_cases h : x.id = a <;> simp [h]
theorem off_none : ∀ {L : List Oe} {a : ByteArray}, pO L a = none → offO L a = none
  | [], _, _ => rfl
  | x :: L, a, h => by
    rw [pO_cons] at h
    rw [offO_cons]
    by_cases e : x.id = a
    · rw [if_pos e] at h; cases h
    · rw [if_neg e] at h ⊢
      exact off_none (by simpa using h)
theorem off_some : ∀ {L : List Oe} {a : ByteArray} {k : Nat}, pO L a = some k → ∃ x, L[k]? = some x ∧ x.id = a ∧ offO L a = some x.o
  | [], _, _, h => by simp [pO] at h
  | x :: L, a, k, h => by
    rw [pO_cons] at h
    rw [offO_cons]
    by_cases e : x.id = a
    · rw [if_pos e] at h ⊢
      obtain rfl := Option.some.inj h
      exact ⟨x, rfl, e, rfl⟩
    · rw [if_neg e] at h ⊢
      cases h2 : pO L a with
      | none => rw [h2] at h; cases h
      | some j =>
        rw [h2] at h
        obtain rfl : j + 1 = k := by simpa using h
        obtain ⟨y, h3, h4, h5⟩ := off_some h2
        exact ⟨y, by simpa using h3, h4, h5⟩
theorem off_push : ∀ {L : List Oe} {a : ByteArray} (o : Of), offO L a = none → offO (L ++ [⟨a, o⟩]) = setO (offO L) a (some o)
  | [], a, o, _ => by
    funext c
    rw [List.nil_append, offO_cons]
    unfold setO
    by_cases hc : c = a
    · subst hc; simp
    · rw [if_neg (fun e => hc e.symm), if_neg hc]
  | x :: L, a, o, h => by
    rw [offO_cons] at h
    funext c
    by_cases e : x.id = a
    · rw [if_pos e] at h; cases h
    · rw [if_neg e] at h
      have ih := congrFun (off_push o h) c
      rw [List.cons_append, offO_cons]
      unfold setO at ih ⊢
      rw [offO_cons]
      by_cases hc : c = a
      · subst hc
        rw [if_neg e, ih, if_pos rfl, if_pos rfl]
      · rw [ih, if_neg hc, if_neg hc]
theorem off_notin : ∀ {L : List Oe} {a : ByteArray}, a ∉ L.map (·.id) → offO L a = none
  | [], _, _ => rfl
  | x :: L, a, h => by
    rw [List.map_cons, List.mem_cons, not_or] at h
    rw [offO_cons, if_neg (fun e => h.1 e.symm)]
    exact off_notin h.2
theorem off_in : ∀ {L : List Oe} {x : Oe}, (L.map (·.id)).Nodup → x ∈ L → offO L x.id = some x.o
  | y :: L, x, hn, h => by
    rw [List.map_cons, List.nodup_cons] at hn
    rw [offO_cons]
    rcases List.mem_cons.1 h with rfl | h
    · rw [if_pos rfl]
    · rw [if_neg (fun e => hn.1 (by rw [e]; exact List.mem_map_of_mem h))]
      exact off_in hn.2 h
/-- Offers that pass a test of their names. -/
theorem off_filter : ∀ {L : List Oe} (p : Oe → Bool), (L.map (·.id)).Nodup → ∀ a, offO (L.filter p) a = (match offO L a with | some o => if p ⟨a, o⟩ then some o else none | none => none)
  | [], p, _, a => rfl
  | x :: L, p, hn, a => by
    rw [List.map_cons, List.nodup_cons] at hn
    have ih := off_filter (L := L) p hn.2 a
    rw [offO_cons, List.filter_cons]
    by_cases e : x.id = a
    · rw [if_pos e]
      have hno : offO (L.filter p) a = none := off_notin fun h => by
        obtain ⟨y, hy, e2⟩ := List.mem_map.1 h
        exact hn.1 (by rw [e, ← e2]; exact List.mem_map_of_mem (List.mem_filter.1 hy).1)
      have hxa : (⟨a, x.o⟩ : Oe) = x := by rw [← e]
      dsimp only
      rw [hxa]
      by_cases hp : p x = true
      · rw [if_pos hp, if_pos hp, offO_cons, if_pos e]
      · rw [if_neg hp, if_neg hp, hno]
    · rw [if_neg e]
      by_cases hp : p x = true
      · rw [if_pos hp, offO_cons, if_neg e, ih]
      · rw [if_neg hp, ih]
theorem erase_filter : ∀ {L : List Oe} {k : Nat} {x : Oe}, (L.map (·.id)).Nodup → L[k]? = some x → L.eraseIdx k = L.filter fun y => !decide (y.id = x.id)
  | [], _, _, _, h => by simp at h
  | y :: L, 0, x, hn, h => by
    obtain rfl : y = x := by simpa using h
    rw [List.map_cons, List.nodup_cons] at hn
    rw [List.eraseIdx_cons_zero, List.filter_cons, if_neg (by simp)]
    refine (List.filter_eq_self.2 fun z hz => ?_).symm
    have : z.id ≠ y.id := fun e => hn.1 (by rw [← e]; exact List.mem_map_of_mem hz)
    simpa using this
  | y :: L, k + 1, x, hn, h => by
    rw [List.map_cons, List.nodup_cons] at hn
    have h2 : L[k]? = some x := by simpa using h
    have hne : y.id ≠ x.id := fun e => hn.1 (by rw [e]; exact List.mem_map_of_mem (List.mem_of_getElem? h2))
    rw [List.eraseIdx_cons_succ, List.filter_cons, if_pos (by simpa using hne), erase_filter hn.2 h2]
theorem off_erase {L : List Oe} {k : Nat} {x : Oe} (hn : (L.map (·.id)).Nodup) (hx : L[k]? = some x) : offO (L.eraseIdx k) = setO (offO L) x.id none := by
  funext a
  rw [erase_filter hn hx, off_filter _ hn]
  unfold setO
  by_cases h : a = x.id
  · subst h
    rw [if_pos rfl]
    cases offO L x.id <;> simp
  · rw [if_neg h]
    cases offO L a <;> simp [h]
theorem nodup_filter {L : List Oe} (p : Oe → Bool) (hn : (L.map (·.id)).Nodup) : ((L.filter p).map (·.id)).Nodup := hn.sublist ((List.filter_sublist).map _)

/-! The giver. -/
def gvOf (r : RgS) : GvS := ⟨r.node, hasL r.H, offO r.O, r.no⟩
structure okR (r : RgS) : Prop where
  rise : RisesS r.H
  nd : (r.O.map (·.id)).Nodup
  dis : ∀ a, hasL r.H a = true → offO r.O a = none
theorem hasL_rise (a : ByteArray) (H : List ByteArray) : (fun c => decide (c = a) || hasL H c) = hasL (riseS a H) := by
  funext c
  rw [Bool.eq_iff_iff, Bool.or_eq_true, decide_eq_true_iff, hasL_true, hasL_true, mem_riseS]
theorem rise_in {a : ByteArray} {H : List ByteArray} (hr : RisesS H) (h : a ∈ H) : riseS a H = H := rises_eqS (rises_riseS hr) hr fun z => by rw [mem_riseS]; exact ⟨fun e => e.elim (fun e => e ▸ h) id, .inr⟩
theorem riseS_len (a : ByteArray) : ∀ (H : List ByteArray), (riseS a H).length ≤ H.length + 1
  | [] => by simp [riseS]
  | y :: l => by
    have := riseS_len a l
    unfold riseS
    split
    · simp; omega
    · split <;> simp
def remL (H : List ByteArray) (a : ByteArray) : List ByteArray := H.filter fun y => !decide (y = a)
theorem hasL_rem (H : List ByteArray) (a : ByteArray) : (fun c => !decide (c = a) && hasL H c) = hasL (remL H a) := by
  funext c
  rw [Bool.eq_iff_iff, hasL_true, remL, List.mem_filter, Bool.and_eq_true, hasL_true]
  exact ⟨fun h => ⟨h.2, h.1⟩, fun h => ⟨h.2, h.1⟩⟩
def ownR1 (q : RgS × Int) (a : ByteArray) : RgS × Int := if vid a && !hasL q.1.H a && (pO q.1.O a).isNone then ({ q.1 with H := riseS a q.1.H }, q.2 + 1) else q
def ownR (r : RgS) (I : List ByteArray) : RgS × Int := I.foldl ownR1 (r, 0)
theorem ownR_step {I : List ByteArray} {k : Nat} {a : ByteArray} (h : I[k]? = some a) (r : RgS) : ownR r (I.take (k + 1)) = ownR1 (ownR r (I.take k)) a := by
  unfold ownR
  rw [List.take_add_one, h]
  simp
theorem pO_off (O : List Oe) (a : ByteArray) : (pO O a).isNone = (offO O a).isNone := by
  cases h : pO O a with
  | none => rw [off_none h]; rfl
  | some k =>
    obtain ⟨x, _, _, h2⟩ := off_some h
    rw [h2]; rfl
theorem own1_same {q : RgS × Int} (hq : okR q.1) (a : ByteArray) : own1 (gvOf q.1, q.2) a = (gvOf (ownR1 q a).1, (ownR1 q a).2) ∧ okR (ownR1 q a).1 ∧ (ownR1 q a).1.H.length ≤ q.1.H.length + 1 ∧ (ownR1 q a).1.O = q.1.O ∧ (ownR1 q a).1.no = q.1.no ∧ (ownR1 q a).1.node = q.1.node := by
  unfold own1 ownR1
  rw [pO_off]
  show (if vid a && (offO q.1.O a).isNone && !hasL q.1.H a then _ else _) = _ ∧ _
  have hc : (vid a && (offO q.1.O a).isNone && !hasL q.1.H a) = (vid a && !hasL q.1.H a && (offO q.1.O a).isNone) := by cases vid a <;> cases (offO q.1.O a).isNone <;> cases hasL q.1.H a <;> rfl
  rw [hc]
  by_cases h : (vid a && !hasL q.1.H a && (offO q.1.O a).isNone) = true
  · rw [if_pos h]
    simp only [if_pos h]
    rw [Bool.and_eq_true, Bool.and_eq_true] at h
    refine ⟨?_, ⟨rises_riseS hq.rise, hq.nd, fun c hc => ?_⟩, riseS_len _ _, by trivial, by trivial, by trivial⟩
    · refine Prod.ext ?_ rfl
      show (⟨q.1.node, fun c => decide (c = a) || hasL q.1.H c, offO q.1.O, q.1.no⟩ : GvS) = _
      rw [hasL_rise]
      rfl
    · rw [← hasL_rise, Bool.or_eq_true, decide_eq_true_iff] at hc
      rcases hc with rfl | hc
      · simpa using h.2
      · exact hq.dis c hc
  · rw [if_neg h]
    simp only [if_neg h]
    exact ⟨trivial, hq, by omega, trivial, trivial, trivial⟩
theorem own_same (I : List ByteArray) : ∀ {q : RgS × Int}, okR q.1 → I.foldl own1 (gvOf q.1, q.2) = (gvOf (I.foldl ownR1 q).1, (I.foldl ownR1 q).2) ∧ okR (I.foldl ownR1 q).1 ∧ (I.foldl ownR1 q).1.H.length ≤ q.1.H.length + I.length ∧ (I.foldl ownR1 q).1.O = q.1.O ∧ (I.foldl ownR1 q).1.no = q.1.no ∧ (I.foldl ownR1 q).1.node = q.1.node := by
  induction I with
  | nil => intro q hq; exact ⟨rfl, hq, by simp, rfl, rfl, rfl⟩
  | cons a I ih =>
    intro q hq
    obtain ⟨h1, h2, h3, h4, h5, h6⟩ := own1_same hq a
    obtain ⟨k1, k2, k3, k4, k5, k6⟩ := ih h2
    rw [List.foldl_cons, List.foldl_cons, h1]
    exact ⟨k1, k2, by rw [List.length_cons]; omega, k4.trans h4, k5.trans h5, k6.trans h6⟩
theorem ownR_len (r : RgS) (hr : okR r) (I : List ByteArray) : (ownR r I).1.H.length ≤ r.H.length + I.length := (own_same I (q := (r, 0)) hr).2.2.1
def offerR (r : RgS) (a : ByteArray) (to epoch : Int) : RgS := { r with H := remL r.H a, O := r.O ++ [⟨a, ⟨to, epoch, r.no + 1⟩⟩], no := r.no + 1 }
theorem offer_same {r : RgS} (hr : okR r) {a : ByteArray} (ha : hasL r.H a = true) (to epoch : Int) : offerS (gvOf r) a ⟨to, epoch, (gvOf r).num + 1⟩ = gvOf (offerR r a to epoch) ∧ okR (offerR r a to epoch) := by
  have hno := hr.dis a ha
  constructor
  · show (⟨r.node, fun c => !decide (c = a) && hasL r.H c, setO (offO r.O) a (some ⟨to, epoch, r.no + 1⟩), r.no + 1⟩ : GvS) = ⟨r.node, hasL (remL r.H a), offO (r.O ++ [⟨a, ⟨to, epoch, r.no + 1⟩⟩]), r.no + 1⟩
    rw [off_push _ hno, hasL_rem]
  · refine ⟨List.Pairwise.filter _ hr.rise, ?_, fun c hc => ?_⟩
    · show ((r.O ++ [(⟨a, ⟨to, epoch, r.no + 1⟩⟩ : Oe)]).map (·.id)).Nodup
      rw [List.map_append, List.nodup_append]
      refine ⟨hr.nd, by simp, fun x hx y hy => ?_⟩
      simp only [List.map_cons, List.map_nil, List.mem_singleton] at hy
      subst hy
      rintro rfl
      obtain ⟨z, hz, e⟩ := List.mem_map.1 hx
      have := off_in hr.nd hz
      rw [e, hno] at this
      cases this
    · show offO (r.O ++ [_]) c = none
      rw [off_push _ hno]
      unfold setO
      have hc2 : hasL (remL r.H a) c = true := hc
      rw [← hasL_rem] at hc2
      simp only [Bool.and_eq_true, Bool.not_eq_true', decide_eq_false_iff_not] at hc2
      rw [if_neg hc2.1]
      exact hr.dis c hc2.2
def inR (r : RgS) (k : Nat) (n : Nt) : RgS := { r with H := if n.kind = 6 then riseS n.id r.H else r.H, O := r.O.eraseIdx k }
theorem in_same {r : RgS} (hr : okR r) {n : Nt} {k : Nat} (hk : pO r.O n.id = some k) : inS (gvOf r) n = gvOf (inR r k n) ∧ okR (inR r k n) := by
  obtain ⟨x, hx, hxa, hxo⟩ := off_some hk
  have he := off_erase hr.nd hx
  rw [hxa] at he
  constructor
  · show (⟨r.node, if n.kind = 6 then fun c => decide (c = n.id) || hasL r.H c else hasL r.H, setO (offO r.O) n.id none, r.no⟩ : GvS) = ⟨r.node, hasL (if n.kind = 6 then riseS n.id r.H else r.H), offO (r.O.eraseIdx k), r.no⟩
    rw [he]
    split
    · rw [hasL_rise]
    · rfl
  · refine ⟨?_, ?_, fun c hc => ?_⟩
    · show RisesS (if n.kind = 6 then riseS n.id r.H else r.H)
      split
      · exact rises_riseS hr.rise
      · exact hr.rise
    · show ((r.O.eraseIdx k).map (·.id)).Nodup
      rw [erase_filter hr.nd hx]
      exact nodup_filter _ hr.nd
    · show offO (r.O.eraseIdx k) c = none
      rw [he]
      unfold setO
      by_cases h : c = n.id
      · rw [if_pos h]
      · rw [if_neg h]
        have hc2 : hasL (if n.kind = 6 then riseS n.id r.H else r.H) c = true := hc
        split at hc2
        · rw [← hasL_rise, Bool.or_eq_true, decide_eq_true_iff] at hc2
          exact hr.dis c (hc2.resolve_left h)
        · exact hr.dis c hc2

/-! Back: from the last offer to the first. -/
def bk (I : List Int) (x : Oe) : Bool := inI I x.o.to
def bkIds (I : List Int) (O : List Oe) (k : Nat) : List ByteArray := ((O.drop k).filter (bk I)).map (·.id)
def putAllS (W : List ByteArray) (H : List ByteArray) : List ByteArray := W.foldr riseS H
def backR (I : List Int) (r : RgS) (k : Nat) : RgS := { r with H := putAllS (bkIds I r.O k) r.H, O := r.O.take k ++ (r.O.drop k).filter fun x => !bk I x }
def backO (I : List Int) (r : RgS) (k : Nat) : List ByteArray := putAllS (bkIds I r.O k) []
theorem bk_at {r : RgS} {k : Nat} {x : Oe} (I : List Int) (hx : r.O[k]? = some x) : bkIds I r.O k = (if bk I x then [x.id] else []) ++ bkIds I r.O (k + 1) := by
  unfold bkIds
  obtain ⟨hk, e⟩ := List.getElem?_eq_some_iff.1 hx
  rw [List.drop_eq_getElem_cons hk, e, List.filter_cons]
  split <;> simp
theorem backR_no {r : RgS} {k : Nat} {x : Oe} {I : List Int} (hx : r.O[k]? = some x) (h : bk I x = false) : backR I r k = backR I r (k + 1) ∧ backO I r k = backO I r (k + 1) := by
  have e := bk_at I hx
  rw [h] at e
  have e2 : bkIds I r.O k = bkIds I r.O (k + 1) := by simpa using e
  unfold backR backO
  rw [e2]
  refine ⟨?_, rfl⟩
  congr 1
  obtain ⟨hk, e⟩ := List.getElem?_eq_some_iff.1 hx
  rw [List.drop_eq_getElem_cons hk, e, List.filter_cons, if_pos (by rw [h]; rfl), List.take_add_one, hx]
  simp
theorem backR_yes {r : RgS} {k : Nat} {x : Oe} {I : List Int} (hx : r.O[k]? = some x) (h : bk I x = true) : backR I r k = { backR I r (k + 1) with H := riseS x.id (backR I r (k + 1)).H, O := (backR I r (k + 1)).O.eraseIdx k } ∧ backO I r k = riseS x.id (backO I r (k + 1)) := by
  have e := bk_at I hx
  rw [h] at e
  have e2 : bkIds I r.O k = x.id :: bkIds I r.O (k + 1) := by simpa using e
  unfold backR backO
  rw [e2]
  refine ⟨?_, rfl⟩
  obtain ⟨hk, e⟩ := List.getElem?_eq_some_iff.1 hx
  have h1 : r.O.take k ++ (r.O.drop k).filter (fun x => !bk I x) = (r.O.take (k + 1) ++ (r.O.drop (k + 1)).filter fun x => !bk I x).eraseIdx k := by
    rw [List.drop_eq_getElem_cons hk, e, List.filter_cons, if_neg (by rw [h]; simp), List.take_add_one, hx, List.append_assoc, List.eraseIdx_append_of_length_le (by rw [List.length_take]; omega)]
    have : k - (r.O.take k).length = 0 := by rw [List.length_take]; omega
    rw [this]
    rfl
  rw [h1]
  rfl
theorem backR_top (I : List Int) (r : RgS) : backR I r r.O.length = r ∧ backO I r r.O.length = [] := by
  unfold backR backO bkIds
  simp [putAllS]
theorem backR_get {r : RgS} {k : Nat} {x : Oe} {I : List Int} (hx : r.O[k]? = some x) : (backR I r (k + 1)).O[k]? = some x := by
  show (r.O.take (k + 1) ++ _)[k]? = some x
  have hk := (List.getElem?_eq_some_iff.1 hx).1
  rw [List.getElem?_append_left (by rw [List.length_take]; omega), List.getElem?_take]
  simp [hx]
theorem putAll_mem {z : ByteArray} {H : List ByteArray} : ∀ (W : List ByteArray), z ∈ putAllS W H ↔ z ∈ W ∨ z ∈ H
  | [] => by simp [putAllS]
  | x :: W => by
    show z ∈ riseS x (putAllS W H) ↔ _
    rw [mem_riseS, putAll_mem W, List.mem_cons, or_assoc]
theorem putAll_rises {H : List ByteArray} (hH : RisesS H) : ∀ (W : List ByteArray), RisesS (putAllS W H)
  | [] => hH
  | x :: W => rises_riseS (putAll_rises hH W)
theorem putAll_len (H : List ByteArray) : ∀ (W : List ByteArray), (putAllS W H).length ≤ W.length + H.length
  | [] => by simp [putAllS]
  | x :: W => by
    have h1 := riseS_len x (putAllS W H)
    have h2 := putAll_len H W
    show (riseS x (putAllS W H)).length ≤ _
    rw [List.length_cons]
    omega
theorem bkIds_len (I : List Int) (O : List Oe) (k : Nat) : (bkIds I O k).length ≤ O.length := by
  unfold bkIds
  rw [List.length_map]
  exact Nat.le_trans (List.length_filter_le _ _) (by rw [List.length_drop]; omega)
theorem back_ids {r : RgS} (hr : okR r) (I : List Int) (a : ByteArray) : a ∈ bkIds I r.O 0 ↔ backs I (gvOf r) a = true := by
  unfold bkIds backs
  show _ ↔ (match offO r.O a with | some o => inI I o.to | none => false) = true
  rw [List.drop_zero, List.mem_map]
  constructor
  · rintro ⟨x, hx, rfl⟩
    rw [off_in hr.nd (List.mem_filter.1 hx).1]
    exact (List.mem_filter.1 hx).2
  · intro h
    cases hp : pO r.O a with
    | none => rw [off_none hp] at h; cases h
    | some k =>
      obtain ⟨x, hx, hxa, hxo⟩ := off_some hp
      rw [hxo] at h
      exact ⟨x, List.mem_filter.2 ⟨List.mem_of_getElem? hx, h⟩, hxa⟩
theorem back_same {r : RgS} (hr : okR r) (I : List Int) {L : List ByteArray} (hL : RisesS L) (hm : ∀ x, x ∈ L ↔ backs I (gvOf r) x = true) : backO I r 0 = L ∧ backS (gvOf r) L = gvOf (backR I r 0) ∧ okR (backR I r 0) ∧ (backR I r 0).H.length ≤ r.O.length + r.H.length ∧ (backR I r 0).O.length ≤ r.O.length := by
  have hin : ∀ x, x ∈ L ↔ x ∈ bkIds I r.O 0 := fun x => by rw [hm, back_ids hr]
  have hO : (backR I r 0).O = r.O.filter fun x => !bk I x := by show r.O.take 0 ++ (r.O.drop 0).filter _ = _; simp
  have hoff : offO (backR I r 0).O = fun c => if hasL L c then none else offO r.O c := by
    funext c
    rw [hO, off_filter _ hr.nd]
    cases h : offO r.O c with
    | none => simp
    | some o =>
      have : hasL L c = inI I o.to := by
        rw [Bool.eq_iff_iff, hasL_true, hm]
        unfold backs
        show (match offO r.O c with | some o => inI I o.to | none => false) = true ↔ _
        rw [h]
      dsimp only
      unfold bk
      rw [this]
      cases inI I o.to <;> rfl
  have hH : hasL (backR I r 0).H = fun c => hasL L c || hasL r.H c := by
    funext c
    rw [Bool.eq_iff_iff, Bool.or_eq_true, hasL_true, hasL_true, hasL_true]
    show c ∈ putAllS _ _ ↔ _
    rw [putAll_mem, hin]
  refine ⟨rises_eqS (putAll_rises List.Pairwise.nil _) hL fun z => by rw [show backO I r 0 = putAllS (bkIds I r.O 0) [] from rfl, putAll_mem, hin]; simp, ?_, ⟨putAll_rises hr.rise _, by rw [hO]; exact nodup_filter _ hr.nd, fun c hc => ?_⟩, ?_, ?_⟩
  · show (⟨r.node, fun c => hasL L c || hasL r.H c, fun c => if hasL L c then none else offO r.O c, r.no⟩ : GvS) = ⟨r.node, hasL (backR I r 0).H, offO (backR I r 0).O, r.no⟩
    rw [hH, hoff]
  · rw [hH, Bool.or_eq_true] at hc
    rw [hoff]
    dsimp only
    by_cases h : hasL L c = true
    · rw [if_pos h]
    · rw [if_neg h]
      exact hr.dis c (hc.resolve_left h)
  · show (putAllS _ _).length ≤ _
    have h1 := putAll_len r.H (bkIds I r.O 0)
    have h2 := bkIds_len I r.O 0
    omega
  · rw [hO]
    exact List.length_filter_le _ _

/-! The taker. -/
def hitA (x : Ae) (a : ByteArray) (ep num : Int) : Bool := decide (x.id = a) && x.ep == ep && x.num == num
def kindA (O : List Ae) (a : ByteArray) (ep num : Int) : Int := O.foldl (fun k x => if hitA x a ep num then x.kind else k) 0
theorem kindA_snoc (O : List Ae) (x : Ae) (a : ByteArray) (ep num : Int) : kindA (O ++ [x]) a ep num = if hitA x a ep num then x.kind else kindA O a ep num := by
  unfold kindA
  rw [List.foldl_append]
  rfl
theorem kindA_step {O : List Ae} {k : Nat} {x : Ae} (h : O[k]? = some x) (a : ByteArray) (ep num : Int) : kindA (O.take (k + 1)) a ep num = if hitA x a ep num then x.kind else kindA (O.take k) a ep num := by
  rw [List.take_add_one, h]
  exact kindA_snoc _ _ _ _ _
/-- The program's taker and the document's. -/
structure TR (s : TkS) (r : RkS) : Prop where
  node : s.node = r.node
  room : s.room = max 0 r.room
  has : s.has = hasL r.H
  told : ∀ x : OK3, s.told x ≠ some 0 ∧ (s.told x).getD 0 = kindA r.O x.1.1 x.1.2.1 x.1.2.2
  rise : RisesS r.H
def tkYesR (r : RkS) (n : Nt) : Bool := decide ((r.H.length : Int) < r.room) && !hasL r.H n.id
def kindR (r : RkS) (n : Nt) : Int := if kindA r.O n.id n.epoch n.life = 0 then (if tkYesR r n then 5 else 6) else kindA r.O n.id n.epoch n.life
def takeR (r : RkS) (n : Nt) : RkS := if kindA r.O n.id n.epoch n.life = 0 then { r with H := if tkYesR r n then riseS n.id r.H else r.H, O := r.O ++ [⟨n.id, n.epoch, n.life, if tkYesR r n then 5 else 6⟩] } else r
theorem tkYes_same {s : TkS} {r : RkS} (h : TR s r) {ns : Nat} (hn : ns = r.H.length) (n : Nt) : tkYes s ns n = tkYesR r n := by
  unfold tkYes tkYesR
  rw [h.has, h.room, hn]
  congr 1
  rw [decide_eq_decide]
  omega
theorem tkTake_same {s : TkS} {r : RkS} (h : TR s r) {ns : Nat} (hns : ns = r.H.length) (n : Nt) (hn : n.ok) : tkKd s ns n hn = kindR r n ∧ TR (tkS2 s ns n hn) (takeR r n) ∧ (takeR r n).H.length ≤ r.H.length + 1 ∧ (takeR r n).O.length ≤ r.O.length + 1 := by
  have hy := tkYes_same h hns n
  obtain ⟨h0, h1⟩ := h.told (keyN n hn)
  have h1 : (s.told (keyN n hn)).getD 0 = kindA r.O n.id n.epoch n.life := h1
  unfold tkKd tkS2 kindR takeR
  cases ht : s.told (keyN n hn) with
  | some v =>
    rw [ht] at h0 h1
    have hv : kindA r.O n.id n.epoch n.life = v := h1.symm
    have hv0 : v ≠ 0 := fun e => h0 (by rw [e])
    rw [hv, if_neg hv0, if_neg hv0]
    exact ⟨rfl, h, by omega, by omega⟩
  | none =>
    rw [ht] at h1
    have hv : kindA r.O n.id n.epoch n.life = 0 := h1.symm
    rw [hv, if_pos rfl, if_pos rfl]
    dsimp only
    rw [hy]
    refine ⟨rfl, ⟨h.node, h.room, ?_, fun x => ?_, ?_⟩, ?_, by simp⟩
    · unfold takeS
      dsimp only
      rw [h.has]
      cases tkYesR r n
      · rfl
      · simp only [if_true]
        exact hasL_rise _ _
    · unfold takeS
      dsimp only
      rw [kindA_snoc]
      have hk : hitA ⟨n.id, n.epoch, n.life, if tkYesR r n = true then 5 else 6⟩ x.1.1 x.1.2.1 x.1.2.2 = decide (x = keyN n hn) := by
        unfold hitA
        dsimp only
        rw [Bool.eq_iff_iff]
        simp only [Bool.and_eq_true, decide_eq_true_iff, beq_iff_eq]
        constructor
        · rintro ⟨⟨e1, e2⟩, e3⟩
          obtain ⟨⟨a, b, c⟩, hx⟩ := x
          dsimp only at e1 e2 e3
          subst e1 e2 e3
          rfl
        · rintro rfl
          exact ⟨⟨rfl, rfl⟩, rfl⟩
      rw [hk]
      by_cases hx : x = keyN n hn
      · rw [if_pos hx, if_pos (decide_eq_true hx)]
        cases tkYesR r n
        · exact ⟨by simp, rfl⟩
        · exact ⟨by simp, rfl⟩
      · rw [if_neg hx, if_neg (by simpa using hx)]
        exact h.told x
    · dsimp only
      split
      · exact rises_riseS h.rise
      · exact h.rise
    · show (if tkYesR r n = true then riseS n.id r.H else r.H).length ≤ _
      split
      · exact riseS_len _ _
      · omega
theorem done_same {s : TkS} {r : RkS} (h : TR s r) (a : ByteArray) : s.has a = hasL r.H a ∧ TR (doneS s a) { r with H := remL r.H a } := by
  refine ⟨by rw [h.has], h.node, h.room, ?_, h.told, List.Pairwise.filter _ h.rise⟩
  show (fun c => !decide (c = a) && s.has c) = _
  rw [h.has]
  exact hasL_rem _ _
end
end Go.Proofs.Ytflaliomkfbagaa
