/-
  gleanerref14.Table: what it holds; has, without, Parked, Len.
-/
import Derived.Test.YtfglikgifkpfpaaTabPlain
import Derived.Test.YtfglikgifkpfpaaPutS
import Derived.Test.YtfglikgifkpfpaaRefValid
import Derived.Test.YtfglikgifkpfpaaFlat
namespace Go.Proofs.Ytfglikgifkpfpaa
open Go.RowKit
set_option linter.unusedVariables false
set_option linter.unusedSimpArgs false

abbrev rkP : RowKind Try.prog where
  t := 51
  e := 71
  z := .agg #[.string ⟨#[]⟩, .string ⟨#[]⟩]
  size := 2
  bytes := 32
  ht := Try.underlying51
  info := by kernel_rfl
  hz := rfl
  hs := by decide
  hb := by decide
def cellP (x : ByteArray × ByteArray) : List Value := [.string x.1, .string x.2]
theorem cellP_len (x : ByteArray × ByteArray) : (cellP x).length = 2 := rfl
theorem cellP_one (x : ByteArray × ByteArray) : ∀ u ∈ cellP x, u.oneCell' = true := by
  intro u hu
  simp only [cellP, List.mem_cons, List.not_mem_nil, or_false] at hu
  rcases hu with rfl | rfl <;> rfl
def pvs (L : List (ByteArray × ByteArray)) : List Value := L.flatMap cellP

/-- Where the document's table and its rows lie. -/
structure RtAt (w : World) (g : Nat) (t : TrS) (A : Option Addr) (n c : Nat) (A2 : Option Addr) (n2 c2 : Nat) (A3 : Option Addr) (n3 c3 : Nat) : Prop where
  hn : Hid (n = t.R.length)
  hn2 : Hid (n2 = t.G.length)
  hn3 : Hid (n3 = t.P.length)
  hb : Blk w g 53 #[.int .i64 t.mx, .slice A n c, .slice A2 n2 c2, .slice A3 n3 c3]
  hR : OwnR rkI w 0 (.slice A n c) n (sv t.R)
  hG : OwnR rkI w 0 (.slice A2 n2 c2) n2 (sv t.G)
  hP : OwnR rkP w 0 (.slice A3 n3 c3) n3 (pvs t.P)
  ne : ∀ b, (Value.slice A n c).ownBlock = some b → (Value.slice A2 n2 c2).ownBlock ≠ some b
theorem OwnR.apart2 {K K2 : RowKind Try.prog} {w : World} {b1 b2 n m : Nat} {v u : Value} {xs ys : List Value} (h : OwnR K w b1 v n xs) (h2 : OwnR K2 w b2 u m ys) (hne : K.e ≠ K2.e) : ∀ b, v.ownBlock = some b → u.ownBlock ≠ some b := by
  intro b hb hu
  rcases h2.2 with ⟨rfl, _⟩ | ⟨g2, cap, cur, rfl, _, hh, _⟩
  · simp [Value.ownBlock] at hu
  · have e : g2 = b := by simpa [Value.ownBlock] using hu
    subst e
    exact h.apart hh hne hb
section
variable {w w2 : World} {g : Nat} {t : TrS} {A A2 A3 : Option Addr} {n c n2 c2 n3 c3 : Nat}
theorem RtAt.chg {S : Nat → Prop} (h : RtAt w g t A n c A2 n2 c2 A3 n3 c3) (hc : Chg S w w2) (h0 : ¬ S g) (h1 : ∀ b, (Value.slice A n c).ownBlock = some b → ¬ S b) (h2 : ∀ b, (Value.slice A2 n2 c2).ownBlock = some b → ¬ S b) (h3 : ∀ b, (Value.slice A3 n3 c3).ownBlock = some b → ¬ S b) : RtAt w2 g t A n c A2 n2 c2 A3 n3 c3 :=
  ⟨h.hn, h.hn2, h.hn3, h.hb.chg hc h0, h.hR.chg hc h1, h.hG.chg hc h2, h.hP.chg hc h3, h.ne⟩
theorem RtAt.non (h : RtAt w g t A n c A2 n2 c2 A3 n3 c3) (hc : Chg Non w w2) : RtAt w2 g t A n c A2 n2 c2 A3 n3 c3 := h.chg hc id (fun _ _ => id) (fun _ _ => id) (fun _ _ => id)
theorem RtAt.gR (h : RtAt w g t A n c A2 n2 c2 A3 n3 c3) : ∀ b, (Value.slice A n c).ownBlock = some b → b ≠ g := fun b hb e => h.hR.apart h.hb (by decide) (e ▸ hb)
theorem RtAt.gG (h : RtAt w g t A n c A2 n2 c2 A3 n3 c3) : ∀ b, (Value.slice A2 n2 c2).ownBlock = some b → b ≠ g := fun b hb e => h.hG.apart h.hb (by decide) (e ▸ hb)
theorem RtAt.gP (h : RtAt w g t A n c A2 n2 c2 A3 n3 c3) : ∀ b, (Value.slice A3 n3 c3).ownBlock = some b → b ≠ g := fun b hb e => h.hP.apart h.hb (by decide) (e ▸ hb)
/-- Where the blocks lie. -/
theorem RtAt.lt (h : RtAt w g t A n c A2 n2 c2 A3 n3 c3) : ∀ b, (b = g ∨ (Value.slice A n c).ownBlock = some b ∨ (Value.slice A2 n2 c2).ownBlock = some b ∨ (Value.slice A3 n3 c3).ownBlock = some b) → b < w.heap.size := by
  rintro b (rfl | hb | hb | hb)
  · exact h.hb.lt
  · exact (h.hR.lt hb).2
  · exact (h.hG.lt hb).2
  · exact (h.hP.lt hb).2
end
/-- Block g is the document's table; F: the blocks that it uses. -/
def RtF (g : Nat) (v v2 v3 : Value) (b : Nat) : Prop := b = g ∨ v.ownBlock = some b ∨ v2.ownBlock = some b ∨ v3.ownBlock = some b
def Rt (w : World) (F : Nat → Prop) (g : Nat) (t : TrS) : Prop := ∃ A n c A2 n2 c2 A3 n3 c3, RtAt w g t A n c A2 n2 c2 A3 n3 c3 ∧ F = RtF g (.slice A n c) (.slice A2 n2 c2) (.slice A3 n3 c3)
theorem Rt.chg {w w2 : World} {F S : Nat → Prop} {g : Nat} {t : TrS} (h : Rt w F g t) (hc : Chg S w w2) (hs : ∀ b, F b → ¬ S b) : Rt w2 F g t := by
  obtain ⟨A, n, c, A2, n2, c2, A3, n3, c3, h, rfl⟩ := h
  exact ⟨A, n, c, A2, n2, c2, A3, n3, c3, h.chg hc (hs g (.inl rfl)) (fun b hb => hs b (.inr (.inl hb))) (fun b hb => hs b (.inr (.inr (.inl hb)))) (fun b hb => hs b (.inr (.inr (.inr hb)))), rfl⟩
theorem Rt.non {w w2 : World} {F : Nat → Prop} {g : Nat} {t : TrS} (h : Rt w F g t) (hc : Chg Non w w2) : Rt w2 F g t := h.chg hc fun _ _ => id
theorem Rt.lt {w : World} {F : Nat → Prop} {g : Nat} {t : TrS} (h : Rt w F g t) : ∀ b, F b → b < w.heap.size := by
  obtain ⟨A, n, c, A2, n2, c2, A3, n3, c3, h, rfl⟩ := h
  exact h.lt

/-- A row is put in the place of one of the three: what is known then. -/
structure RtSwap (w w7 : World) (g : Nat) (t : TrS) (v v2 v3 u u2 u3 : Value) (A : Option Addr) (n c : Nat) (A2 : Option Addr) (n2 c2 : Nat) (A3 : Option Addr) (n3 c3 : Nat) : Prop where
  at_ : RtAt w7 g t A n c A2 n2 c2 A3 n3 c3
  sub : ∀ b, RtF g u u2 u3 b → RtF g v v2 v3 b ∨ w.heap.size ≤ b
  chg : Chg (RtF g v v2 v3) w w7
theorem RtAt.swapR {w w6 : World} {g : Nat} {t : TrS} {A A2 A3 B : Option Addr} {n c n2 c2 n3 c3 m d : Nat} {S : Nat → Prop} {R : List ByteArray} (h : RtAt w g t A n c A2 n2 c2 A3 n3 c3) (hc : Chg S w w6) (hS : ∀ b, S b → (Value.slice A n c).ownBlock = some b)
    (o6 : OwnR rkI w6 0 (.slice B m d) m (sv R)) (hm : m = R.length) (hv : ∀ b, (Value.slice B m d).ownBlock = some b → (Value.slice A n c).ownBlock = some b ∨ w.heap.size ≤ b) :
    RtSwap w (w6.setCell ⟨g, 1, none⟩ (.slice B m d)) g { t with R := R } (.slice A n c) (.slice A2 n2 c2) (.slice A3 n3 c3) (.slice B m d) (.slice A2 n2 c2) (.slice A3 n3 c3) B m d A2 n2 c2 A3 n3 c3 := by
  have hb6 := h.hb.chg hc (fun e => h.gR _ (hS _ e) rfl)
  have hG6 := h.hG.chg hc (fun b hb e => h.ne b (hS b e) hb)
  have hP6 := h.hP.chg hc (fun b hb e => (h.hR.apart2 h.hP (by decide)) b (hS b e) hb)
  have hSt : Chg (fun b => b = g) w6 (w6.setCell ⟨g, 1, none⟩ (.slice B m d)) := (Chg.refl _ w6).set1 1 _
  have hb7 := hb6.put 1 (.slice B m d)
  simp only [List.setIfInBounds_toArray, List.set_cons_succ, List.set_cons_zero] at hb7
  refine ⟨⟨hm, h.hn2, h.hn3, hb7, o6.chg hSt (fun b hb e => o6.apart hb6 (by decide) (by rw [← show b = g from e]; exact hb)), hG6.chg hSt h.gG, hP6.chg hSt h.gP, ?_⟩, ?_, ?_⟩
  · intro b hb e
    rcases hv b hb with h1 | h1
    · exact h.ne b h1 e
    · have := (h.hG.lt e).2
      omega
  · rintro b (rfl | hb | hb | hb)
    · exact .inl (.inl rfl)
    · exact (hv b hb).imp (fun h => .inr (.inl h)) id
    · exact .inl (.inr (.inr (.inl hb)))
    · exact .inl (.inr (.inr (.inr hb)))
  · exact Chg.setCell (p := ⟨g, 1, none⟩) (hc.mono (S2 := RtF g (.slice A n c) (.slice A2 n2 c2) (.slice A3 n3 c3)) (fun b e => Or.inr (Or.inl (hS b e)))) (Or.inl (Or.inl rfl)) _
theorem RtAt.swapG {w w6 : World} {g : Nat} {t : TrS} {A A2 A3 B : Option Addr} {n c n2 c2 n3 c3 m d : Nat} {S : Nat → Prop} {R : List ByteArray} (h : RtAt w g t A n c A2 n2 c2 A3 n3 c3) (hc : Chg S w w6) (hS : ∀ b, S b → (Value.slice A2 n2 c2).ownBlock = some b)
    (o6 : OwnR rkI w6 0 (.slice B m d) m (sv R)) (hm : m = R.length) (hv : ∀ b, (Value.slice B m d).ownBlock = some b → (Value.slice A2 n2 c2).ownBlock = some b ∨ w.heap.size ≤ b) :
    RtSwap w (w6.setCell ⟨g, 2, none⟩ (.slice B m d)) g { t with G := R } (.slice A n c) (.slice A2 n2 c2) (.slice A3 n3 c3) (.slice A n c) (.slice B m d) (.slice A3 n3 c3) A n c B m d A3 n3 c3 := by
  have hb6 := h.hb.chg hc (fun e => h.gG _ (hS _ e) rfl)
  have hR6 := h.hR.chg hc (fun b hb e => h.ne b hb (hS b e))
  have hP6 := h.hP.chg hc (fun b hb e => (h.hG.apart2 h.hP (by decide)) b (hS b e) hb)
  have hSt : Chg (fun b => b = g) w6 (w6.setCell ⟨g, 2, none⟩ (.slice B m d)) := (Chg.refl _ w6).set1 2 _
  have hb7 := hb6.put 2 (.slice B m d)
  simp only [List.setIfInBounds_toArray, List.set_cons_succ, List.set_cons_zero] at hb7
  refine ⟨⟨h.hn, hm, h.hn3, hb7, hR6.chg hSt h.gR, o6.chg hSt (fun b hb e => o6.apart hb6 (by decide) (by rw [← show b = g from e]; exact hb)), hP6.chg hSt h.gP, ?_⟩, ?_, ?_⟩
  · intro b hb e
    rcases hv b e with h1 | h1
    · exact h.ne b hb h1
    · have := (h.hR.lt hb).2
      omega
  · rintro b (rfl | hb | hb | hb)
    · exact .inl (.inl rfl)
    · exact .inl (.inr (.inl hb))
    · exact (hv b hb).imp (fun h => .inr (.inr (.inl h))) id
    · exact .inl (.inr (.inr (.inr hb)))
  · exact Chg.setCell (p := ⟨g, 2, none⟩) (hc.mono (S2 := RtF g (.slice A n c) (.slice A2 n2 c2) (.slice A3 n3 c3)) (fun b e => Or.inr (Or.inr (Or.inl (hS b e))))) (Or.inl (Or.inl rfl)) _
theorem RtAt.swapP {w w6 : World} {g : Nat} {t : TrS} {A A2 A3 B : Option Addr} {n c n2 c2 n3 c3 m d : Nat} {S : Nat → Prop} {R : List (ByteArray × ByteArray)} (h : RtAt w g t A n c A2 n2 c2 A3 n3 c3) (hc : Chg S w w6) (hS : ∀ b, S b → (Value.slice A3 n3 c3).ownBlock = some b)
    (o6 : OwnR rkP w6 0 (.slice B m d) m (pvs R)) (hm : m = R.length) (hv : ∀ b, (Value.slice B m d).ownBlock = some b → (Value.slice A3 n3 c3).ownBlock = some b ∨ w.heap.size ≤ b) :
    RtSwap w (w6.setCell ⟨g, 3, none⟩ (.slice B m d)) g { t with P := R } (.slice A n c) (.slice A2 n2 c2) (.slice A3 n3 c3) (.slice A n c) (.slice A2 n2 c2) (.slice B m d) A n c A2 n2 c2 B m d := by
  have hb6 := h.hb.chg hc (fun e => h.gP _ (hS _ e) rfl)
  have hR6 := h.hR.chg hc (fun b hb e => (h.hR.apart2 h.hP (by decide)) b hb (hS b e))
  have hG6 := h.hG.chg hc (fun b hb e => (h.hG.apart2 h.hP (by decide)) b hb (hS b e))
  have hSt : Chg (fun b => b = g) w6 (w6.setCell ⟨g, 3, none⟩ (.slice B m d)) := (Chg.refl _ w6).set1 3 _
  have hb7 := hb6.put 3 (.slice B m d)
  simp only [List.setIfInBounds_toArray, List.set_cons_succ, List.set_cons_zero] at hb7
  refine ⟨⟨h.hn, h.hn2, hm, hb7, hR6.chg hSt h.gR, hG6.chg hSt h.gG, o6.chg hSt (fun b hb e => o6.apart hb6 (by decide) (by rw [← show b = g from e]; exact hb)), h.ne⟩, ?_, ?_⟩
  · rintro b (rfl | hb | hb | hb)
    · exact .inl (.inl rfl)
    · exact .inl (.inr (.inl hb))
    · exact .inl (.inr (.inr (.inl hb)))
    · exact (hv b hb).imp (fun h => .inr (.inr (.inr h))) id
  · exact Chg.setCell (p := ⟨g, 3, none⟩) (hc.mono (S2 := RtF g (.slice A n c) (.slice A2 n2 c2) (.slice A3 n3 c3)) (fun b e => Or.inr (Or.inr (Or.inr (hS b e))))) (Or.inl (Or.inl rfl)) _
theorem RtSwap.rt {w w7 : World} {g : Nat} {t : TrS} {v v2 v3 : Value} {A A2 A3 : Option Addr} {n c n2 c2 n3 c3 : Nat} (h : RtSwap w w7 g t v v2 v3 (.slice A n c) (.slice A2 n2 c2) (.slice A3 n3 c3) A n c A2 n2 c2 A3 n3 c3) : ∃ F2, Rt w7 F2 g t ∧ (∀ b, F2 b → RtF g v v2 v3 b ∨ w.heap.size ≤ b) ∧ Chg (RtF g v v2 v3) w w7 :=
  ⟨_, ⟨A, n, c, A2, n2, c2, A3, n3, c3, h.at_, rfl⟩, h.sub, h.chg⟩

theorem refHas_any (w : World) (A : Option Addr) (n c : Nat) (L : List ByteArray) (s : ByteArray) (h1 : Rds w 1 A n (sv L)) (hn : n ≤ 9223372036854775807) :
    Calls Try.prog 42 #[.slice A n c, .string s] w fun e w2 => e = .returned (.bool (hasB L s)) ∧ w = w2 := by
  have H1 := Lib.hid h1
  clear h1
  go_enter Try.func42, Try.ntmps42
  go_wp2_with fail
  go_loop [5] (fun i => ∃ k : Nat, k ≤ n ∧ i = .int .i64 k ∧ Hid (∀ j, j < k → L[j]? ≠ some s)) (fun i => n - (intOf i).toNat)
  case atStart => exact ⟨0, Nat.zero_le _, rfl, (fun j h => by omega)⟩
  case round =>
    obtain ⟨k, hk, rfl, hno⟩ := hrel
    by_cases hlt : k < n
    · obtain ⟨ad, x, rfl, hx, hc⟩ := H1.out.getS hlt
      by_cases heq : x = s
      · subst heq
        have Hres := Lib.hid (hasB_true.2 (List.mem_of_getElem? hx))
        clear hx hno
        go_wp2_with fail
        go_ret
        exact ⟨by rw [Hres.out]; rfl, rfl⟩
      · have e2 := str_ne heq
        have hno2 : Hid (∀ j, j < k + 1 → L[j]? ≠ some s) := by
          intro j hj
          rcases Nat.lt_or_ge j k with h | h
          · exact hno.out j h
          · obtain rfl : j = k := by omega
            rw [hx]
            intro e
            exact heq (Option.some.inj e)
        clear heq hx hno
        go_wp2_with fail
        go_round
        case rel => exact ⟨k + 1, by omega, by go_num, hno2⟩
        case measure => simp [intOf]; omega
    · have hres : hasB L s = false := by
        rw [hasB_false]
        intro hm
        obtain ⟨j, hj⟩ := List.getElem?_of_mem hm
        have hjl := (List.getElem?_eq_some_iff.1 hj).1
        have hl := H1.out.lenMap (f := Value.string)
        exact hno.out j (by omega) hj
      have Hres := Lib.hid hres
      clear hres hno
      go_wp2_with fail
      go_ret
      exact ⟨by rw [Hres.out]; rfl, rfl⟩

theorem rem_snoc (L : List ByteArray) (x s : ByteArray) : remS (L ++ [x]) s = if x = s then remS L s else remS L s ++ [x] := by
  unfold remS
  rw [List.filter_append]
  by_cases h : x = s <;> simp [h]
theorem rem_le (L : List ByteArray) (s : ByteArray) : (remS L s).length ≤ L.length := List.length_filter_le _ _

set_option maxRecDepth 100000 in
theorem refWithout_any (w : World) (A : Option Addr) (n c : Nat) (L : List ByteArray) (s : ByteArray) (h1 : Rds w 1 A n (sv L)) (hn : n ≤ 1000000) :
    Calls Try.prog 44 #[.slice A n c, .string s] w fun e w2 => ∃ v m, e = .returned v ∧ m = (remS L s).length ∧ OwnR rkI w2 w.heap.size v m (sv (remS L s)) ∧ Chg Non w w2 := by
  have H1 := Lib.hid h1
  have Hnl := Lib.hid (h1.lenMap (f := Value.string))
  clear h1
  go_enter Try.func44, Try.ntmps44
  go_wp2_with fail
  go_loopw [5, 6] (fun v i wr => ∃ k m : Nat, k ≤ n ∧ i = .int .i64 k ∧ m ≤ k ∧ Hid (m = (remS (L.take k) s).length) ∧ OwnR rkI wr w.heap.size v m (sv (remS (L.take k) s)) ∧ Chg Non w wr) (fun _ i _ => n - (intOf i).toNat)
  case atStart => exact ⟨0, 0, Nat.zero_le _, rfl, Nat.le_refl _, rfl, OwnR.nil _ _ _, Chg.refl _ _⟩
  case round =>
    obtain ⟨k, m, hk, rfl, hmk, hm, ho, hC⟩ := hrel
    by_cases hlt : k < n
    · obtain ⟨ad, x, rfl, hx, hc0⟩ := H1.out.getS hlt
      have a0 := hC.cell hc0 id
      have hst : remS (L.take (k + 1)) s = if x = s then remS (L.take k) s else remS (L.take k) s ++ [x] := by
        rw [List.take_add_one, hx]
        exact rem_snoc _ _ _
      by_cases heq : x = s
      · subst heq
        rw [if_pos rfl] at hst
        rw [← hst] at ho hm
        clear hx hst hc0
        go_wp2_with fail
        go_roundw
        case rel => exact ⟨k + 1, m, by omega, by go_num, by omega, hm, ho, hC⟩
        case measure => simp [intOf]; omega
      · rw [if_neg heq] at hst
        have Hst := Lib.hid hst
        have e2 := str_ne heq
        clear hx hst heq hc0
        have hsz := hC.size
        go_wp2_with (at_builtin; refine appR1 (K := rkI) rfl (.tmp 19) (.tmp 24) rfl ho rfl (cs := #[.string x]) rfl rfl (sv_one [x]) ?_ ?_ ?_; (next => omega); (next => omega); intro v6 w6 o6 c6 _)
        have hC6 := ho.chgApp hC (Nat.le_refl _) c6
        rw [show sv (remS (L.take k) s) ++ (#[.string x] : Array Value).toList = sv (remS (L.take (k + 1)) s) from by rw [Hst.out]; simp [sv]] at o6
        have hm6 : Hid (m + 1 = (remS (L.take (k + 1)) s).length) := by show _ = _; rw [Hst.out, List.length_append, List.length_singleton, ← hm.out]
        clear ho hC c6
        go_roundw
        case rel => exact ⟨k + 1, m + 1, by omega, by go_num, by omega, hm6, o6, hC6⟩
        case measure => simp [intOf]; omega
    · have hst : L.take k = L := List.take_of_length_le (by have := Hnl.out; omega)
      rw [hst] at ho hm
      clear hst
      go_wp2_with fail
      go_ret
      exact ⟨_, m, rfl, hm.out, ho, hC⟩

set_option maxRecDepth 100000 in
theorem rtParked_any (w : World) (F : Nat → Prop) (g : Nat) (t : TrS) (h : Rt w F g t) (hs : t.P.length ≤ 1000000) :
    Calls Try.prog 31 #[.pointer (some ⟨g, 0, none⟩)] w fun e w2 => ∃ v m, e = .returned v ∧ m = (risenS t.names).length ∧ OwnR rkI w2 w.heap.size v m (sv (risenS t.names)) ∧ Chg Non w w2 := by
  obtain ⟨A, n, c, A2, n2, c2, A3, n3, c3, h, rfl⟩ := h
  have c3c := h.hb.cell 3
  simp only [List.getElem?_toArray, List.getElem?_cons_zero, List.getElem?_cons_succ] at c3c
  have Hn3 := h.hn3
  have hn3l : n3 ≤ 1000000 := by have := Hn3.out; omega
  have hr := Lib.hid h.hP.rds
  clear h
  go_enter Try.func31, Try.ntmps31
  go_wp2_with fail
  go_loopw [3, 4] (fun v i wr => ∃ k m : Nat, k ≤ n3 ∧ i = .int .i64 k ∧ m ≤ k ∧ OwnR rkI wr w.heap.size v m (sv (risenS (t.names.take k))) ∧ Chg Non w wr) (fun _ i _ => n3 - (intOf i).toNat)
  case atStart => exact ⟨0, 0, Nat.zero_le _, rfl, Nat.le_refl _, OwnR.nil _ _ _, Chg.refl _ _⟩
  case round =>
    obtain ⟨k, m, hk, rfl, hm, hO, hC⟩ := hrel
    have k3 := hC.cell c3c id
    by_cases hlt : k < n3
    · obtain ⟨ad, ⟨x, o⟩, rfl, hx, hc0, _⟩ := hr.out.getN cellP_len (by decide) hlt
      have hcr := hC.cell (hc0 _ rfl) id
      have hst : riseS x (risenS (t.names.take k)) = risenS (t.names.take (k + 1)) := by
        have hx2 : t.names[k]? = some x := by unfold TrS.names; rw [List.getElem?_map, hx]; rfl
        rw [List.take_add_one, hx2]
        exact (risenS_snoc _ _).symm
      have Hst := Lib.hid hst
      clear hx hc0 hst
      go_wp2_with fail
      refine (putS_any _ w.heap.size _ m _ x hO hC.size (by omega)).mono ?_
      rintro e w2 ⟨v2, n2, rfl, hO2, hc2, _⟩
      rw [Hst.out] at hO2
      have hn2 : n2 ≤ k + 1 := by
        have h1 := hO2.len
        have h2 := risenS_le (t.names.take (k + 1))
        simp [sv] at h1
        simp at h2
        omega
      have hC2 := hC.non hc2
      clear hO hC hc2 k3
      go_wp2_with fail
      go_roundw
      case rel => exact ⟨k + 1, n2, by omega, by go_num, hn2, hO2, hC2⟩
      case measure => simp [intOf]; omega
    · have h1 : t.names.take k = t.names := List.take_of_length_le (by unfold TrS.names; rw [List.length_map]; have := Hn3.out; omega)
      rw [h1] at hO
      clear h1
      go_wp2_with fail
      go_ret
      refine ⟨_, m, rfl, ?_, hO, hC⟩
      have := hO.len
      simpa [sv] using this.symm

theorem rtLen_any (w : World) (F : Nat → Prop) (g : Nat) (t : TrS) (h : Rt w F g t) (hs : t.len ≤ 1000000) :
    Calls Try.prog 32 #[.pointer (some ⟨g, 0, none⟩)] w fun e w2 => e = .returned (.int .i64 ((t.len : Nat) : Int)) ∧ ∃ k, w2 = w.drewN k := by
  obtain ⟨A, n, c, A2, n2, c2, A3, n3, c3, h, rfl⟩ := h
  unfold TrS.len at hs ⊢
  obtain rfl := h.hn.out
  obtain rfl := h.hn2.out
  obtain rfl := h.hn3.out
  have c1c := h.hb.cell 1
  have c2c := h.hb.cell 2
  have c3c := h.hb.cell 3
  simp only [List.getElem?_toArray, List.getElem?_cons_zero, List.getElem?_cons_succ] at c1c c2c c3c
  have e1 : IntKind.i64.wrap ((t.R.length : Int) + (t.G.length : Int)) = (t.R.length : Int) + (t.G.length : Int) := IntWalk.i64_in _ (by omega)
  have e2 : IntKind.i64.wrap ((t.R.length : Int) + (t.G.length : Int) + (t.P.length : Int)) = (t.R.length : Int) + (t.G.length : Int) + (t.P.length : Int) := IntWalk.i64_in _ (by omega)
  clear h
  go_enter Try.func32, Try.ntmps32
  go_wp2_with fail
  go_quiet (fail)
  go_wp2_with fail
  go_ret
  refine ⟨?_, nq, rfl⟩
  show Ending.returned (.int .i64 _) = _
  congr 2
end Go.Proofs.Ytfglikgifkpfpaa
