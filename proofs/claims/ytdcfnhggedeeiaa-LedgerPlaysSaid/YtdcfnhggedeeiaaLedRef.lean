/-
  gleanerref14.Ledger: what it holds; Get, Commit.
-/
import Derived.Test.YtdcfnhggedeeiaaLedgerWait
import Derived.Test.YtdcfnhggedeeiaaRiseWalk
import Derived.Test.YtdcfnhggedeeiaaFlatSet
import Derived.Test.YtdcfnhggedeeiaaRefValid
import Derived.Test.YtdcfnhggedeeiaaRowN
namespace Go.Proofs.Ytdcfnhggedeeiaa
open Go.RowKit
set_option linter.unusedVariables false
set_option linter.unusedSimpArgs false

/-- Who waits for a name, as it lies. -/
structure Wn where
  nm : ByteArray
  A : Option Addr
  n : Nat
  c : Nat
  L : List Int
def cellWn (x : Wn) : List Value := [.string x.nm, .slice x.A x.n x.c]
theorem cellWn_len (x : Wn) : (cellWn x).length = 2 := rfl
theorem cellWn_one (x : Wn) : ∀ u ∈ cellWn x, u.oneCell' = true := by
  intro u hu
  simp only [cellWn, List.mem_cons, List.not_mem_nil, or_false] at hu
  rcases hu with rfl | rfl <;> rfl
def wns (W : List Wn) : List Value := W.flatMap cellWn
theorem wns_snoc (W : List Wn) (x : Wn) : wns (W ++ [x]) = wns W ++ cellWn x := flat_snoc _ _ _
abbrev rkWn : RowKind Try.prog where
  t := 51
  e := 71
  z := .agg #[.string ⟨#[]⟩, .slice none 0 0]
  size := 2
  bytes := 40
  ht := Try.underlying51
  info := by kernel_rfl
  hz := rfl
  hs := by decide
  hb := by decide

/-- Where the document's ledger and its rows lie. -/
structure RlAt (w : World) (g : Nat) (T : List Cm) (W : List Wn) (A : Option Addr) (n c : Nat) (A2 : Option Addr) (n2 c2 : Nat) : Prop where
  hn : Hid (n = T.length)
  hn2 : Hid (n2 = W.length)
  hb : Blk w g 53 #[.slice A n c, .slice A2 n2 c2]
  hT : OwnR rkC w 0 (.slice A n c) n (cv T)
  hW : OwnR rkWn w 0 (.slice A2 n2 c2) n2 (wns W)
  rows : ∀ x ∈ W, OwnR rkN w 0 (.slice x.A x.n x.c) x.n (iv x.L)
theorem OwnR.apart2 {K K2 : RowKind Try.prog} {w : World} {b1 b2 n m : Nat} {v u : Value} {xs ys : List Value} (h : OwnR K w b1 v n xs) (h2 : OwnR K2 w b2 u m ys) (hne : K.e ≠ K2.e) : ∀ b, v.ownBlock = some b → u.ownBlock ≠ some b := by
  intro b hb hu
  rcases h2.2 with ⟨rfl, _⟩ | ⟨g2, cap, cur, rfl, _, hh, _⟩
  · simp [Value.ownBlock] at hu
  · have e : g2 = b := by simpa [Value.ownBlock] using hu
    subst e
    exact h.apart hh hne hb
/-- The blocks of the document's ledger. -/
def RlF (g : Nat) (v v2 : Value) (W : List Wn) (b : Nat) : Prop := b = g ∨ v.ownBlock = some b ∨ v2.ownBlock = some b ∨ ∃ x ∈ W, (Value.slice x.A x.n x.c).ownBlock = some b
section
variable {w w2 : World} {g : Nat} {T : List Cm} {W : List Wn} {A A2 : Option Addr} {n c n2 c2 : Nat}
theorem RlAt.chg {S : Nat → Prop} (h : RlAt w g T W A n c A2 n2 c2) (hc : Chg S w w2) (hs : ∀ b, RlF g (.slice A n c) (.slice A2 n2 c2) W b → ¬ S b) : RlAt w2 g T W A n c A2 n2 c2 :=
  ⟨h.hn, h.hn2, h.hb.chg hc (hs g (.inl rfl)), h.hT.chg hc (fun b e => hs b (.inr (.inl e))), h.hW.chg hc (fun b e => hs b (.inr (.inr (.inl e)))), fun x hx => (h.rows x hx).chg hc (fun b e => hs b (.inr (.inr (.inr ⟨x, hx, e⟩))))⟩
theorem RlAt.non (h : RlAt w g T W A n c A2 n2 c2) (hc : Chg Non w w2) : RlAt w2 g T W A n c A2 n2 c2 := h.chg hc fun _ _ => id
theorem RlAt.lt (h : RlAt w g T W A n c A2 n2 c2) : ∀ b, RlF g (.slice A n c) (.slice A2 n2 c2) W b → b < w.heap.size := by
  rintro b (rfl | hb | hb | ⟨x, hx, hb⟩)
  · exact h.hb.lt
  · exact (h.hT.lt hb).2
  · exact (h.hW.lt hb).2
  · exact ((h.rows x hx).lt hb).2
theorem RlAt.gT (h : RlAt w g T W A n c A2 n2 c2) : ∀ b, (Value.slice A n c).ownBlock = some b → b ≠ g := fun b hb e => h.hT.apart h.hb (by decide) (e ▸ hb)
theorem RlAt.gW (h : RlAt w g T W A n c A2 n2 c2) : ∀ b, (Value.slice A2 n2 c2).ownBlock = some b → b ≠ g := fun b hb e => h.hW.apart h.hb (by decide) (e ▸ hb)
end
/-- Block g is the document's ledger; F: the blocks that it uses. -/
def Rl (w : World) (F : Nat → Prop) (g : Nat) (T : List Cm) (W : List Wn) : Prop := ∃ A n c A2 n2 c2, RlAt w g T W A n c A2 n2 c2 ∧ F = RlF g (.slice A n c) (.slice A2 n2 c2) W
theorem Rl.chg {w w2 : World} {F S : Nat → Prop} {g : Nat} {T : List Cm} {W : List Wn} (h : Rl w F g T W) (hc : Chg S w w2) (hs : ∀ b, F b → ¬ S b) : Rl w2 F g T W := by
  obtain ⟨A, n, c, A2, n2, c2, h, rfl⟩ := h
  exact ⟨A, n, c, A2, n2, c2, h.chg hc hs, rfl⟩
theorem Rl.non {w w2 : World} {F : Nat → Prop} {g : Nat} {T : List Cm} {W : List Wn} (h : Rl w F g T W) (hc : Chg Non w w2) : Rl w2 F g T W := h.chg hc fun _ _ => id
theorem Rl.lt {w : World} {F : Nat → Prop} {g : Nat} {T : List Cm} {W : List Wn} (h : Rl w F g T W) : ∀ b, F b → b < w.heap.size := by
  obtain ⟨A, n, c, A2, n2, c2, h, rfl⟩ := h
  exact h.lt

theorem str_neL {a b : ByteArray} (h : a ≠ b) : (a.toList == b.toList) = false := by
  rw [beq_eq_false_iff_ne, ByteArray.toList_eq, ByteArray.toList_eq]
  intro e
  apply h
  obtain ⟨⟨a⟩⟩ := a
  obtain ⟨⟨b⟩⟩ := b
  simp at e
  rw [e]
theorem atI_spec {T : List Cm} {a : ByteArray} {k : Nat} (h : atI T a = some k) : k < T.length ∧ (∀ c, T[k]? = some c → c.1 = a) ∧ ∀ j c, j < k → T[j]? = some c → c.1 ≠ a := by
  unfold atI at h
  rw [List.findIdx?_eq_some_iff_getElem] at h
  obtain ⟨h1, h2, h3⟩ := h
  refine ⟨h1, fun c hc => ?_, fun j c hj hc => ?_⟩
  · rw [List.getElem?_eq_getElem h1] at hc
    obtain rfl := Option.some.inj hc
    simpa using h2
  · have := h3 j hj
    rw [List.getElem?_eq_getElem (by omega)] at hc
    obtain rfl := Option.some.inj hc
    simpa using this

set_option maxRecDepth 100000 in
set_option maxHeartbeats 1000000 in
theorem rlGet_none (w : World) (F : Nat → Prop) (g : Nat) (T : List Cm) (W : List Wn) (nm : ByteArray) (h : Rl w F g T W) (hno : atI T nm = none) (hT : T.length ≤ 100000) :
    Calls Try.prog 17 #[.pointer (some ⟨g, 0, none⟩), .string nm] w fun e w2 => e = .returned (.tuple #[.agg #[.int .i64 0, .int .i64 0], .bool false]) ∧ Chg Non w w2 := by
  obtain ⟨A, n, c, A2, n2, c2, h, hF⟩ := h
  obtain ⟨w1, hw1⟩ : ∃ w1, w.alloc (.cells #[.int .i64 0, .int .i64 0] 31) = w1 := ⟨_, rfl⟩
  have hc1 : Chg Non w w1 := hw1 ▸ (Chg.refl _ _).alloc _
  have hbx : Blk w1 w.heap.size 31 #[.int .i64 0, .int .i64 0] := hw1 ▸ Blk.new _ _ _
  have h1 := h.non hc1
  have c0c := h1.hb.cell 0
  have x0 := hbx.cell 0
  have x1 := hbx.cell 1
  have f0 := hbx.frozen 0
  have f1 := hbx.frozen 1
  simp only [List.getElem?_toArray, List.getElem?_cons_zero, List.getElem?_cons_succ] at c0c x0 x1
  have hgl := h1.hb.lt
  have hbl := hbx.lt
  have hg0 := h.hb.lt
  have hr := Lib.hid h1.hT.rds
  have hn := h.hn
  have hnl : n ≤ 100000 := by have := hn.out; omega
  have Hno := Lib.hid (atI_none.1 hno)
  clear h h1 hno hF hbx
  go_enter Try.func17, Try.ntmps17
  go_wp2_with fail
  go_loop [6] (fun i => ∃ k : Nat, k ≤ n ∧ i = .int .i64 k) (fun i => n - (intOf i).toNat)
  case atStart => exact ⟨0, Nat.zero_le _, rfl⟩
  case round =>
    obtain ⟨k, hk, rfl⟩ := hrel
    by_cases hlt : k < n
    · obtain ⟨ad, ⟨s, x, y⟩, rfl, hx, hc0, hcN⟩ := hr.out.getN cellC_len (by decide) hlt
      have a0 : w1.cell? (ad.add (k * 3)) = some (.string s) := hc0 _ rfl
      have hne := str_neL (Hno.out _ (List.mem_of_getElem? hx))
      simp only at hne
      clear hc0 hcN hx
      go_wp2_with fail
      go_round
      case rel => exact ⟨k + 1, by omega, by go_num⟩
      case measure => simp [intOf]; omega
    · go_wp2_with fail
      refine bodyPost_ret (v := .tuple #[.agg #[.int .i64 0, .int .i64 0], .bool false]) (by simp [results, Try.results17, go_sem, *]) rfl ?_
      exact ⟨rfl, (hc1.setCell (p := ⟨w.heap.size, 0, none⟩) (.inr (Nat.le_refl _)) _).setCell (p := ⟨w.heap.size, 1, none⟩) (.inr (Nat.le_refl _)) _⟩

set_option maxRecDepth 100000 in
set_option maxHeartbeats 1000000 in
theorem rlGet_some (w : World) (F : Nat → Prop) (g : Nat) (T : List Cm) (W : List Wn) (nm : ByteArray) (x y : Int) (k0 : Nat) (h : Rl w F g T W) (hk0 : atI T nm = some k0) (hx0 : T[k0]? = some (nm, x, y)) (hT : T.length ≤ 100000) :
    Calls Try.prog 17 #[.pointer (some ⟨g, 0, none⟩), .string nm] w fun e w2 => e = .returned (.tuple #[.agg #[.int .i64 x, .int .i64 y], .bool true]) ∧ Chg Non w w2 := by
  obtain ⟨A, n, c, A2, n2, c2, h, hF⟩ := h
  obtain ⟨w1, hw1⟩ : ∃ w1, w.alloc (.cells #[.int .i64 0, .int .i64 0] 31) = w1 := ⟨_, rfl⟩
  have hc1 : Chg Non w w1 := hw1 ▸ (Chg.refl _ _).alloc _
  have hbx : Blk w1 w.heap.size 31 #[.int .i64 0, .int .i64 0] := hw1 ▸ Blk.new _ _ _
  have h1 := h.non hc1
  have c0c := h1.hb.cell 0
  have x0 := hbx.cell 0
  have x1 := hbx.cell 1
  have f0 := hbx.frozen 0
  have f1 := hbx.frozen 1
  simp only [List.getElem?_toArray, List.getElem?_cons_zero, List.getElem?_cons_succ] at c0c x0 x1
  have hgl := h1.hb.lt
  have hbl := hbx.lt
  have hg0 := h.hb.lt
  have hr := Lib.hid h1.hT.rds
  have hn := h.hn
  have hnl : n ≤ 100000 := by have := hn.out; omega
  obtain ⟨hk1, _, hk3⟩ := atI_spec hk0
  have hk1n : k0 < n := by have := hn.out; omega
  have Hk3 := Lib.hid hk3
  have Hx0 := Lib.hid hx0
  clear h h1 hk0 hk3 hx0 hF hbx hk1
  go_enter Try.func17, Try.ntmps17
  go_wp2_with fail
  go_loop [6] (fun i => ∃ k : Nat, k ≤ k0 ∧ i = .int .i64 k) (fun i => n - (intOf i).toNat)
  case atStart => exact ⟨0, Nat.zero_le _, rfl⟩
  case round =>
    obtain ⟨k, hk, rfl⟩ := hrel
    have hlt : k < n := by omega
    obtain ⟨ad, ⟨s, p, q⟩, rfl, hx, hc0, hcN⟩ := hr.out.getN cellC_len (by decide) hlt
    have a0 : w1.cell? (ad.add (k * 3)) = some (.string s) := hc0 _ rfl
    have a1 : w1.cell? ⟨(ad.add (k * 3)).block, (ad.add (k * 3)).off + 1, none⟩ = some (.int .i64 p) := hcN 0 _ rfl
    have a2 : w1.cell? ⟨(ad.add (k * 3)).block, (ad.add (k * 3)).off + 2, none⟩ = some (.int .i64 q) := hcN 1 _ rfl
    by_cases he : k = k0
    · subst he
      have e9 := Hx0.out
      rw [hx] at e9
      obtain ⟨rfl, rfl, rfl⟩ : s = nm ∧ p = x ∧ q = y := by
        have := Option.some.inj e9
        simp at this
        exact this
      have ss : (s.toList == s.toList) = true := beq_self_eq_true _
      clear hc0 hcN hx e9
      go_wp2_with fail
      refine bodyPost_ret (v := .tuple #[.agg #[.int .i64 p, .int .i64 q], .bool true]) (by simp [results, Try.results17, go_sem, *]) rfl ?_
      exact ⟨rfl, (hc1.setCell (p := ⟨w.heap.size, 0, none⟩) (.inr (Nat.le_refl _)) _).setCell (p := ⟨w.heap.size, 1, none⟩) (.inr (Nat.le_refl _)) _⟩
    · have hne := str_neL (Hk3.out k _ (by omega) hx)
      simp only at hne
      clear hc0 hcN hx
      go_wp2_with fail
      go_round
      case rel => exact ⟨k + 1, by omega, by go_num⟩
      case measure => simp [intOf]; omega

/-- What a call leaves of the document's ledger. -/
def RlPost (w : World) (F : Nat → Prop) (g : Nat) (v : Value) (T : List Cm) (W : List Wn) (e : Ending) (w2 : World) : Prop :=
  e = .returned v ∧ ∃ F2, Rl w2 F2 g T W ∧ (∀ b, F2 b → F b ∨ w.heap.size ≤ b) ∧ Chg F w w2
set_option maxRecDepth 100000 in
set_option maxHeartbeats 1000000 in
theorem rlCommit_no (w : World) (F : Nat → Prop) (g : Nat) (T : List Cm) (W : List Wn) (nm : ByteArray) (x y : Int) (h : Rl w F g T W) (hnm : nm.size ≤ 1000) (hT : T.length ≤ 100000) (hno : vid nm = false ∨ ∃ k, atI T nm = some k) :
    Calls Try.prog 15 #[.pointer (some ⟨g, 0, none⟩), .string nm, .agg #[.int .i64 x, .int .i64 y]] w (RlPost w F g (.bool false) T W) := by
  have hnz : nm.size ≤ 9223372036854775807 := by omega
  have hcA : Chg Non w (w.alloc (.cells #[.int .i64 x, .int .i64 y] 31)) := (Chg.refl _ _).alloc _
  have hA := h.non hcA
  have Hstay : Hid (∀ w2, Chg Non w w2 → RlPost w F g (.bool false) T W (.returned (.bool false)) w2) := fun w2 hc => ⟨rfl, F, h.non hc, fun b hb => .inl hb, hc.of_non⟩
  have hgl : g < w.heap.size := by obtain ⟨_, _, _, _, _, _, h, _⟩ := h; exact h.hb.lt
  cases ha : atI T nm with
  | some k =>
    obtain ⟨hk1, hk2, _⟩ := atI_spec ha
    obtain ⟨⟨s, p, q⟩, hx⟩ : ∃ c, T[k]? = some c := ⟨_, List.getElem?_eq_getElem hk1⟩
    obtain rfl : s = nm := hk2 _ hx
    have H := Lib.hid (rlGet_some _ F g T W s p q k hA ha hx hT)
    clear h hno ha hA hx hk1 hk2
    go_enter Try.func15, Try.ntmps15
    go_wp2_with fail
    refine H.out.mono ?_
    rintro e w2 ⟨rfl, hc2⟩
    have hC2 := hcA.non hc2
    clear hc2 hcA
    go_wp2_with fail
    refine (refValid_any s _ hnz).mono ?_
    rintro e w9 ⟨rfl, rfl⟩
    go_wp2_with fail
    go_ret
    exact Hstay.out _ (hC2.alloc _)
  | none =>
    have hv : vid nm = false := by
      rcases hno with h | ⟨k, h⟩
      · exact h
      · rw [ha] at h; cases h
    have Hv := Lib.hid hv
    have H := Lib.hid (rlGet_none _ F g T W nm hA ha hT)
    clear h hno ha hA hv
    go_enter Try.func15, Try.ntmps15
    go_wp2_with fail
    refine H.out.mono ?_
    rintro e w2 ⟨rfl, hc2⟩
    have hC2 := hcA.non hc2
    clear hc2 hcA
    go_wp2_with fail
    refine (refValid_any nm _ hnz).mono ?_
    rintro e w9 ⟨rfl, rfl⟩
    rw [Hv.out]
    go_wp2_with fail
    go_ret
    exact Hstay.out _ (hC2.alloc _)
end Go.Proofs.Ytdcfnhggedeeiaa
