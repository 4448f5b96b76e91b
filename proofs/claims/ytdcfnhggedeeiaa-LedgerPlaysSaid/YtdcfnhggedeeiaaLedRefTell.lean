/-
  gleanerref14.Ledger: Want of a name that has a result, or is none; Tell.
-/
import Derived.Test.YtdcfnhggedeeiaaLedRefWant
namespace Go.Proofs.Ytdcfnhggedeeiaa
open Go.RowKit
set_option linter.unusedVariables false
set_option linter.unusedSimpArgs false

set_option maxRecDepth 100000 in
set_option maxHeartbeats 1000000 in
theorem rlWant_got (w : World) (F : Nat → Prop) (g : Nat) (T : List Cm) (W : List Wn) (nm : ByteArray) (x y : Int) (k0 : Nat) (B : Option Addr) (m d : Nat) (h : Rl w F g T W) (hnm : nm.size ≤ 1000) (hT : T.length ≤ 100000) (hk0 : atI T nm = some k0) (hx0 : T[k0]? = some (nm, x, y)) :
    Calls Try.prog 19 #[.pointer (some ⟨g, 0, none⟩), .string nm, .slice B m d] w fun e w2 => e = .returned (.tuple #[.agg #[.int .i64 x, .int .i64 y], .bool true]) ∧ Chg Non w w2 := by
  have hnz : nm.size ≤ 9223372036854775807 := by omega
  have hcA : Chg Non w (w.alloc (.cells #[.int .i64 0, .int .i64 0] 31)) := (Chg.refl _ _).alloc _
  have hgl : g < w.heap.size := by obtain ⟨_, _, _, _, _, _, h, _⟩ := h; exact h.hb.lt
  have hb0 := Blk.new w 31 #[.int .i64 0, .int .i64 0]
  have H := Lib.hid (rlGet_some _ F g T W nm x y k0 (h.non hcA) hk0 hx0 hT)
  clear h hk0 hx0
  go_enter Try.func19, Try.ntmps19
  go_wp2_with fail
  refine H.out.mono ?_
  rintro e w2 ⟨rfl, hc2⟩
  have hC2 := hcA.non hc2
  have hb2 := hb0.non hc2
  have c0 : w2.cell? ⟨w.heap.size, 0, none⟩ = some (.int .i64 0) := hb2.cell 0
  have c1 : w2.cell? ⟨w.heap.size, 1, none⟩ = some (.int .i64 0) := hb2.cell 1
  have f0 := hb2.frozen 0
  have f1 := hb2.frozen 1
  have hl2 := hb2.lt
  clear hc2 hb2 hcA hb0
  go_wp2_with fail
  refine (refValid_any nm _ hnz).mono ?_
  rintro e w9 ⟨rfl, rfl⟩
  go_wp2_with fail
  refine bodyPost_ret (v := .tuple #[.agg #[.int .i64 x, .int .i64 y], .bool true]) (by simp [results, Try.results19, go_sem, *]) rfl ?_
  exact ⟨rfl, ((hC2.setCell (p := ⟨w.heap.size, 0, none⟩) (.inr (Nat.le_refl _)) _).setCell (p := ⟨w.heap.size, 1, none⟩) (.inr (Nat.le_refl _)) _).alloc _⟩

set_option maxRecDepth 100000 in
set_option maxHeartbeats 1000000 in
theorem rlWant_bad (w : World) (F : Nat → Prop) (g : Nat) (T : List Cm) (W : List Wn) (nm : ByteArray) (B : Option Addr) (m d : Nat) (h : Rl w F g T W) (hnm : nm.size ≤ 1000) (hT : T.length ≤ 100000) (hno : atI T nm = none) (hv : vid nm = false) :
    Calls Try.prog 19 #[.pointer (some ⟨g, 0, none⟩), .string nm, .slice B m d] w fun e w2 => e = .returned (.tuple #[.agg #[.int .i64 0, .int .i64 0], .bool false]) ∧ Chg Non w w2 := by
  have hnz : nm.size ≤ 9223372036854775807 := by omega
  have hcA : Chg Non w (w.alloc (.cells #[.int .i64 0, .int .i64 0] 31)) := (Chg.refl _ _).alloc _
  have hgl : g < w.heap.size := by obtain ⟨_, _, _, _, _, _, h, _⟩ := h; exact h.hb.lt
  have hb0 := Blk.new w 31 #[.int .i64 0, .int .i64 0]
  have H := Lib.hid (rlGet_none _ F g T W nm (h.non hcA) hno hT)
  have Hv := Lib.hid hv
  clear h hno hv
  go_enter Try.func19, Try.ntmps19
  go_wp2_with fail
  refine H.out.mono ?_
  rintro e w2 ⟨rfl, hc2⟩
  have hC2 := hcA.non hc2
  have hb2 := hb0.non hc2
  have c0 : w2.cell? ⟨w.heap.size, 0, none⟩ = some (.int .i64 0) := hb2.cell 0
  have c1 : w2.cell? ⟨w.heap.size, 1, none⟩ = some (.int .i64 0) := hb2.cell 1
  have f0 := hb2.frozen 0
  have f1 := hb2.frozen 1
  have hl2 := hb2.lt
  clear hc2 hb2 hcA hb0
  go_wp2_with fail
  refine (refValid_any nm _ hnz).mono ?_
  rintro e w9 ⟨rfl, rfl⟩
  rw [Hv.out]
  go_wp2_with fail
  refine bodyPost_ret (v := .tuple #[.agg #[.int .i64 0, .int .i64 0], .bool false]) (by simp [results, Try.results19, go_sem, *]) rfl ?_
  exact ⟨rfl, ((hC2.setCell (p := ⟨w.heap.size, 0, none⟩) (.inr (Nat.le_refl _)) _).setCell (p := ⟨w.heap.size, 1, none⟩) (.inr (Nat.le_refl _)) _).alloc _⟩

set_option maxRecDepth 100000 in
set_option maxHeartbeats 1000000 in
theorem rlTell_no (w : World) (F : Nat → Prop) (g : Nat) (T : List Cm) (W : List Wn) (nm : ByteArray) (h : Rl w F g T W) (hT : T.length ≤ 100000) (hno : atI T nm = none) :
    Calls Try.prog 20 #[.pointer (some ⟨g, 0, none⟩), .string nm] w fun e w2 => e = .returned (.slice none 0 0) ∧ Chg Non w w2 := by
  have hgl : g < w.heap.size := by obtain ⟨_, _, _, _, _, _, h, _⟩ := h; exact h.hb.lt
  have H := Lib.hid (rlGet_none w F g T W nm h hno hT)
  obtain ⟨A, n, c, A2, n2, c2, h, hF⟩ := h
  have c1c : ∀ wx, Chg Non w wx → wx.cell? ⟨g, 1, none⟩ = some (.slice A2 n2 c2) := fun wx hx => hx.cell (h.hb.cell 1) _root_.id
  clear h hF hno
  go_enter Try.func20, Try.ntmps20
  go_wp2_with fail
  refine H.out.mono ?_
  rintro e w2 ⟨rfl, hc2⟩
  have hgl2 : g < w2.heap.size := by have := hc2.size; omega
  have hcA := hc2.alloc (.cells #[.int .i64 0, .int .i64 0] 31)
  have k1 := c1c w2 hc2
  go_wp2_with fail
  by_cases h0 : 0 < n2
  · have h00 : (0 : Int) < (n2 : Int) := by omega
    have hd : decide ((0 : Int) < (n2 : Int)) = true := decide_eq_true h00
    go_loop [7, 8] (fun u i => u = .slice none 0 0 ∧ i = .int .i64 0) (fun _ i => 0)
    case atStart => exact ⟨rfl, rfl⟩
    case round =>
      obtain ⟨rfl, rfl⟩ := hrel
      go_wp2_with fail
      go_ret
      exact ⟨rfl, hcA⟩
  · have h00 : n2 = 0 := by omega
    subst h00
    go_loop [7, 8] (fun u i => u = .slice none 0 0 ∧ i = .int .i64 0) (fun _ i => 0)
    case atStart => exact ⟨rfl, rfl⟩
    case round =>
      obtain ⟨rfl, rfl⟩ := hrel
      go_wp2_with fail
      go_ret
      exact ⟨rfl, hcA⟩

/-- Tell of a name that has a result. -/
def RlTellPost (w : World) (F : Nat → Prop) (g q : Nat) (T : List Cm) (W : List Wn) (nm : ByteArray) (e : Ending) (w2 : World) : Prop :=
  ∃ v m L F2 W2, e = .returned v ∧ OwnR rkN w2 0 v m (iv L) ∧ RisesI L ∧ (∀ y, y ∈ L ↔ dW W nm y = true) ∧ Rl w2 F2 g T W2 ∧ (∀ a y, dW W2 a y = (!decide (a = nm) && dW W a y)) ∧ WnOk W2 q ∧ W2.length = W.length ∧ (∀ b, F2 b → F b ∨ w.heap.size ≤ b) ∧ Chg F w w2

set_option maxRecDepth 100000 in
set_option maxHeartbeats 4000000 in
theorem rlTell_yes (w : World) (F : Nat → Prop) (g q : Nat) (T : List Cm) (W : List Wn) (nm : ByteArray) (x y : Int) (k : Nat) (h : Rl w F g T W) (hok : WnOk W q) (hT : T.length ≤ 100000) (hWl : W.length ≤ 100000) (hk0 : atI T nm = some k) (hx0 : T[k]? = some (nm, x, y)) :
    Calls Try.prog 20 #[.pointer (some ⟨g, 0, none⟩), .string nm] w (RlTellPost w F g q T W nm) := by
  have hgl : g < w.heap.size := by obtain ⟨_, _, _, _, _, _, h, _⟩ := h; exact h.hb.lt
  have H := Lib.hid (rlGet_some w F g T W nm x y k h hk0 hx0 hT)
  have Hok := Lib.hid hok
  clear hk0 hx0 hok
  go_enter Try.func20, Try.ntmps20
  go_wp2_with fail
  refine H.out.mono ?_
  rintro e w2 ⟨rfl, hc2⟩
  clear H
  have hgl2 : g < w2.heap.size := by have := hc2.size; omega
  go_wp2_with fail
  obtain ⟨w3, hw3⟩ : ∃ w3, w2.alloc (.cells #[.int .i64 x, .int .i64 y] 31) = w3 := ⟨_, rfl⟩
  have hc3 : Chg Non w2 w3 := hw3 ▸ (Chg.refl _ _).alloc _
  have hC3 := hc2.non hc3
  rw [hw3]
  clear hw3 hc2 hc3
  obtain ⟨A, n, c, A2, n2, c2, h, hF⟩ := h.non hC3
  have Hp := Lib.hid hF
  have hn2 := h.hn2
  have hn2l : n2 ≤ 100000 := by have := hn2.out; omega
  have hgl3 := h.hb.lt
  have HA := Lib.hid h
  have hs3 := hC3.size
  clear h hF
  cases hk0 : wAt W nm with
  | none =>
    have Hwn := Lib.hid (wAt_none.1 hk0)
    have Hdn := Lib.hid (fun y => dW_none hk0 y)
    have c13 : w3.cell? ⟨g, 1, none⟩ = some (.slice A2 n2 c2) := HA.out.hb.cell 1
    have HrW := Lib.hid HA.out.hW.rds
    clear hk0
    go_loop [7, 8] (fun u i => ∃ j : Nat, j ≤ n2 ∧ i = .int .i64 j ∧ u = .slice none 0 0) (fun _ i => n2 - (intOf i).toNat)
    case atStart => exact ⟨0, Nat.zero_le _, rfl, rfl⟩
    case round =>
      obtain ⟨j, hj, rfl, rfl⟩ := hrel
      by_cases hjk : j < n2
      · obtain ⟨ad, z, rfl, hz, hc0, _⟩ := HrW.out.getN cellWn_len (by decide) hjk
        have a0 : w3.cell? (ad.add (j * 2)) = some (.string z.nm) := hc0 _ rfl
        have hne := str_neL (Hwn.out z (List.mem_of_getElem? hz))
        clear hc0 hz
        go_wp2_with fail
        go_round
        case rel => exact ⟨j + 1, by omega, by go_num, rfl⟩
        case measure => simp [intOf]; omega
      · go_wp2_with fail
        go_ret
        exact ⟨_, 0, [], F, W, rfl, OwnR.nil _ _ _, List.Pairwise.nil, fun y => by rw [Hdn.out y]; simp, ⟨A, n, c, A2, n2, c2, HA.out, Hp.out⟩, fun a z => by
          by_cases e : a = nm
          · rw [e, Hdn.out z]; simp
          · simp [e], Hok.out, rfl, fun b hb => .inl hb, hC3.of_non⟩
  | some k0 =>
    obtain ⟨x0, hx0, hx0n, hx0f⟩ := wAt_spec hk0
    have hk0n : k0 < n2 := by have := (List.getElem?_eq_some_iff.1 hx0).1; have := hn2.out; omega
    have Hx0 := Lib.hid hx0
    have Hx0n := Lib.hid hx0n
    obtain ⟨gb, cb, hv2, _⟩ := HA.out.hW.form (show 0 < n2 by omega)
    injection hv2 with e1 e2 e3
    subst e1
    subst e3
    have hgbg : gb ≠ g := HA.out.gW gb rfl
    clear hk0 hx0 hx0n hx0f
    go_loopw [7, 8] (fun u i wr => ∃ (j : Nat) (b : Bool), j ≤ n2 ∧ i = .int .i64 j ∧ b = decide (k0 < j) ∧ u = (if b then .slice x0.A x0.n x0.c else .slice none 0 0) ∧ RlAt wr g T (if b then W.set k0 ⟨nm, none, 0, 0, []⟩ else W) A n c (some ⟨gb, 0, none⟩) n2 c2 ∧ Chg (fun b => b = gb) w3 wr) (fun _ i _ => n2 - (intOf i).toNat)
    case atStart => exact ⟨0, false, Nat.zero_le _, rfl, by simp, rfl, HA.out, Chg.refl _ _⟩
    case round =>
      obtain ⟨j, b, hj, rfl, hb, hu, hR, hC⟩ := hrel
      have k1 : wr.cell? ⟨g, 1, none⟩ = some (.slice (some ⟨gb, 0, none⟩) n2 c2) := hR.hb.cell 1
      have hglr := hR.hb.lt
      by_cases hlt : j < n2
      · by_cases hjk : j = k0
        · subst hjk
          obtain rfl : b = false := by rw [hb]; simp
          rw [if_neg Bool.false_ne_true] at hR hu
          have q0 : wr.cell? ⟨gb, j * 2, none⟩ = some (.string x0.nm) := hR.hW.cellN cellWn_len Hx0.out (j := 0) rfl
          rw [Hx0n.out] at q0
          have q1 : wr.cell? ⟨gb, j * 2 + 1, none⟩ = some (.slice x0.A x0.n x0.c) := hR.hW.cellN cellWn_len Hx0.out (j := 1) rfl
          have f1 : wr.frozen? ⟨gb, j * 2 + 1, none⟩ = false := hR.hW.frozen _
          have ss : (nm.toList == nm.toList) = true := beq_self_eq_true _
          have hput := hR.hW.putN cellWn_len ⟨nm, none, 0, 0, []⟩ Hx0.out (j := 1) (u := .slice none 0 0) (by decide) (by show [Value.string nm, .slice none 0 0] = _; rw [← Hx0n.out]; rfl)
          have hSt : Chg (fun b => b = gb) wr (wr.setCell ⟨gb, j * 2 + 1, none⟩ (.slice none 0 0)) := (Chg.refl _ wr).set1 _ _
          have hR8 : RlAt (wr.setCell ⟨gb, j * 2 + 1, none⟩ (.slice none 0 0)) g T (W.set j ⟨nm, none, 0, 0, []⟩) A n c (some ⟨gb, 0, none⟩) n2 c2 := by
            refine ⟨hR.hn, ?_, hR.hb.chg hSt (fun e => hgbg e.symm), hR.hT.chg hSt (fun b hb e => (hR.hT.apart2 hR.hW (by decide)) b hb (by rw [show b = gb from e]; rfl)), hput, ?_⟩
            · show _ = _
              rw [List.length_set]
              exact hR.hn2.out
            · intro z hz
              rcases List.mem_or_eq_of_mem_set hz with hz | rfl
              · exact (hR.rows z hz).chg hSt (fun b hb e => (hR.hW.apart2 (hR.rows z hz) (by decide)) gb rfl (by rw [← show b = gb from e]; exact hb))
              · exact OwnR.nil _ _ _
          have HR8 := Lib.hid hR8
          have hC8 := hC.trans hSt
          clear hR hR8 hput hSt hC hb hu
          go_wp2_with fail
          go_roundw
          case rel => exact ⟨j + 1, true, by omega, by go_num, by simp, rfl, by rw [if_pos rfl]; exact HR8.out, hC8⟩
          case measure => simp [intOf]; omega
        · obtain ⟨z, hz⟩ : ∃ z, (if b then W.set k0 ⟨nm, none, 0, 0, []⟩ else W)[j]? = some z := by
            have hl := hR.hn2.out
            exact ⟨_, List.getElem?_eq_getElem (by omega)⟩
          have q0 : wr.cell? ⟨gb, j * 2, none⟩ = some (.string z.nm) := hR.hW.cellN cellWn_len hz (j := 0) rfl
          have hzn : z.nm ≠ nm := by
            have hz2 : W[j]? = some z := by
              cases b with
              | false => exact hz
              | true =>
                rw [if_pos rfl, List.getElem?_set_ne (Ne.symm hjk)] at hz
                exact hz
            intro e
            exact hjk (nd_at Hok.out.nd hz2 Hx0.out (e.trans Hx0n.out.symm))
          have hne := str_neL hzn
          have hb2 : b = decide (k0 < j + 1) := by
            rw [hb, decide_eq_decide]
            omega
          have HR := Lib.hid hR
          have Hu := Lib.hid hu
          have Hb2 := Lib.hid hb2
          clear hz hzn hR hu hb hb2
          go_wp2_with fail
          go_roundw
          case rel => exact ⟨j + 1, b, by omega, by go_num, Hb2.out, Hu.out, HR.out, hC⟩
          case measure => simp [intOf]; omega
      · obtain rfl : b = true := by rw [hb]; simp; omega
        rw [if_pos rfl] at hR
        have hu2 : u7 = .slice x0.A x0.n x0.c := by rw [hu]; rfl
        subst hu2
        have HR := Lib.hid hR
        have hx0W : x0 ∈ W := List.mem_of_getElem? Hx0.out
        have hrow := (HA.out.rows x0 hx0W).chg hC (fun b hb e => (HA.out.hW.apart2 (HA.out.rows x0 hx0W) (by decide)) gb rfl (by rw [← show b = gb from e]; exact hb))
        have Hrow := Lib.hid hrow
        clear hR hrow hb hu
        go_wp2_with fail
        go_ret
        have hFg : ∀ b, RlF g (.slice A n c) (.slice (some ⟨gb, 0, none⟩) n2 c2) W b → F b := fun b h => by rw [Hp.out]; exact h
        refine ⟨_, x0.n, x0.L, RlF g (.slice A n c) (.slice (some ⟨gb, 0, none⟩) n2 c2) (W.set k0 ⟨nm, none, 0, 0, []⟩), W.set k0 ⟨nm, none, 0, 0, []⟩, rfl, Hrow.out, (Hok.out.rise x0 hx0W).1, fun y => ?_, ⟨A, n, c, _, n2, c2, HR.out, rfl⟩, fun a z => ?_, ?_, by rw [List.length_set], ?_, hC3.of_non.trans2 hC (fun b e => .inl (hFg b (by rw [show b = gb from e]; exact .inr (.inr (.inl rfl)))))⟩
        · have h9 := dW_at Hok.out Hx0.out y
          rw [Hx0n.out] at h9
          rw [h9]
          simp [inL]
        · rw [dW_set Hok.out Hx0.out (by rw [Hx0n.out]), Hx0n.out]
          by_cases e : a = nm
          · rw [if_pos e]; simp [e, inL]
          · rw [if_neg e]; simp [e]
        · exact Hok.out.set (Nat.le_refl _) Hx0.out (by rw [Hx0n.out]) List.Pairwise.nil (Nat.zero_le _)
        · intro b hb
          left
          rcases hb with hb | hb | hb | ⟨z, hz, hb⟩
          · exact hFg b (.inl hb)
          · exact hFg b (.inr (.inl hb))
          · exact hFg b (.inr (.inr (.inl hb)))
          · rcases List.mem_or_eq_of_mem_set hz with hz | rfl
            · exact hFg b (.inr (.inr (.inr ⟨z, hz, hb⟩)))
            · cases hb
end Go.Proofs.Ytdcfnhggedeeiaa
