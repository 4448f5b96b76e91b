/-
  ledger.Ledger: who waits for what: Want, Tell.
-/
import Derived.Test.YtdcfnhggedeeiaaLedgerMore
import Derived.Test.YtdcfnhggedeeiaaSets
import Derived.Test.YtdcfnhggedeeiaaWaitKeys
import Derived.Test.YtdcfnhggedeeiaaGet
namespace Go.Proofs.Ytdcfnhggedeeiaa
open Go.RowKit
set_option linter.unusedVariables false
set_option linter.unusedSimpArgs false

noncomputable abbrev inK : KeyKind Try.prog 3 Int := intKey Try.underlying3
/-- Is a number in a list? -/
def inL (l : List Int) (x : Int) : Bool := decide (x ∈ l)
theorem inL_snoc (l : List Int) (x y : Int) : inL (l ++ [x]) y = (inL l y || decide (y = x)) := by
  unfold inL
  by_cases h1 : y ∈ l <;> by_cases h2 : y = x <;> simp [h1, h2]
theorem wf_of {x : Int} (h : i64 x) : (Lit.int .i64 x).wf = true := by
  have h1 : IntKind.i64.min = -9223372036854775808 := rfl
  have h2 : IntKind.i64.max = 9223372036854775807 := rfl
  unfold i64 at h
  simp only [Lit.wf, Bool.and_eq_true, decide_eq_true_eq]
  omega
theorem Led.g2 {w : World} {F : Nat → Prop} {g mw : Nat} {T : List Cm} (h : Led w F g mw T) : w.cell? ⟨g, 2, none⟩ = some (.map (some mw)) := by
  obtain ⟨⟨A, c, m1, hb, _⟩, _⟩ := h
  exact hb.cell 2
theorem Led.gF {w : World} {F : Nat → Prop} {g mw : Nat} {T : List Cm} (h : Led w F g mw T) : F g ∧ g < w.heap.size := by
  obtain ⟨⟨A, c, m1, hb, _, _, h1, _⟩, _⟩ := h
  exact ⟨h1, hb.lt⟩

/-- Want of a name that has no result: the nodes wait. -/
def WantPost (w : World) (F : Nat → Prop) (mw q m : Nat) (D : ByteArray → Int → Bool) (id : ByteArray) (l : List Int) (e : Ending) (w2 : World) : Prop :=
  e = .returned (.tuple #[.agg #[.int .i64 0, .int .i64 0], .bool false]) ∧ ∃ F2 n2 f2, Sets idKey inK w2 F2 mw n2 f2 (fun a x => D a x || (decide (a = id) && inL l x)) (q + m) ∧ n2 ≤ q + 1 ∧ (∀ b, F2 b → F b ∨ w.heap.size ≤ b) ∧ Chg F w w2

set_option maxRecDepth 100000 in
set_option maxHeartbeats 4000000 in
theorem ledWant_yes (w : World) (F FL : Nat → Prop) (g mw : Nat) (T : List Cm) (n q : Nat) (f : ByteArray → Option Nat) (D : ByteArray → Int → Bool) (id : ByteArray) (A : Option Addr) (m c : Nat) (l : List Int) (hL : Led w FL g mw T) (hS : Sets idKey inK w F mw n f D q) (hFF : ∀ b, FL b → ¬ F b) (hno : atI T id = none) (hv : vid id = true)
    (hr : Rds w 1 A m (iv l)) (hl : ∀ x ∈ l, i64 x) (hA : 0 < m → ∀ ad, A = some ad → ¬ F ad.block) (hm : m ≤ 1000) (hq : q ≤ 100000000) (hn : n ≤ q) :
    Calls Try.prog 11 #[.pointer (some ⟨g, 0, none⟩), .string id, .slice A m c] w (WantPost w F mw q m D id l) := by
  have hid : id.size ≤ maxLen := by have := vid_small hv; unfold maxLen; omega
  have Hv := Lib.hid hv
  have Hno := Lib.hid hno
  have Hll := Lib.hid hr.lenMap
  have Hl : Hid (∀ x ∈ l, (Lit.int .i64 x).wf = true) := fun x hx => wf_of (hl x hx)
  have HA := Lib.hid hA
  have Hr := Lib.hid hr
  have hgF0 := hL.gF
  have hgw : ¬ F g := hFF _ hgF0.1
  have hgl := hgF0.2
  obtain ⟨s0, hs0⟩ : ∃ s0, w.heap.size = s0 := ⟨_, rfl⟩
  obtain ⟨w1, hw1⟩ : ∃ w1, w.alloc (.cells #[.int .i64 0, .int .i64 0] 31) = w1 := ⟨_, rfl⟩
  have hc1 : Chg Non w w1 := hw1 ▸ (Chg.refl _ _).alloc _
  have hbox : Blk w1 s0 31 #[.int .i64 0, .int .i64 0] := hw1 ▸ hs0 ▸ Blk.new _ _ _
  have hL1 := hL.non hc1
  have hS1 := hS.non hc1
  have hFl := hS.lt
  have HL := Lib.hid hL
  have HFF := Lib.hid hFF
  clear hv hno hl hA hr hL hS hFF hgF0
  go_enter Try.func11, Try.ntmps11
  go_wp2_with fail
  refine (ledGet_none w1 FL g mw T id hL1 hid Hno.out).mono ?_
  rintro e w2 ⟨rfl, hc2⟩
  have hS2 := hS1.non hc2
  have hbox2 := hbox.non hc2
  have hC2 := hc1.non hc2
  have hgl2 : g < w2.heap.size := by have := hC2.size; omega
  clear hL1 hS1 hbox hc1 hc2 hw1
  go_wp2_with fail
  obtain ⟨w3, hw3⟩ : ∃ w3, w2.alloc (.cells #[.int .i64 0, .int .i64 0] 31) = w3 := ⟨_, rfl⟩
  have hc3 : Chg Non w2 w3 := hw3 ▸ (Chg.refl _ _).alloc _
  have hS3 := hS2.non hc3
  have hbox3 := hbox2.non hc3
  have hC3 := hC2.non hc3
  have hgl3 : g < w3.heap.size := by have := hc3.size; omega
  have c23 : w3.cell? ⟨g, 2, none⟩ = some (.map (some mw)) := hC3.cell HL.out.g2 _root_.id
  have hbv : ∀ w, Calls Try.prog 22 #[.string id] w fun e w2 => e = .returned (.bool true) ∧ w = w2 := fun w => by
    have := valid_any id w
    rw [Hv.out] at this
    exact this
  have Hbv := Lib.hid hbv
  have hs03 : s0 < w3.heap.size := hbox3.lt
  clear hS2 hbox2 hc3 hbv
  have qn : ∀ (w : World) (r : Option Nat), (binOp .eql 65 (.map r) (.map none)).run Try.prog w = .ok (.bool r.isNone) w := fun w r => run_eql_map_nil w _ _ _ r Try.underlying65
  cases hf : f id with
  | some b0 =>
    have q1 := hS3.map.lookS Try.underlying40 (z := .map none) (by kernel_rfl) hid (u := some (.map (some b0))) (by unfold toM; rw [hf]; rfl)
    simp only [Option.getD_some] at q1
    have HS3 := Lib.hid hS3
    have Hf := Lib.hid hf
    clear hS3 hf
    refine (Hbv.out _).mono ?_
    rintro e w9 ⟨rfl, rfl⟩
    have hbm := (HS3.out.inn id b0 Hf.out)
    obtain ⟨w5, rfl⟩ : ∃ w5, w5 = w3 := ⟨_, rfl⟩
    obtain ⟨F5, n5, f5, b5, hS5, hf5, hF5, hC5, hn5⟩ : ∃ F5 n5 f5 b5, Sets idKey inK w5 F5 mw n5 f5 D q ∧ f5 id = some b5 ∧ (∀ b, F5 b → F b ∨ s0 < b) ∧ Chg F w w5 ∧ n5 ≤ q + 1 := ⟨F, n, f, b0, HS3.out, Hf.out, fun b h => .inl h, hC3.of_non, by omega⟩
    have hbox5 := hbox3
    have hgl5 := hgl3
    have c25 := c23
    clear hbox3 hgl3 HS3 Hf hbm c23
    go_wp2_with fail
    clear q1
    have hs0l0 : s0 < w5.heap.size := hbox5.lt
    have hbox5 : Blk w5 s0 31 #[.int .i64 0, .int .i64 0] := hbox5
    have c25 : w5.cell? ⟨g, 2, none⟩ = some (.map (some mw)) := c25
    have Hbox := Lib.hid hbox5
    have hgF : ¬ F5 g := fun h => (hF5 g h).elim hgw (fun h => by omega)
    have hboxF : ¬ F5 s0 := fun h => (hF5 s0 h).elim (fun h => by have := hFl s0 h; omega) (fun h => by omega)
    have Hr5 := Lib.hid (Hr.out.chgK hC5 HA.out)
    have HA5 : Hid (0 < m → ∀ ad, A = some ad → ¬ F5 ad.block) := fun h0 ad e h => (hF5 _ h).elim (HA.out h0 ad e) (fun h => by
      obtain ⟨ad2, x, e2, _, hcx⟩ := Hr.out.getI h0
      rw [e] at e2
      obtain rfl := Option.some.inj e2
      have := World.block_lt_of_cell? w _ hcx
      rw [block_add] at this
      omega)
    have hg2 : w5.cell? ⟨g, 2, none⟩ = some (.map (some mw)) := c25
    clear hbox5 c25
    obtain ⟨s9, hs9⟩ : ∃ s9, w5.heap.size = s9 := ⟨_, rfl⟩
    go_loopw [11, 43] (fun _ i wr => ∃ (k : Nat), k ≤ m ∧ i = .int .i64 k ∧ Sets idKey inK wr F5 mw n5 f5 (fun a x => D a x || (decide (a = id) && inL (l.take k) x)) (q + k) ∧ Chg F5 w5 wr) (fun _ i _ => m - (intOf i).toNat)
    case atStart => exact ⟨0, Nat.zero_le _, rfl, hS5.congr (fun a x => by simp [inL]), Chg.refl _ _⟩
    case round =>
      clear hS5
      obtain ⟨k, hk, rfl, hS, hC⟩ := hrel
      by_cases hlt : k < m
      · obtain ⟨ad, x, rfl, hx, hcx⟩ := Hr5.out.getI hlt
        have hadF : ¬ F5 ad.block := HA5.out (by omega) _ rfl
        have a0 := hC.cell hcx (fun e => by rw [block_add] at e; exact hadF e)
        have c1 : wr.cell? ⟨g, 2, none⟩ = some (.map (some mw)) := hC.cell hg2 (fun e => hgF e)
        obtain ⟨hFb, hbm, cc, hcc, hMb⟩ := hS.inn id b5 hf5
        have hxw := Hl.out x (List.mem_of_getElem? hx)
        have q1 := hS.map.lookS Try.underlying40 (z := .map none) (by kernel_rfl) hid (u := some (.map (some b5))) (by unfold toM; rw [hf5]; rfl)
        simp only [Option.getD_some] at q1
        have hst : Hid (∀ y, inL (l.take (k + 1)) y = (inL (l.take k) y || decide (y = x))) := fun y => by rw [List.take_add_one, hx]; exact inL_snoc _ _ _
        have HS := Lib.hid hS
        have HMb := Lib.hid hMb
        clear hx hcx hS hMb
        go_wp2_with (refine wp_store_Mp (K := inK) rfl (.tmp 52) (.tmp 53) (.const (.bool true)) 65 rfl HMb.out Try.underlying65 (by unfold maxLen; omega) rfl (b := x) hxw rfl (u := .bool true) rfl ?_; intro w6 hm6 hc6)
        have hS6 := HS.out.put hf5 (q := q + k) (c := if (inF ((fun a x => D a x || (decide (a = id) && inL (l.take k) x)) id) x).isSome then cc else cc + 1) (by split <;> omega) hm6 hc6
        have hS7 := hS6.congr (D2 := fun a x => D a x || (decide (a = id) && inL (l.take (k + 1)) x)) (fun a y => by
          simp only [hst.out]
          by_cases e : a = id <;> cases D a y <;> cases inL (l.take k) y <;> simp [e])
        have hC7 : Chg F5 w5 w6 := hC.trans2 hc6 (fun b e => .inl (by rw [show b = b5 from e]; exact hFb))
        clear hS6 hm6 HS HMb hC a0 c1 q1
        go_roundw
        case rel => exact ⟨k + 1, by omega, by go_num, hS7, hC7⟩
        case measure => simp [intOf]; omega
      · have hst : l.take k = l := List.take_of_length_le (by have := Hll.out; omega)
        rw [hst] at hS
        have hb9 := Hbox.out.chg hC hboxF
        have c90 : wr.cell? ⟨s0, 0, none⟩ = some (.int .i64 0) := hb9.cell 0
        have c91 : wr.cell? ⟨s0, 1, none⟩ = some (.int .i64 0) := hb9.cell 1
        have f90 := hb9.frozen 0
        have f91 := hb9.frozen 1
        have hs0l := hb9.lt
        have HS := Lib.hid hS
        clear hst hS
        go_wp2_with fail
        refine bodyPost_ret (v := .tuple #[.agg #[.int .i64 0, .int .i64 0], .bool false]) (by simp [results, Try.results11, go_sem, *]) rfl ?_
        have hCs : Chg (fun b => b = s0) wr ((wr.setCell ⟨s0, 0, none⟩ (.int .i64 0)).setCell ⟨s0, 1, none⟩ (.int .i64 0)) := ((Chg.refl _ wr).set1 0 (.int .i64 0)).set1 1 (.int .i64 0)
        have hCw : Chg F w wr := hC5.trans2 hC (fun b e => (hF5 b e).imp (fun h => h) (fun h => by omega))
        exact ⟨rfl, F5, n5, f5, (HS.out.more (by omega)).chg hCs (fun b h e => hboxF (by rw [← show b = s0 from e]; exact h)), hn5, fun b h => (hF5 b h).imp (fun h => h) (fun h => by omega), hCw.trans2 hCs (fun b e => .inr (by have e : b = s0 := e; omega))⟩
  | none =>
    have q1 := hS3.map.lookS Try.underlying40 (z := .map none) (by kernel_rfl) hid (u := none) (by unfold toM; rw [hf]; rfl)
    simp only [Option.getD_none] at q1
    have HS3 := Lib.hid hS3
    have Hf := Lib.hid hf
    clear hS3 hf
    refine (Hbv.out _).mono ?_
    rintro e w9 ⟨rfl, rfl⟩
    have HM := Lib.hid (HS3.out.map.alloc (.map #[] 0))
    have hmm := @run_makeMap Try.prog
    go_wp2_with (refine wp_store_Mp (K := idKey) rfl (.tmp 38) (.tmp 39) (.tmp 40) 40 rfl HM.out Try.underlying40 (by unfold maxLen; omega) rfl (b := id) hid rfl (u := .map (some w3.heap.size)) rfl ?_; intro w5 hm5 hc5; have hS5 := HS3.out.add Hf.out hm5 hc5; have hbox5 : Blk w5 s0 31 #[.int .i64 0, .int .i64 0] := (hbox3.non ((Chg.refl Non w3).alloc _)).chg hc5 (fun e => by have h1 := HS3.out.lt mw HS3.out.Fm; have h2 := hFl mw (show F mw from HS3.out.Fm); have e : s0 = mw := e; omega); have hC5 : Chg F w w5 := ((hC3.alloc _).of_non).trans2 hc5 (fun b e => .inl (by rw [show b = mw from e]; exact HS3.out.Fm)); have hgl5 : g < w5.heap.size := (by have := hC5.size; omega); have c25 : w5.cell? ⟨g, 2, none⟩ = some (.map (some mw)) := hC5.cell HL.out.g2 hgw; clear hm5 hbox3 hgl3 HM q1 c23)
    obtain ⟨F5, n5, f5, b5, hf5, hF5, hn5, hS5⟩ : ∃ F5 n5 f5 b5, f5 id = some b5 ∧ (∀ b, F5 b → F b ∨ s0 < b) ∧ n5 ≤ q + 1 ∧ Sets idKey inK w5 F5 mw n5 f5 D q := ⟨_, _, _, w3.heap.size, if_pos rfl, fun b h => h.imp (fun h => h) (fun h => by omega), by split <;> omega, hS5⟩
    have hs0l0 : s0 < w5.heap.size := hbox5.lt
    have hbox5 : Blk w5 s0 31 #[.int .i64 0, .int .i64 0] := hbox5
    have c25 : w5.cell? ⟨g, 2, none⟩ = some (.map (some mw)) := c25
    have Hbox := Lib.hid hbox5
    have hgF : ¬ F5 g := fun h => (hF5 g h).elim hgw (fun h => by omega)
    have hboxF : ¬ F5 s0 := fun h => (hF5 s0 h).elim (fun h => by have := hFl s0 h; omega) (fun h => by omega)
    have Hr5 := Lib.hid (Hr.out.chgK hC5 HA.out)
    have HA5 : Hid (0 < m → ∀ ad, A = some ad → ¬ F5 ad.block) := fun h0 ad e h => (hF5 _ h).elim (HA.out h0 ad e) (fun h => by
      obtain ⟨ad2, x, e2, _, hcx⟩ := Hr.out.getI h0
      rw [e] at e2
      obtain rfl := Option.some.inj e2
      have := World.block_lt_of_cell? w _ hcx
      rw [block_add] at this
      omega)
    have hg2 : w5.cell? ⟨g, 2, none⟩ = some (.map (some mw)) := c25
    clear hbox5 c25
    obtain ⟨s9, hs9⟩ : ∃ s9, w5.heap.size = s9 := ⟨_, rfl⟩
    go_loopw [11, 43] (fun _ i wr => ∃ (k : Nat), k ≤ m ∧ i = .int .i64 k ∧ Sets idKey inK wr F5 mw n5 f5 (fun a x => D a x || (decide (a = id) && inL (l.take k) x)) (q + k) ∧ Chg F5 w5 wr) (fun _ i _ => m - (intOf i).toNat)
    case atStart => exact ⟨0, Nat.zero_le _, rfl, hS5.congr (fun a x => by simp [inL]), Chg.refl _ _⟩
    case round =>
      clear hS5
      obtain ⟨k, hk, rfl, hS, hC⟩ := hrel
      by_cases hlt : k < m
      · obtain ⟨ad, x, rfl, hx, hcx⟩ := Hr5.out.getI hlt
        have hadF : ¬ F5 ad.block := HA5.out (by omega) _ rfl
        have a0 := hC.cell hcx (fun e => by rw [block_add] at e; exact hadF e)
        have c1 : wr.cell? ⟨g, 2, none⟩ = some (.map (some mw)) := hC.cell hg2 (fun e => hgF e)
        obtain ⟨hFb, hbm, cc, hcc, hMb⟩ := hS.inn id b5 hf5
        have hxw := Hl.out x (List.mem_of_getElem? hx)
        have q1 := hS.map.lookS Try.underlying40 (z := .map none) (by kernel_rfl) hid (u := some (.map (some b5))) (by unfold toM; rw [hf5]; rfl)
        simp only [Option.getD_some] at q1
        have hst : Hid (∀ y, inL (l.take (k + 1)) y = (inL (l.take k) y || decide (y = x))) := fun y => by rw [List.take_add_one, hx]; exact inL_snoc _ _ _
        have HS := Lib.hid hS
        have HMb := Lib.hid hMb
        clear hx hcx hS hMb
        go_wp2_with (refine wp_store_Mp (K := inK) rfl (.tmp 52) (.tmp 53) (.const (.bool true)) 65 rfl HMb.out Try.underlying65 (by unfold maxLen; omega) rfl (b := x) hxw rfl (u := .bool true) rfl ?_; intro w6 hm6 hc6)
        have hS6 := HS.out.put hf5 (q := q + k) (c := if (inF ((fun a x => D a x || (decide (a = id) && inL (l.take k) x)) id) x).isSome then cc else cc + 1) (by split <;> omega) hm6 hc6
        have hS7 := hS6.congr (D2 := fun a x => D a x || (decide (a = id) && inL (l.take (k + 1)) x)) (fun a y => by
          simp only [hst.out]
          by_cases e : a = id <;> cases D a y <;> cases inL (l.take k) y <;> simp [e])
        have hC7 : Chg F5 w5 w6 := hC.trans2 hc6 (fun b e => .inl (by rw [show b = b5 from e]; exact hFb))
        clear hS6 hm6 HS HMb hC a0 c1 q1
        go_roundw
        case rel => exact ⟨k + 1, by omega, by go_num, hS7, hC7⟩
        case measure => simp [intOf]; omega
      · have hst : l.take k = l := List.take_of_length_le (by have := Hll.out; omega)
        rw [hst] at hS
        have hb9 := Hbox.out.chg hC hboxF
        have c90 : wr.cell? ⟨s0, 0, none⟩ = some (.int .i64 0) := hb9.cell 0
        have c91 : wr.cell? ⟨s0, 1, none⟩ = some (.int .i64 0) := hb9.cell 1
        have f90 := hb9.frozen 0
        have f91 := hb9.frozen 1
        have hs0l := hb9.lt
        have HS := Lib.hid hS
        clear hst hS
        go_wp2_with fail
        refine bodyPost_ret (v := .tuple #[.agg #[.int .i64 0, .int .i64 0], .bool false]) (by simp [results, Try.results11, go_sem, *]) rfl ?_
        have hCs : Chg (fun b => b = s0) wr ((wr.setCell ⟨s0, 0, none⟩ (.int .i64 0)).setCell ⟨s0, 1, none⟩ (.int .i64 0)) := ((Chg.refl _ wr).set1 0 (.int .i64 0)).set1 1 (.int .i64 0)
        have hCw : Chg F w wr := hC5.trans2 hC (fun b e => (hF5 b e).imp (fun h => h) (fun h => by omega))
        exact ⟨rfl, F5, n5, f5, (HS.out.more (by omega)).chg hCs (fun b h e => hboxF (by rw [← show b = s0 from e]; exact h)), hn5, fun b h => (hF5 b h).imp (fun h => h) (fun h => by omega), hCw.trans2 hCs (fun b e => .inr (by have e : b = s0 := e; omega))⟩

set_option maxRecDepth 100000 in
theorem ledWant_got (w : World) (FL : Nat → Prop) (g mw : Nat) (T : List Cm) (id : ByteArray) (x y : Int) (k : Nat) (A : Option Addr) (m c : Nat) (h : Led w FL g mw T) (hid : id.size ≤ maxLen) (hk0 : atI T id = some k) (hx : T[k]? = some (id, x, y)) :
    Calls Try.prog 11 #[.pointer (some ⟨g, 0, none⟩), .string id, .slice A m c] w fun e w2 => e = .returned (.tuple #[.agg #[.int .i64 x, .int .i64 y], .bool true]) ∧ Chg Non w w2 := by
  have hg := h.gF.2
  have H := Lib.hid (ledGet_some (w.alloc (.cells #[.int .i64 0, .int .i64 0] 31)) FL g mw T id x y k (h.non ((Chg.refl _ _).alloc _)) hid hk0 hx)
  clear h hk0 hx
  go_enter Try.func11, Try.ntmps11
  go_wp2_with fail
  refine H.out.mono ?_
  rintro e w2 ⟨rfl, hc2⟩
  have hC2 := ((Chg.refl Non w).alloc (.cells #[.int .i64 0, .int .i64 0] 31)).non hc2
  have hb2 := (Blk.new w 31 #[.int .i64 0, .int .i64 0]).non hc2
  have c0 : w2.cell? ⟨w.heap.size, 0, none⟩ = some (.int .i64 0) := hb2.cell 0
  have c1 : w2.cell? ⟨w.heap.size, 1, none⟩ = some (.int .i64 0) := hb2.cell 1
  have f0 := hb2.frozen 0
  have f1 := hb2.frozen 1
  have hl2 := hb2.lt
  clear hc2 hb2
  go_wp2_with fail
  refine bodyPost_ret (v := .tuple #[.agg #[.int .i64 x, .int .i64 y], .bool true]) (by simp [results, Try.results11, go_sem, *]) rfl ?_
  exact ⟨rfl, ((hC2.setCell (p := ⟨w.heap.size, 0, none⟩) (.inr (Nat.le_refl _)) _).setCell (p := ⟨w.heap.size, 1, none⟩) (.inr (Nat.le_refl _)) _).alloc _⟩
set_option maxRecDepth 100000 in
theorem ledWant_bad (w : World) (FL : Nat → Prop) (g mw : Nat) (T : List Cm) (id : ByteArray) (A : Option Addr) (m c : Nat) (h : Led w FL g mw T) (hid : id.size ≤ maxLen) (hno : atI T id = none) (hv : vid id = false) :
    Calls Try.prog 11 #[.pointer (some ⟨g, 0, none⟩), .string id, .slice A m c] w fun e w2 => e = .returned (.tuple #[.agg #[.int .i64 0, .int .i64 0], .bool false]) ∧ Chg Non w w2 := by
  have hg := h.gF.2
  have Hv := Lib.hid hv
  have H := Lib.hid (ledGet_none (w.alloc (.cells #[.int .i64 0, .int .i64 0] 31)) FL g mw T id (h.non ((Chg.refl _ _).alloc _)) hid hno)
  clear h hno hv
  go_enter Try.func11, Try.ntmps11
  go_wp2_with fail
  refine H.out.mono ?_
  rintro e w2 ⟨rfl, hc2⟩
  have hC2 := ((Chg.refl Non w).alloc (.cells #[.int .i64 0, .int .i64 0] 31)).non hc2
  have hb2 := (Blk.new w 31 #[.int .i64 0, .int .i64 0]).non hc2
  have c0 : w2.cell? ⟨w.heap.size, 0, none⟩ = some (.int .i64 0) := hb2.cell 0
  have c1 : w2.cell? ⟨w.heap.size, 1, none⟩ = some (.int .i64 0) := hb2.cell 1
  have f0 := hb2.frozen 0
  have f1 := hb2.frozen 1
  have hl2 := hb2.lt
  clear hc2 hb2
  go_wp2_with fail
  refine (valid_any id _).mono ?_
  rintro e w9 ⟨rfl, rfl⟩
  rw [Hv.out]
  go_wp2_with fail
  refine bodyPost_ret (v := .tuple #[.agg #[.int .i64 0, .int .i64 0], .bool false]) (by simp [results, Try.results11, go_sem, *]) rfl ?_
  exact ⟨rfl, ((hC2.setCell (p := ⟨w.heap.size, 0, none⟩) (.inr (Nat.le_refl _)) _).setCell (p := ⟨w.heap.size, 1, none⟩) (.inr (Nat.le_refl _)) _).alloc _⟩

theorem ledTell_no (w : World) (FL : Nat → Prop) (g mw : Nat) (T : List Cm) (id : ByteArray) (h : Led w FL g mw T) (hid : id.size ≤ maxLen) (hno : atI T id = none) :
    Calls Try.prog 12 #[.pointer (some ⟨g, 0, none⟩), .string id] w fun e w2 => e = .returned (.slice none 0 0) ∧ w = w2 := by
  obtain ⟨⟨A, c, m1, hb, ho, hm, _⟩, _⟩ := h
  have hk : atF T id = none := by unfold atF; rw [hno]; rfl
  have c1 := hb.cell 1
  simp only [List.getElem?_toArray, List.getElem?_cons_zero, List.getElem?_cons_succ] at c1
  have hg := hb.lt
  have q1 := hm.look_okS Try.underlying37 (z := .int .i64 0) (by kernel_rfl) hid hk
  simp only [Option.getD_none, Option.isSome_none] at q1
  clear hb ho hm hk hno
  go_enter Try.func12, Try.ntmps12
  go_wp2_with fail
  go_ret
  exact ⟨rfl, rfl⟩

/-- Tell of a name that has a result: who waited, rising; nobody waits any more. -/
def TellPost (w : World) (F : Nat → Prop) (mw n q : Nat) (D : ByteArray → Int → Bool) (id : ByteArray) (e : Ending) (w2 : World) : Prop :=
  ∃ v L n2 f2, e = .returned v ∧ RisesI L ∧ (∀ x, x ∈ L ↔ D id x = true) ∧ L.length ≤ q ∧ OwnR rkN w2 w.heap.size v L.length (iv L) ∧ Sets idKey inK w2 F mw n2 f2 (fun a y => !decide (a = id) && D a y) q ∧ n2 ≤ n ∧ Chg F w w2
set_option maxRecDepth 100000 in
set_option maxHeartbeats 1000000 in
theorem ledTell_yes (w : World) (F FL : Nat → Prop) (g mw : Nat) (T : List Cm) (n q : Nat) (f : ByteArray → Option Nat) (D : ByteArray → Int → Bool) (id : ByteArray) (k : Nat) (hL : Led w FL g mw T) (hS : Sets idKey inK w F mw n f D q) (hFF : ∀ b, FL b → ¬ F b) (hid : id.size ≤ maxLen) (hk0 : atI T id = some k) (hq : q ≤ 100000000) :
    Calls Try.prog 12 #[.pointer (some ⟨g, 0, none⟩), .string id] w (TellPost w F mw n q D id) := by
  have hgF0 := hL.gF
  have hgw : ¬ F g := hFF _ hgF0.1
  have c2 := hL.g2
  obtain ⟨⟨A, c, m1, hb, ho, hm, _⟩, _⟩ := hL
  have hk : atF T id = some (.int .i64 k) := by unfold atF; rw [hk0]; rfl
  have c1 := hb.cell 1
  simp only [List.getElem?_toArray, List.getElem?_cons_zero, List.getElem?_cons_succ] at c1
  have hg := hb.lt
  have Hb := Lib.hid hb
  have q1 := hm.look_okS Try.underlying37 (z := .int .i64 0) (by kernel_rfl) hid hk
  simp only [Option.getD_some, Option.isSome_some] at q1
  clear hb ho hm hk hk0 hgF0
  cases hf : f id with
  | some b0 =>
    have q2 := hS.map.lookS Try.underlying40 (z := .map none) (by kernel_rfl) hid (u := some (.map (some b0))) (by unfold toM; rw [hf]; rfl)
    simp only [Option.getD_some] at q2
    obtain ⟨hFb, hbm, cc, hcc, hMb⟩ := hS.inn id b0 hf
    have HS := Lib.hid hS
    have HM := Lib.hid hMb
    clear hS hMb hf
    go_enter Try.func12, Try.ntmps12
    go_wp2_with fail
    refine (waitKeys w b0).mono ?_
    rintro e w2 ⟨rfl, rfl⟩
    go_wp2_with fail
    refine (waitSorted w b0 cc _ HM.out (by omega)).mono ?_
    rintro e w3 ⟨v3, n3, L, rfl, hn3, hnL, hLr, hLm, ho3, hc3⟩
    subst hn3
    subst hnL
    have HS3 := Lib.hid (HS.out.non hc3)
    have c23 : w3.cell? ⟨g, 2, none⟩ = some (.map (some mw)) := hc3.cell c2 _root_.id
    have hg3 : g < w3.heap.size := by have := hc3.size; omega
    clear c1 q1 q2 c2
    go_wp2_with (at_delete; refine wp_delete_Mp (K := idKey) rfl (.tmp 31) (.tmp 32) 40 rfl HS3.out.map Try.underlying40 rfl (b := id) hid rfl ?_; intro w6 hm6 hc6)
    go_ret
    have hS6 := HS3.out.drop hm6 hc6
    have hmwF : F mw := HS.out.Fm
    have hmwl := HS.out.lt mw hmwF
    refine ⟨v3, L, _, _, rfl, hLr, fun x => by rw [hLm, inF_some], hcc, ho3.chg hc6 (fun b hb e => by have h1 := (ho3.lt hb).1; have e : b = mw := e; omega), hS6, by split <;> omega, hc3.of_non.trans2 hc6 (fun b e => .inl (by rw [show b = mw from e]; exact hmwF))⟩
  | none =>
    have q2 := hS.map.lookS Try.underlying40 (z := .map none) (by kernel_rfl) hid (u := none) (by unfold toM; rw [hf]; rfl)
    simp only [Option.getD_none] at q2
    have hDn := Lib.hid (hS.no id hf)
    have HS := Lib.hid hS
    clear hS hf
    go_enter Try.func12, Try.ntmps12
    go_wp2_with fail
    refine (waitKeysNil w).mono ?_
    rintro e w2 ⟨rfl, rfl⟩
    go_wp2_with fail
    refine (waitSortedNil w).mono ?_
    rintro e w3 ⟨rfl, hc3⟩
    have HS3 := Lib.hid (HS.out.non hc3)
    have c23 : w3.cell? ⟨g, 2, none⟩ = some (.map (some mw)) := hc3.cell c2 _root_.id
    have hg3 : g < w3.heap.size := by have := hc3.size; omega
    clear c1 q1 q2 c2
    go_wp2_with (at_delete; refine wp_delete_Mp (K := idKey) rfl (.tmp 31) (.tmp 32) 40 rfl HS3.out.map Try.underlying40 rfl (b := id) hid rfl ?_; intro w6 hm6 hc6)
    go_ret
    have hS6 := HS3.out.drop hm6 hc6
    have hmwF : F mw := HS.out.Fm
    refine ⟨_, [], _, _, rfl, List.Pairwise.nil, fun x => by rw [hDn.out x]; simp, Nat.zero_le _, OwnR.nil _ _ _, hS6, by split <;> omega, hc3.of_non.trans2 hc6 (fun b e => .inl (by rw [show b = mw from e]; exact hmwF))⟩
end Go.Proofs.Ytdcfnhggedeeiaa
