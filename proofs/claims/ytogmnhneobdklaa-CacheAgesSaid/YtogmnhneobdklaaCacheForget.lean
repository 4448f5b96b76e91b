/-
  cache.Cache: Forget, where one task at most is waited for.
-/
import Derived.Test.YtogmnhneobdklaaCache
import Derived.Test.YtogmnhneobdklaaIdentSort
import Derived.Test.YtogmnhneobdklaaMapRange
namespace Go.Proofs.Ytogmnhneobdklaa
open Go.RowKit
set_option linter.unusedVariables false
set_option linter.unusedSimpArgs false

/-- Is a name in a list? -/
def inB (L : List ByteArray) (s : ByteArray) : Bool := L.any fun x => decide (x = s)
theorem inB_true {L : List ByteArray} {s : ByteArray} : inB L s = true ↔ s ∈ L := by
  unfold inB
  rw [List.any_eq_true]
  constructor
  · rintro ⟨x, h1, h2⟩
    rw [← of_decide_eq_true h2]
    exact h1
  · exact fun h => ⟨s, h, decide_eq_true rfl⟩
theorem inB_false {L : List ByteArray} {s : ByteArray} : inB L s = false ↔ s ∉ L := by
  rw [← Bool.not_eq_true, inB_true]
theorem inB_snoc (L : List ByteArray) (x s : ByteArray) : inB (L ++ [x]) s = (inB L s || decide (x = s)) := by simp [inB]
theorem Mp.empty {P : Program} {k : TypeId} {α : Type} {K : KeyKind P k α} {w : World} {g : Nat} {f : α → Option Value} (h : Mp K w g 0 f) (a : α) : f a = none := by
  obtain ⟨D, h1, h2, h3⟩ := h
  have hno : Maps.has D (K.lit a) = false := by
    cases D with
    | map es =>
      have : es = [] := List.eq_nil_of_length_eq_zero (by simpa [Maps.size] using h2)
      subst this
      rfl
    | _ => rfl
  have := (h3 a).1
  rw [hno] at this
  cases hf : f a with
  | none => rfl
  | some v => rw [hf] at this; cases this

/-- Who waits, less the first k of a list. -/
def lessK (D : ByteArray → ByteArray → Bool) (ws : List ByteArray) (k : Nat) (a y : ByteArray) : Bool := D a y && !inB (ws.take k) y
theorem less_step {D : ByteArray → ByteArray → Bool} {ws : List ByteArray} {k : Nat} {x : ByteArray} (hx : ws[k]? = some x) (a y : ByteArray) : lessK D ws (k + 1) a y = (lessK D ws k a y && !decide (y = x)) := by
  unfold lessK
  rw [List.take_add_one, hx, Option.toList_some, inB_snoc]
  by_cases h : x = y
  · subst h; simp
  · have h2 : ¬ y = x := fun e => h e.symm
    simp [h, h2]
theorem less_new {D : ByteArray → ByteArray → Bool} {ws : List ByteArray} (hr : RisesS ws) {k : Nat} {x : ByteArray} (hx : ws[k]? = some x) (a : ByteArray) : lessK D ws k a x = D a x := by
  have : inB (ws.take k) x = false := by
    rw [inB_false]
    intro hm
    obtain ⟨j, hj⟩ := List.getElem?_of_mem hm
    rw [List.getElem?_take] at hj
    split at hj
    · rename_i hjk
      obtain ⟨h1, e1⟩ := List.getElem?_eq_some_iff.1 hj
      obtain ⟨h2, e2⟩ := List.getElem?_eq_some_iff.1 hx
      have := List.pairwise_iff_getElem.1 hr j k h1 h2 hjk
      rw [e1, e2] at this
      exact ltS_irrefl _ this
    · cases hj
  unfold lessK
  rw [this]
  simp
def cntK (D : ByteArray → ByteArray → Bool) (id : ByteArray) (ws : List ByteArray) (k : Nat) : Nat := (ws.take k).countP (D id)
theorem cnt_step {D : ByteArray → ByteArray → Bool} {id : ByteArray} {ws : List ByteArray} {k : Nat} {x : ByteArray} (hx : ws[k]? = some x) : cntK D id ws (k + 1) = cntK D id ws k + (if D id x then 1 else 0) := by
  unfold cntK
  rw [List.take_add_one, hx, Option.toList_some, List.countP_append]
  cases h : D id x <;> simp [h]
/-- What Forget does. -/
def ForgetPost (w : World) (FS : Nat → Prop) (mw n q : Nat) (D : ByteArray → ByteArray → Bool) (id : ByteArray) (ws : List ByteArray) (e : Ending) (w2 : World) : Prop :=
  e = .returned (.int .i64 ((ws.countP (D id) : Nat) : Int)) ∧ ∃ n2 f2, Sets idKey idKey w2 FS mw n2 f2 (fun a y => D a y && !inB ws y) q ∧ (∀ a, a ≠ id → f2 a = none) ∧ Chg FS w w2
/-- The rounds over names. -/
def RelO (w : World) (FS : Nat → Prop) (mw q s1 m : Nat) (D : ByteArray → ByteArray → Bool) (id : ByteArray) (ws : List ByteArray) (A : Option Addr) (c : Nat) (v i : Value) (wr : World) : Prop :=
  ∃ k n2 f2, k ≤ m ∧ i = .int .i64 k ∧ v = .int .i64 ((cntK D id ws k : Nat) : Int) ∧ Sets idKey idKey wr FS mw n2 f2 (lessK D ws k) q ∧ (∀ a, a ≠ id → f2 a = none) ∧ OwnR rkI wr s1 (.slice A m c) m (sv ws) ∧ Chg FS w wr
/-- The rounds over tasks. -/
def RelI (w : World) (FS : Nat → Prop) (mw q r : Nat) (D : ByteArray → ByteArray → Bool) (id : ByteArray) (ws : List ByteArray) (k : Nat) (x : ByteArray) (A : Option Addr) (m c : Nat) (v : Value) (wr : World) : Prop :=
  ∃ n3 f3 left cnt, Sets idKey idKey wr FS mw n3 f3 (lessK D ws (if left id then k else k + 1)) q ∧ MpR Try.underlying27 wr mw r n3 (toM f3) left cnt ∧ (∀ a, a ≠ id → f3 a = none) ∧ v = .bool (if left id then false else D id x) ∧ OwnR rkI wr w.heap.size (.slice A m c) m (sv ws) ∧ Chg FS w wr

theorem RelI.mk {w : World} {FS : Nat → Prop} {mw q r : Nat} {D : ByteArray → ByteArray → Bool} {id : ByteArray} {ws : List ByteArray} {k : Nat} {x : ByteArray} {A : Option Addr} {m c : Nat} {wr : World} {n3 cnt : Nat} {f3 : ByteArray → Option Nat} {left : ByteArray → Bool} (hl : left id = false) (hS : Sets idKey idKey wr FS mw n3 f3 (lessK D ws (k + 1)) q) (hR : MpR Try.underlying27 wr mw r n3 (toM f3) left cnt) (hone : ∀ a, a ≠ id → f3 a = none) (hO : OwnR rkI wr w.heap.size (.slice A m c) m (sv ws)) (hC : Chg FS w wr) : RelI w FS mw q r D id ws k x A m c (.bool (D id x)) wr :=
  ⟨n3, f3, left, cnt, by rw [hl]; exact hS, hR, hone, by rw [hl]; rfl, hO, hC⟩
theorem MpR.congr {P : Program} {k : TypeId} {hk : P.underlying k = some .string} {w : World} {g r n cnt : Nat} {f f2 : ByteArray → Option Value} {left : ByteArray → Bool} (h : MpR hk w g r n f left cnt) (he : ∀ a, f a = f2 a) : MpR hk w g r n f2 left cnt := by
  obtain rfl : f = f2 := funext he
  exact h
set_option maxRecDepth 100000 in
set_option maxHeartbeats 8000000 in
theorem forget_any (w : World) (F FS : Nat → Prop) (g mw n q : Nat) (s : CaS) (f : ByteArray → Option Nat) (D : ByteArray → ByteArray → Bool) (id : ByteArray) (A : Option Addr) (m c : Nat) (who : List ByteArray) (h : Ca w F g mw s) (hS : Sets idKey idKey w FS mw n f D q) (hFF : ∀ b, F b → ¬ FS b) (hid : id.size ≤ maxLen) (hone : ∀ a, a ≠ id → f a = none) (hr : Rds w 1 A m (sv who)) (hm : m ≤ 1000000) (hq : q ≤ 1000000) (hsm : ∀ x ∈ who, x.size ≤ maxLen) :
    Calls Try.prog 14 #[.pointer (some ⟨g, 0, none⟩), .slice A m c] w (ForgetPost w FS mw n q D id (risenS who)) := by
  have c3 := h.g3
  have hgw : ¬ FS g := hFF g h.gF.1
  have hgl := h.gF.2
  have hFSl : ∀ b, FS b → b < w.heap.size := hS.lt
  have hmwF : FS mw := hS.Fm
  have hsrt := identSort_any w A m c who hr hm
  obtain ⟨hris, hmem⟩ := risenS_spec who
  have hwl := risenS_le who
  have Hml := Lib.hid (hr.lenMap (f := Value.string))
  have hsm2 : ∀ x ∈ risenS who, x.size ≤ maxLen := fun x hx => hsm x ((hmem x).1 hx)
  generalize hws : risenS who = ws at hsrt hris hsm2 hwl ⊢
  have HC3 := Lib.hid c3
  have Hris := Lib.hid hris
  have Hsm2 := Lib.hid hsm2
  have Hone := Lib.hid hone
  have HS := Lib.hid hS
  clear h hS hFF hr hsm hris hmem hsm2 hone hws
  go_enter Try.func14, Try.ntmps14
  go_wp2_with fail
  refine hsrt.mono ?_
  rintro e w1 ⟨v, m9, rfl, hm9, hO, hc1⟩
  obtain ⟨A9, c9, rfl, hcn, hcm, _, _⟩ := hO.open_
  have hC1 : Chg FS w w1 := hc1.of_non
  have hS1 := HS.out.non hc1
  have hm9l : m9 ≤ 1000000 := by have := Hml.out; omega
  have Hm9 := Lib.hid hm9
  clear hm9 hsrt hc1 c3
  have c3w : ∀ wx, Chg FS w wx → wx.cell? ⟨g, 3, none⟩ = some (.map (some mw)) := fun wx hc => hc.cell HC3.out (fun e => hgw e)
  go_wp2_with fail
  go_loopw [5, 14] (RelO w FS mw q w.heap.size m9 D id ws A9 c9) (fun _ i _ => m9 - (intOf i).toNat)
  case atStart => exact ⟨0, n, f, Nat.zero_le _, rfl, rfl, hS1.congr (fun a y => by simp [lessK, inB]), Hone.out, hO, hC1⟩
  case round =>
    clear hS1 hO hC1
    obtain ⟨k, n2, f2, hk, rfl, rfl, hS, hone2, hO, hC⟩ := hrel
    have hcnt : cntK D id ws k ≤ k := Nat.le_trans (List.countP_le_length) (List.length_take_le _ _)
    by_cases hlt : k < m9
    · obtain ⟨ad, x, rfl, hx, hcx⟩ := Rds.getS hO.rds hlt
      have hxs := Hsm2.out x (List.mem_of_getElem? hx)
      have c3 : wr.cell? ⟨g, 3, none⟩ = some (.map (some mw)) := c3w wr hC
      have hcw := hC.size
      have hgr : g < wr.heap.size := by omega
      have hst := fun a y => less_step (D := D) hx a y
      have hnw := less_new (D := D) Hris.out hx id
      have hcs := cnt_step (D := D) (id := id) hx
      have b1 : (0 : Int) ≤ (k : Int) := by omega
      have b2 : (k : Int) < m9 := by omega
      obtain ⟨r, hr⟩ : ∃ r, wr.heap.size = r := ⟨_, rfl⟩
      have hmwl := hFSl mw hmwF
      have Hst := Lib.hid hst
      have Hnw := Lib.hid hnw
      have Hcs := Lib.hid hcs
      have HO := Lib.hid hO
      have HSr := Lib.hid hS
      have Hone2 := Lib.hid hone2
      have Hr := Lib.hid hr
      clear hst hnw hcs hO hx hone2 hr
      go_wp2_with (at_range; refine wp_range_Mp (hk := Try.underlying27) rfl (.tmp 21) 40 rfl HSr.out.map Try.underlying40 rfl ?_; intro w5 hR5 hc5 hs5)
      go_frame
      rw [Hr.out] at hR5
      have hS5 := HSr.out.non hc5
      have hC5 : Chg FS w w5 := hC.non hc5
      have hrl : w.heap.size ≤ r := by have := Hr.out; omega
      have hrF : ¬ FS r := fun e => by have := hFSl r e; omega
      have hleft : (toM f2 id).isSome = (f2 id).isSome := toM_some _ _
      have hini : RelI w FS mw q r D id ws k x (some ad) m9 c9 (.bool false) w5 := by
        refine ⟨n2, f2, _, n2, ?_, hR5, Hone2.out, ?_, HO.out.non hc5, hC5⟩
        · refine hS5.congr (fun a y => ?_)
          by_cases hl : (toM f2 id).isSome = true
          · rw [if_pos hl]
          · rw [if_neg hl, Hst.out]
            have hn : f2 a = none := by
              by_cases ha : a = id
              · subst ha
                rw [toM_some] at hl
                cases h9 : f2 a with
                | none => rfl
                | some v => rw [h9] at hl; exact absurd rfl hl
              · exact Hone2.out a ha
            rw [HSr.out.no a hn y]
            rfl
        · by_cases hl : (toM f2 id).isSome = true
          · rw [if_pos hl]
          · rw [if_neg hl]
            rw [toM_some] at hl
            have hn : f2 id = none := by
              cases h9 : f2 id with
              | none => rfl
              | some v => rw [h9] at hl; exact absurd rfl hl
            rw [← Hnw.out, HSr.out.no id hn x]
      have Hini := Lib.hid hini
      clear hini hS5 hC5 hR5 hc5 hs5 hcx c3 hS hleft hC
      rw [Hr.out]
      obtain ⟨wo, rfl⟩ : ∃ wo : World, wo = wr := ⟨_, rfl⟩
      go_loopw [8] (RelI w FS mw q r D id ws k x (some ad) m9 c9) (fun _ wr => wr.rangeLeft mw r)
      case atStart => exact Hini.out
      case round =>
        obtain ⟨n3, f3, left, cnt, hS3, hR3, hone3, rfl, hO3, hC3⟩ := hrel
        go_wp2_with (at_next; refine wp_next_Mp (hk := Try.underlying27) rfl (.tmp 22) rfl (r := r) rfl hR3 ?_ ?_)
        · intro hc0 hl0
          rw [hl0 id] at hS3
          rw [hl0 id]
          simp only [Bool.false_eq_true, if_false] at hS3 ⊢
          have hrelO : RelO w FS mw q w.heap.size m9 D id ws (some ad) c9 (.int .i64 ((cntK D id ws (k + 1) : Nat) : Int)) (.int .i64 ((k + 1 : Nat) : Int)) wr := ⟨k + 1, n3, f3, by omega, rfl, rfl, hS3, hone3, hO3, hC3⟩
          have HrelO := Lib.hid hrelO
          clear hrelO hS3 hR3 hO3 hone3 hC3 hl0 hc0
          cases hd : D id x with
          | true =>
            have hcs2 : cntK D id ws (k + 1) = cntK D id ws k + 1 := by rw [Hcs.out, hd]; rfl
            have hrelF := HrelO.out
            rw [hcs2] at hrelF
            have HrelF := Lib.hid hrelF
            clear hrelF hcs2 hd HrelO
            go_wp2_with fail
            go_roundw
            case rel => exact HrelF.out
            case measure => simp [intOf]; omega
          | false =>
            have hcs2 : cntK D id ws (k + 1) = cntK D id ws k := by rw [Hcs.out, hd]; rfl
            have hrelF := HrelO.out
            rw [hcs2] at hrelF
            have HrelF := Lib.hid hrelF
            clear hrelF hcs2 hd HrelO
            go_wp2_with fail
            go_roundw
            case rel => exact HrelF.out
            case measure => simp [intOf]; omega
        · intro x2 c2 w6 cnt2 hx2s hl2 hf2 hR6 hlt2 hc6 hs6 hen
          obtain rfl : x2 = id := by
            by_cases e : x2 = id
            · exact e
            · have h9 := hone3 x2 e
              unfold toM at hf2
              rw [h9] at hf2
              cases hf2
          rw [hl2] at hS3 ⊢
          simp only [if_true] at hS3 ⊢
          obtain ⟨b0, hb0⟩ : ∃ b0, f3 x2 = some b0 := by
            cases h9 : f3 x2 with
            | none => unfold toM at hf2; rw [h9] at hf2; cases hf2
            | some b => exact ⟨b, rfl⟩
          obtain rfl : c2 = .map (some b0) := by
            unfold toM at hf2
            rw [hb0] at hf2
            exact (Option.some.inj hf2).symm
          have hol : ∀ b, (Value.slice (some ad) m9 c9).ownBlock = some b → w.heap.size ≤ b ∧ b < r := fun b hb => ⟨(HO.out.lt hb).1, by have := (HO.out.lt hb).2; have := Hr.out; omega⟩
          have hS6 := hS3.chg hc6 (fun b hb e => hrF (by rw [← show b = r from e]; exact hb))
          have hO6 := hO3.chg hc6 (fun b hb e => by have := hol b hb; have e : b = r := e; omega)
          have hC6 : Chg FS w w6 := hC3.trans2 hc6 (fun b e => .inr (by have e : b = r := e; omega))
          obtain ⟨hFb, hbm, cc, hcc, hMb⟩ := hS6.inn x2 b0 hb0
          have hbr : b0 ≠ r := fun e => hrF (by rw [← e]; exact hFb)
          have hlf : (left x2 && !decide (x2 = x2)) = false := by simp
          have hc36 : w6.cell? ⟨g, 3, none⟩ = some (.map (some mw)) := c3w w6 hC6
          have hg6 : g < w6.heap.size := by have := hC6.size; omega
          have hqk : lessK D ws k x2 x = D x2 x := Hnw.out
          have HS6 := Lib.hid hS6
          have HR6 := Lib.hid hR6
          have HO6 := Lib.hid hO6
          have HC6 := Lib.hid hC6
          have HMb := Lib.hid hMb
          have Hb0 := Lib.hid hb0
          have Hone3 := Lib.hid hone3
          have Hl2 := Lib.hid hl2
          have Hlf := Lib.hid hlf
          have Hol := Lib.hid hol
          have HR3 := Lib.hid hR3
          have Hqk := Lib.hid hqk
          clear hS6 hR6 hO6 hC6 hMb hb0 hone3 hl2 hlf hol hS3 hR3 hO3 hC3 hf2 hc6 hs6 hqk
          cases hd : D x2 x with
          | true =>
            have hq1 : (inF (lessK D ws k x2) x).getD (.bool false) = .bool true := by unfold inF; rw [Hqk.out, hd]; rfl
            have hq2 : (inF (lessK D ws k x2) x).isSome = true := by rw [inF_some, Hqk.out, hd]
            have q1 := HMb.out.lookS Try.underlying51 (z := .bool false) (by kernel_rfl) hxs (u := inF (lessK D ws k x2) x) rfl
            rw [hq1] at q1
            have Hd := Lib.hid hd
            have Hq2 := Lib.hid hq2
            clear hd hq1 hq2
            obtain ⟨zz, hz⟩ : ∃ zz, cc - 1 = zz := ⟨_, rfl⟩
            have Hz := Lib.hid hz
            have hzc : zz ≤ 1000000 := by omega
            clear hz
            by_cases hz0 : zz = 0
            · subst hz0
              go_wp2_with (first
                | (at_delete; refine wp_delete_Mp (K := idKey) rfl (.tmp 31) (.tmp 32) 51 rfl HMb.out Try.underlying51 rfl (b := x) hxs rfl ?_; intro w7 hm7 hc7; rw [Hq2.out] at hm7; simp only [if_true] at hm7; have hS7 := HS6.out.out Hb0.out (Nat.le_trans (Nat.sub_le _ _) hcc) hm7 hc7; rw [Hz.out] at hm7; have HS7 := Lib.hid hS7; have HR7 := Lib.hid (HR6.out.chg hc7 (fun e => hbm e.symm) (fun e => hbr e.symm)); have hlen := hm7.len Try.underlying51; have HM7 := Lib.hid hm7; have Hc7 := Lib.hid hc7; have hc37 : w7.cell? ⟨g, 3, none⟩ = some (.map (some mw)) := hc7.cell hc36 (fun e => hgw (by rw [show g = b0 from e]; exact hFb)); have hg7 : g < w7.heap.size := (by have := hc7.size; omega); clear hS7 hm7 hc7 q1)
                | (at_delete; refine wp_delete_MpR (hk := Try.underlying27) rfl (.tmp 39) (.tmp 40) 40 rfl HR7.out Try.underlying40 rfl (b := x2) hid rfl ?_; intro w8 cnt8 hR8 hle8 hc8))
              have hS9 := HS7.out.congr (D2 := lessK D ws (k + 1)) (fun a y => by
                rw [Hst.out]
                by_cases ha : a = x2
                · subst ha; by_cases hy : y = x <;> simp [hy]
                · rw [HS6.out.no a (Hone3.out a ha) y]; rfl)
              have hem : ∀ y, lessK D ws (k + 1) x2 y = false := fun y => by
                have h9 := HM7.out.empty y
                rw [Hst.out]
                by_cases hy : y = x
                · simp [hy]
                · rw [if_neg hy] at h9
                  have h8 := inF_some (lessK D ws k x2) y
                  rw [h9] at h8
                  rw [← h8]; rfl
              have hS10 := (hS9.drop (hR8.mp) hc8).congr (D2 := lessK D ws (k + 1)) (fun a y => by
                by_cases ha : a = x2
                · subst ha; rw [hem]; simp
                · simp [ha])
              have hR10 := hR8.congr (f2 := toM (fun a => if a = x2 then none else f3 a)) (fun a => by unfold toM; by_cases ha : a = x2 <;> simp [ha])
              have hrel := RelI.mk (x := x) (by simp) hS10 hR10 (fun a ha => (if_neg ha).trans (Hone3.out a ha)) ((HO6.out.chg Hc7.out (fun b hb e => by have h1 := Hol.out b hb; have h2 := hFSl b0 hFb; have e : b = b0 := e; omega)).chg hc8 (fun b hb e => by have h1 := Hol.out b hb; have e : b = mw := e; omega)) ((HC6.out.trans2 Hc7.out (fun b e => .inl (by rw [show b = b0 from e]; exact hFb))).trans2 hc8 (fun b e => .inl (by rw [show b = mw from e]; exact hmwF)))
              rw [Hd.out] at hrel
              have Hrel := Lib.hid hrel
              have HRm := Lib.hid hR8
              clear hrel hS9
              clear hS10 hR10 hem hR8
              go_roundw
              case rel => exact Hrel.out
              case measure => rw [HRm.out.left_eq, HR3.out.left_eq]; omega
            · have hzb : (((zz : Nat) : Int) == 0) = false := beq_eq_false_iff_ne.2 (by omega)
              go_wp2_with (at_delete; refine wp_delete_Mp (K := idKey) rfl (.tmp 31) (.tmp 32) 51 rfl HMb.out Try.underlying51 rfl (b := x) hxs rfl ?_; intro w7 hm7 hc7; rw [Hq2.out] at hm7; simp only [if_true] at hm7; have hS7 := HS6.out.out Hb0.out (Nat.le_trans (Nat.sub_le _ _) hcc) hm7 hc7; rw [Hz.out] at hm7; have HS7 := Lib.hid hS7; have HR7 := Lib.hid (HR6.out.chg hc7 (fun e => hbm e.symm) (fun e => hbr e.symm)); have hlen := hm7.len Try.underlying51; have HM7 := Lib.hid hm7; have Hc7 := Lib.hid hc7; have hc37 : w7.cell? ⟨g, 3, none⟩ = some (.map (some mw)) := hc7.cell hc36 (fun e => hgw (by rw [show g = b0 from e]; exact hFb)); have hg7 : g < w7.heap.size := (by have := hc7.size; omega); clear hS7 hm7 hc7 q1)
              have hS9 := HS7.out.congr (D2 := lessK D ws (k + 1)) (fun a y => by
                rw [Hst.out]
                by_cases ha : a = x2
                · subst ha; by_cases hy : y = x <;> simp [hy]
                · rw [HS6.out.no a (Hone3.out a ha) y]; rfl)
              have hrel := RelI.mk (x := x) (by simp) hS9 HR7.out Hone3.out (HO6.out.chg Hc7.out (fun b hb e => by have h1 := Hol.out b hb; have h2 := hFSl b0 hFb; have e : b = b0 := e; omega)) (HC6.out.trans2 Hc7.out (fun b e => .inl (by rw [show b = b0 from e]; exact hFb)))
              rw [Hd.out] at hrel
              have Hrel := Lib.hid hrel
              have HRm := Lib.hid HR7.out
              clear hrel hS9
              go_roundw
              case rel => exact Hrel.out
              case measure => rw [HRm.out.left_eq, HR3.out.left_eq]; omega
          | false =>
            have hq1 : (inF (lessK D ws k x2) x).getD (.bool false) = .bool false := by unfold inF; rw [Hqk.out, hd]; rfl
            have hq2 : (inF (lessK D ws k x2) x).isSome = false := by rw [inF_some, Hqk.out, hd]
            have q1 := HMb.out.lookS Try.underlying51 (z := .bool false) (by kernel_rfl) hxs (u := inF (lessK D ws k x2) x) rfl
            rw [hq1] at q1
            have Hd := Lib.hid hd
            have Hq2 := Lib.hid hq2
            clear hd hq1 hq2
            obtain ⟨zz, hz⟩ : ∃ zz, cc = zz := ⟨_, rfl⟩
            have Hz := Lib.hid hz
            have hzc : zz ≤ 1000000 := by omega
            clear hz
            have hm6 := HMb.out
            rw [Hz.out] at hm6
            have hlen := hm6.len (n := zz) Try.underlying51
            have HM7 := Lib.hid hm6
            have HR7 := HR6
            clear hm6
            by_cases hz0 : zz = 0
            · subst hz0
              go_wp2_with (at_delete; refine wp_delete_MpR (hk := Try.underlying27) rfl (.tmp 39) (.tmp 40) 40 rfl HR7.out Try.underlying40 rfl (b := x2) hid rfl ?_; intro w8 cnt8 hR8 hle8 hc8)
              have hS9 := HS6.out.congr (D2 := lessK D ws (k + 1)) (fun a y => by
                rw [Hst.out]
                by_cases ha : a = x2
                · subst ha
                  by_cases hy : y = x
                  · subst hy; rw [Hqk.out, Hd.out]; rfl
                  · simp [hy]
                · rw [HS6.out.no a (Hone3.out a ha) y]; rfl)
              have hem : ∀ y, lessK D ws (k + 1) x2 y = false := fun y => by
                have h9 := HM7.out.empty y
                rw [Hst.out]
                have h8 := inF_some (lessK D ws k x2) y
                rw [h9] at h8
                rw [← h8]; rfl
              have hS10 := (hS9.drop (hR8.mp) hc8).congr (D2 := lessK D ws (k + 1)) (fun a y => by
                by_cases ha : a = x2
                · subst ha; rw [hem]; simp
                · simp [ha])
              have hR10 := hR8.congr (f2 := toM (fun a => if a = x2 then none else f3 a)) (fun a => by unfold toM; by_cases ha : a = x2 <;> simp [ha])
              have hrel := RelI.mk (x := x) (by simp) hS10 hR10 (fun a ha => (if_neg ha).trans (Hone3.out a ha)) (HO6.out.chg hc8 (fun b hb e => by have h1 := Hol.out b hb; have e : b = mw := e; omega)) (HC6.out.trans2 hc8 (fun b e => .inl (by rw [show b = mw from e]; exact hmwF)))
              rw [Hd.out] at hrel
              have Hrel := Lib.hid hrel
              have HRm := Lib.hid hR8
              clear hrel hS9
              clear hS10 hR10 hem hR8
              go_roundw
              case rel => exact Hrel.out
              case measure => rw [HRm.out.left_eq, HR3.out.left_eq]; omega
            · have hzb : (((zz : Nat) : Int) == 0) = false := beq_eq_false_iff_ne.2 (by omega)
              go_wp2_with fail
              have hS9 := HS6.out.congr (D2 := lessK D ws (k + 1)) (fun a y => by
                rw [Hst.out]
                by_cases ha : a = x2
                · subst ha
                  by_cases hy : y = x
                  · subst hy; rw [Hqk.out, Hd.out]; rfl
                  · simp [hy]
                · rw [HS6.out.no a (Hone3.out a ha) y]; rfl)
              have hrel := RelI.mk (x := x) (by simp) hS9 HR7.out Hone3.out HO6.out HC6.out
              rw [Hd.out] at hrel
              have Hrel := Lib.hid hrel
              have HRm := Lib.hid HR7.out
              clear hrel hS9
              go_roundw
              case rel => exact Hrel.out
              case measure => rw [HRm.out.left_eq, HR3.out.left_eq]; omega
    · have hst : ws.take k = ws := List.take_of_length_le (by have := Hm9.out; omega)
      have hcw : cntK D id ws k = ws.countP (D id) := by unfold cntK; rw [hst]
      have hS9 := hS.congr (D2 := fun a y => D a y && !inB ws y) (fun a y => by unfold lessK; rw [hst])
      have Hcw := Lib.hid hcw
      have HS9 := Lib.hid hS9
      have Hn2 := Lib.hid hone2
      clear hst hcw hS9 hS hone2 hO
      go_wp2_with fail
      go_ret
      exact ⟨by rw [← Hcw.out]; rfl, n2, f2, HS9.out, Hn2.out, hC⟩
end Go.Proofs.Ytogmnhneobdklaa
