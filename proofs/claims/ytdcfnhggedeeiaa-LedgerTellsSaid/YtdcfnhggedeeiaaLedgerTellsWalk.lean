/-
  gleanerlaw22.LedgerTells: the walk.
-/
import Derived.Test.YtdcfnhggedeeiaaLedgerWait
import Derived.Test.YtdcfnhggedeeiaaRiseWalk
import Derived.Test.YtdcfnhggedeeiaaSameInts
import Derived.Test.YtdcfnhggedeeiaaRegionF
import Derived.Test.YtdcfnhggedeeiaaWin
namespace Go.Proofs.Ytdcfnhggedeeiaa
open Go.RowKit
set_option linter.unusedVariables false
set_option linter.unusedSimpArgs false

def n1 : ByteArray := ⟨#[1]⟩
def n2 : ByteArray := ⟨#[2]⟩

set_option maxRecDepth 100000 in
set_option maxHeartbeats 4000000 in
theorem ledgerTells_core (wo : World) (A : Option Addr) (n c : Nat) (l : List Int) (hr : Rds wo 1 A n (iv l)) (hl : ∀ x ∈ l, i64 x) (v : Int) (hn : n ≤ 50) :
    Calls Try.prog 4 #[.slice A n c, .int .i64 v] wo fun e w2 => e = .returned (.bool true) ∧ Chg Non wo w2 := by
  have Hr := Lib.hid hr
  have Hll := Lib.hid hr.lenMap
  have Hl := Lib.hid hl
  clear hr hl
  go_enter Try.func4, Try.ntmps4
  go_wp2_with fail
  refine (led_alive _).mono ?_
  rintro e w1 ⟨rfl, hc1⟩
  go_wp2_with fail
  refine (ledNew_any _).mono ?_
  rintro e w2 ⟨g, mw, rfl, hL, hM, hmw1, hmw2, hc2⟩
  have hC2 := hc1.non hc2
  obtain ⟨FL, hFLe⟩ : ∃ FL : Nat → Prop, (fun b => w1.heap.size ≤ b ∧ b < w2.heap.size ∧ b ≠ mw) = FL := ⟨_, rfl⟩
  have HFL : Hid (∀ b, FL b → wo.heap.size ≤ b ∧ b < w2.heap.size ∧ b ≠ mw) := fun b h => by rw [← hFLe] at h; have := hc1.size; exact ⟨by have := h.1; omega, h.2⟩
  rw [hFLe] at hL
  have hmwo : wo.heap.size ≤ mw := by have := hc1.size; omega
  obtain ⟨s2, hs2⟩ : ∃ s2, w2.heap.size = s2 := ⟨_, rfl⟩
  have hS := Sets.made (K2 := inK) hM
  have hS2 := hS.congr (D2 := fun a x => decide (a = n1) && inL (l.take 0) x) (fun a x => by simp [inL])
  rw [hs2] at HFL hmw2
  have hw2 : s2 ≤ w2.heap.size := by omega
  clear hFLe hM hc1 hc2 hS hs2 hmw1
  go_wp2_with fail
  go_loopw [7, 8] (fun u i wr => ∃ (k m q n9 : Nat) (F : Nat → Prop) (f : ByteArray → Option Nat), k ≤ n ∧ i = .int .i64 k ∧ m ≤ k ∧ n9 ≤ q ∧ q = 2 * k ∧ OwnR rkN wr s2 u m (iv (risen (l.take k))) ∧ Led wr FL g mw [] ∧ Sets idKey inK wr F mw n9 f (fun a x => decide (a = n1) && inL (l.take k) x) q ∧ (∀ b, F b → wo.heap.size ≤ b ∧ ¬ FL b) ∧ (∀ b, u.ownBlock = some b → ¬ F b) ∧ s2 ≤ wr.heap.size ∧ Chg Non wo wr) (fun _ i _ => n - (intOf i).toNat)
  case atStart => exact ⟨0, 0, 0, 0, _, _, Nat.zero_le _, rfl, Nat.le_refl _, Nat.le_refl _, rfl, OwnR.nil _ _ _, hL, hS2, fun b e => ⟨by have e : b = mw := e; omega, fun h => (HFL.out b h).2.2 e⟩, (fun b h => by cases h), hw2, hC2⟩
  case round =>
    clear hL hS2 hC2 hw2
    obtain ⟨k, m, q, n9, F, f, hk, rfl, hmk, hn9, hq, ho, hL, hS, hF, hvF, hsz, hC⟩ := hrel
    subst hq
    by_cases hlt : k < n
    · obtain ⟨ad, x, rfl, hx, hc0⟩ := Hr.out.getI hlt
      have a0 := hC.cell hc0 _root_.id
      have hx64 := Hl.out x (List.mem_of_getElem? hx)
      have hFl := hS.lt
      have hgF := hL.gF
      have hgl := hgF.2
      have ka0 : ∀ wx, Chg F wr wx → wx.cell? (ad.add k) = some (.int .i64 x) := fun wx h => h.cell a0 (by rw [block_add]; exact fun e => by have := (hF _ e).1; have h2 := World.block_lt_of_cell? wo _ hc0; rw [block_add] at h2; omega)
      have b1 : (0 : Int) ≤ (k : Int) := by omega
      have b2 : (k : Int) < (n : Int) := by omega
      have HL := Lib.hid hL
      have HS := Lib.hid hS
      have Ho := Lib.hid ho
      have HF := Lib.hid hF
      have Hx := Lib.hid hx
      have hadl : ad.block < wr.heap.size := by have h2 := World.block_lt_of_cell? wr _ a0; rw [block_add] at h2; exact h2
      clear hL ho hc0 a0 hgF hF hx
      go_wp2_with fail
      refine st_region_last 8 15 13 F [10] [9, 14] (fun i _ _ wx => ∃ n2 f2, Sets idKey inK wx (tightF mw f2) mw n2 f2 (fun a y => (decide (a = n1) && inL (l.take k) y) || (decide (a = n1) && inL [x, x] y)) (2 * k + 2) ∧ n2 ≤ 2 * k + 1 ∧ ∀ b, tightF mw f2 b → F b ∨ wr.heap.size ≤ b) (fun _ _ _ _ => True) (fun i _ v => v = .tuple #[.agg #[.int .i64 0, .int .i64 0], .bool false]) (fun wx => Sets idKey inK wx F mw n9 f (fun a y => decide (a = n1) && inL (l.take k) y) (2 * k)) (by kernel_rfl) (by kernel_rfl) (by kernel_rfl) (by kernel_rfl) (by decide) rfl rfl rfl rfl rfl rfl rfl hFl (hS.non (Chg.refl _ _).drew) (fun _ _ h => h.non ((Chg.refl _ _).alloc _)) ?_
      repeat (first | (refine st_pass (by rfl) ?_; simp only [Act.put, List.setIfInBounds_toArray, List.set_cons_succ, List.set_cons_zero]) | (refine st_plain (F) (wr) rfl rfl (f := ?_) (by rfl) rfl rfl (fun w hC hG => ?_) ?_; rotate_left; (clear hG; first | (go_simp; done) | (go_simp; with_reducible rfl) | (simp [*, go_sem, ↓IntWalk.iteOmega]; done) | (simp [*, go_sem, ↓IntWalk.iteOmega]; with_reducible rfl)); simp only [Act.put, List.setIfInBounds_toArray, List.set_cons_succ, List.set_cons_zero]))
      refine st_minor F wr rfl rfl (ob := .cells #[.int .i64 x, .int .i64 x] 3) (kd := some (2, 2)) (by rfl) rfl rfl (fun w hC hG => by clear hG; go_simp; rfl) (fun g2 => ?_)
      simp only [Act.put, List.setIfInBounds_toArray, List.set_cons_succ, List.set_cons_zero]
      refine st_major (F) (wr) rfl rfl (by rfl) rfl (⟨_, rfl⟩) (fun _ _ _ _ _ _ => trivial) (fun v wx ob h => h.imp fun n2 h => h.imp fun f2 h => ⟨h.1.non ((Chg.refl _ wx).alloc ob), h.2⟩) (fun w hC hG hS => settle_of (r2 := ?_) ?_ ?_) ?_
      rotate_left
      (first | (go_simp; done) | (go_simp; rfl))
      · have hB : Blk w g2 3 #[.int .i64 x, .int .i64 x] := (hG 9 rfl).2
        have hg2 : wr.heap.size ≤ g2 := (hG 9 rfl).1
        refine settle_enter ((ledWant_yes w F FL g mw [] n9 (2 * k) f _ n1 (some ⟨g2, 0, none⟩) 2 2 [x, x] (HL.out.chg hC (fun b h h2 => (HF.out b h2).2 h)) hS (fun b h h2 => (HF.out b h2).2 h) rfl (by decide) (Rds.block hB rfl) (by intro y hy; simp at hy; rcases hy with rfl | rfl <;> exact hx64) (fun _ ad e h => by obtain rfl := Option.some.inj e; have := hFl _ h; have h9 : g2 < wr.heap.size := this; omega) (by omega) (by omega) hn9).mono ?_)
        rintro e w6 ⟨rfl, F2, n2, f2, hS6, hn6, hF6, hc6⟩
        have := hC.size
        exact ⟨_, rfl, rfl, hc6, ⟨n2, f2, hS6.tight, hn6, fun b h => (hF6 b (hS6.tightF h)).imp (fun h => h) (fun h => by omega)⟩, trivial⟩
      rintro v hv
      obtain rfl : v = .tuple #[.agg #[.int .i64 0, .int .i64 0], .bool false] := hv
      simp only [Act.put, List.setIfInBounds_toArray, List.set_cons_succ, List.set_cons_zero]
      repeat (first | (refine st_pass (by rfl) ?_; simp only [Act.put, List.setIfInBounds_toArray, List.set_cons_succ, List.set_cons_zero]) | (refine st_plain (F) (wr) rfl rfl (f := ?_) (by rfl) rfl rfl (fun w hC hG => ?_) ?_; rotate_left; (clear hG; first | (go_simp; done) | (go_simp; with_reducible rfl) | (simp [*, go_sem, ↓IntWalk.iteOmega]; done) | (simp [*, go_sem, ↓IntWalk.iteOmega]; with_reducible rfl)); simp only [Act.put, List.setIfInBounds_toArray, List.set_cons_succ, List.set_cons_zero]))
      refine st_minor F wr rfl rfl (ob := .cells #[.int .i64 0, .int .i64 0] 31) (kd := none) (by rfl) rfl rfl (fun w hC hG => by clear hG; go_simp; rfl) (fun g3 => ?_)
      simp only [Act.put, List.setIfInBounds_toArray, List.set_cons_succ, List.set_cons_zero]
      refine st_tail F wr rfl rfl rfl (fun w7 hC7 hS7 hG7 => ?_)
      have hB3 : Blk w7 g3 31 #[.int .i64 0, .int .i64 0] := (hG7 14).2
      have hg3 : wr.heap.size ≤ g3 := (hG7 14).1
      have hS2 : ∃ n2 f2, Sets idKey inK w7 (tightF mw f2) mw n2 f2 (fun a y => (decide (a = n1) && inL (l.take k) y) || (decide (a = n1) && inL [x, x] y)) (2 * k + 2) ∧ n2 ≤ 2 * k + 1 ∧ ∀ b, tightF mw f2 b → F b ∨ wr.heap.size ≤ b := hS7
      clear hG7 hS7
      obtain ⟨n2, f2, hS2, hn2, hF2⟩ := hS2
      refine ⟨_, exec_store _ _ rfl rfl rfl hB3 rfl (by kernel_rfl) (by simp [Value.oneCell']), ?_⟩
      simp only [List.drop_succ_cons, List.drop_zero]
      have hCs : Chg (fun b => b = g3) w7 (w7.setCells g3 0 [.int .i64 0, .int .i64 0]) := Chg.sets (S := fun b => b = g3) (.inl rfl) _ _ _ (Chg.refl _ w7)
      have hnb := hS2.notBlk hB3
      have hS8 := hS2.chg hCs (fun b h e => hnb (by rw [← show b = g3 from e]; exact h))
      have hC8 : Chg F wr (w7.setCells g3 0 [.int .i64 0, .int .i64 0]) := hC7.trans2 hCs (fun b e => .inr (by have e : b = g3 := e; omega))
      show wpList _ _ _ _ _ (w7.setCells g3 0 [.int .i64 0, .int .i64 0])
      obtain ⟨w8, hw8⟩ : ∃ w8, w7.setCells g3 0 [.int .i64 0, .int .i64 0] = w8 := ⟨_, rfl⟩
      rw [hw8] at hS8 hC8 ⊢
      clear hw8 hCs hnb hB3 hS2 hS hC7
      have hL8 := HL.out.chg hC8 (fun b h h2 => (HF.out b h2).2 h)
      have ho8 := Ho.out.chg hC8 hvF
      have hCo8 := hC.trans2 hC8 (fun b e => .inr (HF.out b e).1)
      have a08 := ka0 w8 hC8
      have hs8 := hC8.size
      have hS9 := hS8.congr (D2 := fun a y => decide (a = n1) && inL (l.take (k + 1)) y) (fun a y => by
        rw [List.take_add_one, Hx.out]
        simp only [Option.toList_some, inL_snoc]
        by_cases e : a = n1 <;> simp [e, inL])
      have hgl8 : g < w8.heap.size := by omega
      clear hS8
      go_wp2_with fail
      refine (ledTell_no w8 FL g mw [] n1 hL8 (by decide) rfl).mono ?_
      rintro e w9 ⟨rfl, rfl⟩
      clear ka0
      go_wp2_with fail
      refine (rise_any w8 s2 _ m _ x ho8 (by omega) (by omega)).mono ?_
      rintro e w9 ⟨v9, m9, rfl, ho9, hc9⟩
      have hst : risen (l.take (k + 1)) = riseI x (risen (l.take k)) := by rw [List.take_add_one, Hx.out]; exact risen_snoc _ _
      rw [← hst] at ho9
      have hm9 : m9 ≤ k + 1 := by
        have h1 := ho9.len
        rw [iv_len] at h1
        have h2 := risen_le (l.take (k + 1))
        have h3 := List.length_take_le (k + 1) l
        have e : (rkN).size = 1 := rfl
        rw [e] at h1
        omega
      have hF9 : ∀ b, tightF mw f2 b → wo.heap.size ≤ b ∧ ¬ FL b := fun b h => (hF2 b h).elim (HF.out b) (fun h => ⟨by have := hC.size; omega, fun h2 => by have := HFL.out b h2; omega⟩)
      have hS10 := hS9.non hc9
      have hL9 := hL8.non hc9
      have hC9 := hCo8.non hc9
      have hs9 := hc9.size
      have hv9 : ∀ b, v9.ownBlock = some b → ¬ tightF mw f2 b := by
        intro b hb
        rcases ho9.2 with ⟨rfl, _⟩ | ⟨g2, cap, cur, rfl, _, hh, _⟩
        · cases hb
        · have e : g2 = b := by simpa [Value.ownBlock] using hb
          subst e
          exact hS10.notBlk (t := rkN.e) (cs := cur) hh
      clear hS9 hL8 hCo8 hc9 ho8 a08 hC hvF hC8
      go_wp2_with fail
      go_roundw
      case rel => exact ⟨k + 1, m9, 2 * (k + 1), n2, tightF mw f2, f2, by omega, by go_num, hm9, by omega, rfl, ho9, hL9, hS10, hF9, hv9, by omega, hC9⟩
      case measure => simp [intOf]; omega
    · have hst : l.take k = l := List.take_of_length_le (by have := Hll.out; omega)
      rw [hst] at ho hS
      have hkn : k ≤ 50 := by omega
      have hn12 : n1 ≠ n2 := by decide
      have Hn12 := Lib.hid hn12
      clear hst hn12
      have hgl := hL.gF.2
      have hb5 := Blk.new wr 3 #[.int .i64 5]
      have hcA : Chg Non wr (wr.alloc (.cells #[.int .i64 5] 3)) := (Chg.refl _ _).alloc _
      have hFl := hS.lt
      have HW := Lib.hid (ledWant_yes _ F FL g mw [] n9 (2 * k) f _ n2 (some ⟨wr.heap.size, 0, none⟩) 1 1 [5] (hL.non hcA) (hS.non hcA) (fun b h h2 => (hF b h2).2 h) rfl (by decide) (Rds.block hb5 rfl) (by intro y hy; simp at hy; subst hy; exact ⟨by omega, by omega⟩) (fun _ ad e h => by obtain rfl := Option.some.inj e; have := hFl _ h; have h9 : wr.heap.size < wr.heap.size := this; omega) (by omega) (by omega) hn9)
      have hL1 := hL.non hcA
      have ho1 := ho.non hcA
      have hC1 := hC.non hcA
      have hs1 := hcA.size
      clear hL hS ho hC hb5 hcA
      go_wp2_with fail
      refine HW.out.mono ?_
      rintro e w3 ⟨rfl, F3, m3, f3, hS3, hm3, hF3, hc3⟩
      have hF3w : ∀ b, tightF mw f3 b → wo.heap.size ≤ b ∧ ¬ FL b := fun b h => (hF3 b (hS3.tightF h)).elim (hF b) (fun h => ⟨by have := hC1.size; omega, fun h2 => by have := HFL.out b h2; omega⟩)
      have hL3 := hL1.chg hc3 (fun b h h2 => (hF b h2).2 h)
      have ho3 := ho1.chg hc3 hvF
      have hC3 := hC1.trans2 hc3 (fun b e => .inr (hF b e).1)
      have hS3t := hS3.tight
      have hv3 : ∀ b, u7.ownBlock = some b → ¬ tightF mw f3 b := by
        intro b hb
        rcases ho3.2 with ⟨e, _⟩ | ⟨g2, cap, cur, e, _, hh, _⟩
        · rw [e] at hb; cases hb
        · rw [e] at hb
          have e : g2 = b := by simpa [Value.ownBlock] using hb
          subst e
          exact hS3.notBlk (t := rkN.e) (cs := cur) hh
      have hs3 := hc3.size
      have hFLl := hL3.lt
      clear HW hS3 hF3 hc3 hL1 ho1 hC1 hvF hF hFl
      go_wp2_with fail
      refine (ledCommit_yes w3 FL g mw [] n1 0 v hL3 (by decide) rfl (by simp)).mono ?_
      rintro e w4 ⟨rfl, FL4, hL4, hFL4, hc4⟩
      have HFw := Lib.hid hF3w
      have hFLF : ∀ b, FL4 b → ¬ tightF mw f3 b := fun b h h2 => (hFL4 b h).elim (hF3w b h2).2 (fun h => by have := hS3t.lt b h2; omega)
      have hS4 := hS3t.chg hc4 (fun b h h2 => (hF3w b h).2 h2)
      have ho4 := ho3.chg hc4 (fun b h h2 => by have := (ho3.lt h).1; have := HFL.out b h2; omega)
      have hC4 := hC3.trans2 hc4 (fun b e => .inr (HFL.out b e).1)
      have hs4 := hc4.size
      have hFL4s : ∀ b, FL4 b → wo.heap.size ≤ b := fun b h => (hFL4 b h).elim (fun h => (HFL.out b h).1) (fun h => by have := hC3.size; omega)
      clear hL3 hS3t ho3 hC3 hc4 hFL4
      go_wp2_with fail
      refine (ledTell_yes w4 (tightF mw f3) FL4 g mw _ m3 (2 * k + 1) f3 _ n1 0 hL4 hS4 hFLF (by decide) (by simp [atI]) (by omega)).mono ?_
      rintro e w5 ⟨v5, L5, m5, f5, rfl, hr5, hm5, hl5, ho5, hS5, hn5, hc5⟩
      have hL5e : L5 = risen l := by
        refine rises_eq hr5 (risen_spec l).1 fun z => ?_
        rw [hm5, (risen_spec l).2]
        simp [inL, Hn12.out]
      subst hL5e
      have hL5 := hL4.chg hc5 (fun b h h2 => hFLF b h h2)
      have hou5 := ho4.chg hc5 hv3
      have hC5 := hC4.trans2 hc5 (fun b e => .inr (HFw.out b e).1)
      have hs5 := hc5.size
      have hv5 : ∀ b, v5.ownBlock = some b → ¬ tightF mw f3 b := fun b hb h => by have := hS4.lt b h; have := (ho5.lt hb).1; omega
      clear hL4 hS4 ho4 hC4 hr5 hm5
      go_wp2_with fail
      refine (ledTell_yes w5 (tightF mw f3) FL4 g mw _ m5 (2 * k + 1) f5 _ n1 0 hL5 hS5 hFLF (by decide) (by simp [atI]) (by omega)).mono ?_
      rintro e w6 ⟨v6, L6, m6, f6, rfl, hr6, hm6, hl6, ho6, hS6, hn6, hc6⟩
      have hL6e : L6 = [] := by
        rw [List.eq_nil_iff_forall_not_mem]
        intro z hz
        have := (hm6 z).1 hz
        simp at this
      subst hL6e
      have hL6 := hL5.chg hc6 (fun b h h2 => hFLF b h h2)
      have hou6 := hou5.chg hc6 hv3
      have ho56 := ho5.chg hc6 hv5
      have hC6 := hC5.trans2 hc6 (fun b e => .inr (HFw.out b e).1)
      have hs6 := hc6.size
      clear hL5 hS5 hou5 ho5 hC5 hr6 hm6 hc6 hc5
      obtain ⟨A6, d6, rfl, _⟩ := ho6.open_
      clear ho6
      have hcA : Chg Non w6 (w6.alloc (.cells #[.int .i64 9] 3)) := (Chg.refl _ _).alloc _
      have HW := Lib.hid (ledWant_got _ FL4 g mw _ n1 0 v 0 (some ⟨w6.heap.size, 0, none⟩) 1 1 (hL6.non hcA) (by decide) (by simp [atI]) rfl)
      have hgl6 := hL6.gF.2
      go_wp2_with fail
      refine HW.out.mono ?_
      rintro e w7 ⟨rfl, hc7⟩
      have hC67 := hcA.non hc7
      have hL7 := hL6.non hC67
      have hS7 := hS6.non hC67
      have hou7 := hou6.non hC67
      have ho7 := ho56.non hC67
      have hC7 := hC6.non hC67
      have hs7 := hC67.size
      clear HW hL6 hS6 hou6 ho56 hC6 hcA hc7 hC67
      have hbR := Blk.new w7 31 #[.int .i64 0, .int .i64 v]
      obtain ⟨w8, hw8⟩ : ∃ w8, w7.alloc (.cells #[.int .i64 0, .int .i64 v] 31) = w8 := ⟨_, rfl⟩
      have hc8 : Chg Non w7 w8 := hw8 ▸ (Chg.refl _ _).alloc _
      rw [hw8] at hbR
      have hL8 := hL7.non hc8
      have hS8 := hS7.non hc8
      have hC8 := hC7.non hc8
      obtain ⟨AU, cU, rfl, _, _, hrU, _⟩ := (hou7.non hc8).open_
      obtain ⟨A5, c5, rfl, _, hc5m, hr5, _⟩ := (ho7.non hc8).open_
      have hsm := sameInts_any w8 A5 _ c5 (risen l) AU _ cU (risen l) hr5 hrU (by unfold maxLen at hc5m; omega)
      rw [beq_self_eq_true] at hsm
      have hs8 := hc8.size
      have hgl8 : g < w8.heap.size := by omega
      clear hL7 hS7 hou7 ho7 hC7 hc8 hr5 hrU
      go_wp2_with fail
      refine hsm.mono ?_
      rintro e w9 ⟨rfl, hc9⟩
      have hL9 := hL8.non hc9
      have hS9 := hS8.non hc9
      have hC9 := hC8.non hc9
      have hbR9 := hbR.non hc9
      have r1 : w9.cell? ⟨w7.heap.size, 1, none⟩ = some (.int .i64 v) := hbR9.cell 1
      have hbRl := hbR9.lt
      have hs9 := hc9.size
      have hgl9 : g < w9.heap.size := by omega
      have vv : ((v : Int) == v) = true := beq_self_eq_true _
      clear hL8 hS8 hC8 hsm hc9 hbR hw8
      go_wp2_with fail
      refine (ledTell_yes w9 (tightF mw f3) FL4 g mw _ m6 (2 * k + 1) f6 _ n1 0 hL9 hS9 hFLF (by decide) (by simp [atI]) (by omega)).mono ?_
      rintro e w10 ⟨v10, L10, m10, f10, rfl, hr10, hm10, hl10, ho10, hS10, hn10, hc10⟩
      have hL10e : L10 = [] := by
        rw [List.eq_nil_iff_forall_not_mem]
        intro z hz
        have := (hm10 z).1 hz
        simp at this
      subst hL10e
      have hL10 := hL9.chg hc10 (fun b h h2 => hFLF b h h2)
      have hC10 := hC9.trans2 hc10 (fun b e => .inr (HFw.out b e).1)
      obtain ⟨A10, d10, rfl, _⟩ := ho10.open_
      clear ho10 hL9 hS9 hC9 hr10 hm10 hc10
      go_wp2_with fail
      refine (ledTell_no w10 FL4 g mw _ n2 hL10 (by decide) (by rw [atI_none]; intro c hc; simp at hc; subst hc; exact Hn12.out)).mono ?_
      rintro e w11 ⟨rfl, rfl⟩
      go_wp2_with fail
      go_ret
      exact ⟨rfl, hC10⟩

set_option maxRecDepth 100000 in
set_option maxHeartbeats 4000000 in
theorem ledgerTells_walk (w : World) (A : Option Addr) (n c : Nat) (e0 : Rd Try.prog w 22 (Value.slice A n c).cells.toList) (v : Int) (h1 : i64 v) :
    Calls Try.prog 4 #[.slice A n c, .int .i64 v] w fun e w2 => e = .returned (.bool true) ∧ Chg Non w w2 := by
  obtain ⟨A', n', c', l, g1, g2, g3, g4, g5⟩ := e0.ints Try.underlying22 (by kernel_rfl) Try.underlying3
  simp only [Value.cells, List.cons.injEq, and_true, Value.slice.injEq] at g1
  obtain ⟨rfl, rfl, rfl⟩ := g1
  by_cases hn : n ≤ 50
  · exact ledgerTells_core w A n c l g4 g5 v hn
  · clear g4 g5 e0
    unfold maxLen at g3
    have k1 : 50 < n := by omega
    clear hn
    go_enter Try.func4, Try.ntmps4
    go_wp2_with fail
    refine (led_alive _).mono ?_
    rintro e w1 ⟨rfl, hc1⟩
    go_wp2_with fail
    go_ret
    exact ⟨rfl, hc1⟩
end Go.Proofs.Ytdcfnhggedeeiaa
