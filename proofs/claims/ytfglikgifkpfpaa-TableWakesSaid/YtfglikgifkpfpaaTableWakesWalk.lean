/-
  gleanerlaw16.TableWakes: the walk.
-/
import Derived.Test.YtfglikgifkpfpaaTableNames
namespace Go.Proofs.Ytfglikgifkpfpaa
open Go.ChangeShapes Go.WideShapes Go.ChangeAt Go.RowKit
set_option linter.unusedVariables false
set_option linter.unusedSimpArgs false

/-- What is known of a table behind k rounds: the i-th task waits for the name of the i-th number's low bits. -/
structure Wk (s : TbS) (l : List Int) (k : Nat) : Prop where
  R : s.R = []
  G : ∀ b, s.G b = false
  ng : s.ng = 0
  np : s.np = k
  mx : s.mx = 20
  to : ∀ i x, i < k → l[i]? = some x → s.K (id1 i) = some (id2 15 (x % 16).toNat)
  of : ∀ b, (s.K b).isSome = true → ∃ i, i < k ∧ b = id1 i
theorem Wk.start (l : List Int) : Wk ⟨[], fun _ => false, 0, fun _ => none, 0, 20⟩ l 0 := ⟨rfl, fun _ => rfl, rfl, rfl, rfl, fun i x h => by omega, fun b h => by cases h⟩
theorem Wk.not {s : TbS} {l : List Int} {k : Nat} (h : Wk s l k) (hk : k < 256) : s.has (id1 k) = false := by
  unfold TbS.has
  have h1 : (s.K (id1 k)).isSome = false := by
    cases hb : (s.K (id1 k)).isSome with
    | false => rfl
    | true =>
      obtain ⟨i, hi, e⟩ := h.of _ hb
      have := id1_inj (by omega) (by omega) e
      omega
  rw [h1, h.G, h.R]
  rfl
theorem Wk.step {s : TbS} {l : List Int} {k : Nat} {x : Int} (h : Wk s l k) (hk : k < 256) (hx : l[k]? = some x) : Wk (TbS.parks { { s with R := s.R ++ [id1 k] } with R := [], G := fun b => decide (b = id1 k) || s.G b, ng := cntP (s.G (id1 k)) s.ng } (id1 k) (id2 15 (x % 16).toNat)) l (k + 1) := by
  have hno : (s.K (id1 k)).isSome = false := by
    cases hb : (s.K (id1 k)).isSome with
    | false => rfl
    | true =>
      obtain ⟨i, hi, e⟩ := h.of _ hb
      have := id1_inj (by omega) (by omega) e
      omega
  refine ⟨rfl, fun b => ?_, ?_, ?_, h.mx, fun i y hi hy => ?_, fun b hb => ?_⟩
  · show (!decide (b = id1 k) && (decide (b = id1 k) || s.G b)) = false
    rw [h.G]
    by_cases e : b = id1 k <;> simp [e]
  · show cntD (decide (id1 k = id1 k) || s.G (id1 k)) (cntP (s.G (id1 k)) s.ng) = 0
    rw [h.G, h.ng]
    simp [cntD, cntP]
  · show cntP (s.K (id1 k)).isSome s.np = k + 1
    rw [hno, h.np]
    rfl
  · show (if id1 i = id1 k then some (id2 15 (x % 16).toNat) else s.K (id1 i)) = _
    by_cases e : i = k
    · subst e
      rw [if_pos rfl]
      rw [hx] at hy
      rw [Option.some.inj hy]
    · rw [if_neg (fun e2 => e (id1_inj (by omega) hk e2))]
      exact h.to i y (by omega) hy
  · have hb : ((if b = id1 k then some (id2 15 (x % 16).toNat) else s.K b) : Option ByteArray).isSome = true := hb
    by_cases e : b = id1 k
    · exact ⟨k, by omega, e⟩
    · rw [if_neg e] at hb
      obtain ⟨i, hi, e2⟩ := h.of b hb
      exact ⟨i, by omega, e2⟩
/-- Those that are woken, in order. -/
def wantT (l : List Int) (wk : Nat) (k : Nat) : List ByteArray := ((List.range k).filter fun i => decide (((l.getD i 0) % 16).toNat = wk)).map id1
theorem wantT_succ {l : List Int} {wk k : Nat} {x : Int} (hx : l[k]? = some x) : wantT l wk (k + 1) = wantT l wk k ++ (if (x % 16).toNat = wk then [id1 k] else []) := by
  unfold wantT
  rw [List.range_succ, List.filter_append, List.map_append]
  congr 1
  have e : l.getD k 0 = x := by rw [List.getD_eq_getElem?_getD, hx]; rfl
  simp only [List.filter_cons, List.filter_nil, e]
  by_cases h : (x % 16).toNat = wk <;> simp [h]
theorem wantT_len (l : List Int) (wk k : Nat) : (wantT l wk k).length ≤ k := by
  unfold wantT
  rw [List.length_map]
  exact Nat.le_trans (List.length_filter_le _ _) (by simp)
theorem wantT_rises (l : List Int) (wk : Nat) {k : Nat} (hk : k ≤ 256) : RisesS (wantT l wk k) := by
  unfold wantT
  rw [RisesS, List.pairwise_map]
  refine List.Pairwise.filter _ ?_
  refine List.Pairwise.imp_of_mem (fun {i j} hi hj h => ?_) (List.pairwise_lt_range (n := k))
  have := List.mem_range.1 hj
  exact id1_lt (by omega) h
theorem Wk.woken {s : TbS} {l : List Int} {k wk : Nat} (h : Wk s l k) (hk : k ≤ 256) (hl : k ≤ l.length) (hw : wk < 256) {W : List ByteArray} (hr : RisesS W) (hm : ∀ x, x ∈ W ↔ s.wakes [id2 15 wk] x = true) : W = wantT l wk k := by
  refine rises_eqS hr (wantT_rises l wk hk) fun z => ?_
  rw [hm]
  unfold wantT
  rw [List.mem_map]
  constructor
  · intro hz
    unfold TbS.wakes at hz
    cases hK : s.K z with
    | none => rw [hK] at hz; cases hz
    | some o =>
      rw [hK] at hz
      obtain ⟨i, hi, rfl⟩ := h.of z (by rw [hK]; rfl)
      refine ⟨i, List.mem_filter.2 ⟨List.mem_range.2 hi, ?_⟩, rfl⟩
      have hx := List.getElem?_eq_getElem (show i < l.length by omega)
      have h2 := h.to i _ hi hx
      rw [hK] at h2
      have ho : o = id2 15 wk := by have := hasB_true.1 hz; simpa using this
      rw [ho] at h2
      have h3 := id2_inj hw (by omega) (Option.some.inj h2)
      have e : l.getD i 0 = l[i] := by rw [List.getD_eq_getElem?_getD, hx]; rfl
      rw [e]
      exact decide_eq_true h3.symm
  · rintro ⟨i, hi, rfl⟩
    obtain ⟨h1, h2⟩ := List.mem_filter.1 hi
    have hik := List.mem_range.1 h1
    have hx := List.getElem?_eq_getElem (show i < l.length by omega)
    have e : l.getD i 0 = l[i] := by rw [List.getD_eq_getElem?_getD, hx]; rfl
    unfold TbS.wakes
    rw [h.to i _ hik hx]
    refine hasB_true.2 ?_
    rw [e] at h2
    simp only [decide_eq_true_eq] at h2
    rw [h2]
    simp
theorem woken_none {s : TbS} {on W W2 : List ByteArray} (hm : ∀ x, x ∈ W ↔ s.wakes on x = true) (hm2 : ∀ x, x ∈ W2 ↔ (s.woken W).wakes on x = true) : W2 = [] := by
  rw [List.eq_nil_iff_forall_not_mem]
  intro x hx
  have h := (hm2 x).1 hx
  unfold TbS.wakes at h
  have e : (s.woken W).K x = if hasB W x then none else s.K x := rfl
  rw [e] at h
  by_cases hw : hasB W x = true
  · rw [if_pos hw] at h; cases h
  · rw [if_neg hw] at h
    exact hw (hasB_true.2 ((hm x).2 h))

set_option maxRecDepth 100000 in
set_option maxHeartbeats 8000000 in
theorem tableWakes_core (w : World) (A : Option Addr) (n c : Nat) (l : List Int) (hr : Rds w 1 A n (iv l)) (hn : n ≤ 16) (wk : Nat) (hw : wk < 16) :
    Calls Try.prog 5 #[.slice A n c, .int .i64 (wk : Int)] w fun e w2 => e = .returned (.bool true) ∧ Chg Non w w2 := by
  have Hr := Lib.hid hr
  have Hll := Lib.hid hr.lenMap
  have qc := @conv1
  have qd := @conv2
  clear hr
  go_enter Try.func5, Try.ntmps5
  go_wp2_with fail
  refine (tb_alive _).mono ?_
  rintro e w1 ⟨rfl, hc1⟩
  go_wp2_with fail
  refine (tbNew_any 20 _).mono ?_
  rintro e w2 ⟨g, rfl, hT, hc2⟩
  rw [if_neg (by omega)] at hT
  have hC2 := hc1.non hc2
  have hF0 : ∀ b, (w1.heap.size ≤ b ∧ b < w2.heap.size) → w.heap.size ≤ b := fun b h => by have := hc1.size; omega
  clear hc1 hc2
  go_wp2_with fail
  go_loopw [7, 8] (fun v i wr => ∃ (k m : Nat) (s : TbS) (F : Nat → Prop), k ≤ n ∧ i = .int .i64 k ∧ m ≤ k ∧ OwnR rkI wr w2.heap.size v m (sv (wantT l wk k)) ∧ (∀ b, v.ownBlock = some b → ¬ F b) ∧ Tb wr F g s ∧ Hid (∀ b, F b → w.heap.size ≤ b) ∧ Wk s l k ∧ Chg Non w wr ∧ w2.heap.size ≤ wr.heap.size) (fun _ i _ => n - (intOf i).toNat)
  case atStart => exact ⟨0, 0, _, _, Nat.zero_le _, rfl, Nat.le_refl _, OwnR.nil _ _ _, (fun b h => by cases h), hT, hF0, Wk.start l, hC2, Nat.le_refl _⟩
  case round =>
    clear hT hF0
    obtain ⟨k, m, s, F, hk, rfl, hmk, hown, hvF, hT, hF, hW, hC, hsz⟩ := hrel
    by_cases hlt : k < n
    · obtain ⟨ad, x, rfl, hx, hcell⟩ := Hr.out.getI hlt
      have hcr := hC.cell hcell id
      obtain ⟨y, hy, hand, hyx⟩ := and15 x
      have hst := wantT_succ (wk := wk) hx
      have hW2 := hW.step (by omega) hx
      have hnot := Lib.hid (hW.not (by omega))
      have hvid := id1_vid (show k < 16 by omega)
      have hvid2 : vid (id2 15 y) = true := id2_vid (by omega) hy
      have hyt : (x % 16).toNat = y := by omega
      rw [hyt] at hst hW2
      have q1 := fun w => qc (show k < 256 by omega) w
      have q2 := fun w => qd (j := 15) (show 15 < 256 by omega) (show y < 256 by omega) w
      obtain ⟨nm, hnm⟩ : ∃ nm, id1 k = nm := ⟨_, rfl⟩
      obtain ⟨no, hno⟩ : ∃ no, id2 15 y = no := ⟨_, rfl⟩
      rw [hnm] at q1 hst hW2 hnot hvid
      rw [hno] at q2 hW2 hvid2
      have hroom : (s.R.length + s.ng + s.np : Nat) < s.mx := by rw [hW.R, hW.ng, hW.np, hW.mx]; simp; omega
      have hroom2 : s.R.length + s.ng + s.np ≤ 1000000000 := by rw [hW.R, hW.ng, hW.np]; simp; omega
      have hnp2 : s.np ≤ 1000000000 := by omega
      have hng2 : s.ng ≤ 1000000000 := by omega
      have hR := hW.R
      have hnmz := id_small hvid
      have Hvid := Lib.hid hvid
      have Hvid2 := Lib.hid hvid2
      have Hroom := Lib.hid hroom
      have Hst := Lib.hid hst
      have HR := Lib.hid hR
      have hC3 := hC.alloc (.cells #[.int .u8 (k : Int)] 5)
      have hT3 := hT.non ((Chg.refl _ wr).alloc (.cells #[.int .u8 (k : Int)] 5))
      have ho3 := hown.non ((Chg.refl _ wr).alloc (.cells #[.int .u8 (k : Int)] 5))
      have hsz3 : w2.heap.size ≤ (wr.alloc (.cells #[.int .u8 (k : Int)] 5)).heap.size := by simp; omega
      obtain ⟨w3, hw3⟩ : ∃ w3, wr.alloc (.cells #[.int .u8 (k : Int)] 5) = w3 := ⟨_, rfl⟩
      have hcr3 := hcr
      have hcr4 : w3.cell? (ad.add k) = some (.int .i64 x) := by rw [← hw3]; exact ((Chg.refl Non wr).alloc _).cell hcr id
      rw [hw3] at hC3 hT3 ho3 hsz3
      have q1w := q1 wr
      rw [hw3] at q1w
      have hlts : ∀ b, F b → b < wr.heap.size := hT.lt
      have hvl : ∀ b, u7.ownBlock = some b → b < wr.heap.size := fun b h => (hown.lt h).2
      have hs13 : wr.heap.size ≤ w3.heap.size := by rw [← hw3]; simp
      have hbe : ((y : Int) == (wk : Int)) = decide (y = wk) := by
        by_cases e : y = wk
        · subst e; simp
        · rw [decide_eq_false e]; exact beq_eq_false_iff_ne.2 (by omega)
      clear hcell hx hnm hno hyt hvid hvid2 hroom hst hR hT hown hC hW hsz q1 qc qd hyx hcr hcr3
      go_wp2_with fail
      refine (tbAdd_yes w3 F g s nm hT3 Hvid.out hnot.out Hroom.out hroom2).mono ?_
      rintro e w4 ⟨rfl, F4, hT4, hF4, hc4⟩
      have hC4 := hC3.newF hc4 hF.out
      have ho4 := ho3.chg hc4 hvF
      have hs4 := hc4.size
      have hF4w : ∀ b, F4 b → w.heap.size ≤ b := fun b h => (hF4 b h).elim (hF.out b) (fun h => by have := hC3.size; omega)
      have hvF4 : ∀ b, u7.ownBlock = some b → ¬ F4 b := fun b h h2 => (hF4 b h2).elim (hvF b h) (fun h3 => by have := hvl b h; omega)
      clear hT3 ho3 hC3 hc4 hw3 q1w hcr4
      go_wp2_with fail
      refine (tbNext_yes w4 F4 g _ [] nm hT4 (by show s.R ++ [nm] = _; rw [HR.out]) hnmz hng2).mono ?_
      rintro e w5 ⟨rfl, hT5, hc5⟩
      have hC5 := hC4.newF hc5 hF4w
      have ho5 := ho4.chg hc5 hvF4
      have hs5 := hc5.size
      obtain ⟨s5, hT5, hW5, hG5, hnp5⟩ : ∃ s5, Tb w5 F4 g s5 ∧ Wk (s5.parks nm no) l (k + 1) ∧ s5.G nm = true ∧ s5.np ≤ 1000000000 := ⟨_, hT5, hW2, by simp, hnp2⟩
      clear hT4 ho4 hC4 hc5 hW2
      have q2w := q2 w5
      have hC6 := hC5.alloc (.cells #[.int .u8 ((15 : Nat) : Int), .int .u8 (y : Int)] 5)
      have hT6 := hT5.non ((Chg.refl _ w5).alloc (.cells #[.int .u8 ((15 : Nat) : Int), .int .u8 (y : Int)] 5))
      have ho6 := ho5.non ((Chg.refl _ w5).alloc (.cells #[.int .u8 ((15 : Nat) : Int), .int .u8 (y : Int)] 5))
      obtain ⟨w6, hw6⟩ : ∃ w6, w5.alloc (.cells #[.int .u8 ((15 : Nat) : Int), .int .u8 (y : Int)] 5) = w6 := ⟨_, rfl⟩
      rw [hw6] at hC6 hT6 ho6 q2w
      have hs6 : w5.heap.size ≤ w6.heap.size := by rw [← hw6]; simp
      have hw6 : w5.alloc (.cells #[.int .u8 15, .int .u8 (y : Int)] 5) = w6 := hw6
      clear hT5 ho5 hC5 q2
      go_wp2_with fail
      refine (tbPark_any w6 F4 g s5 nm no hT6 hnmz hnp5).mono ?_
      rintro e w7 ⟨rfl, hT7, hc7⟩
      have hpt : (vid no && s5.G nm) = true := by rw [Hvid2.out, hG5]; rfl
      rw [hpt, if_pos rfl] at hT7
      rw [hpt]
      have hC7 := hC6.newF hc7 hF4w
      have ho7 := ho6.chg hc7 hvF4
      have hs7 := hc7.size
      have hsz7 : w2.heap.size ≤ w7.heap.size := by omega
      have HF4 := Lib.hid hF4w
      clear hT6 ho6 hC6 hc7 hw6 q2w hpt hG5 hF4w hF4 hF hvF hroom2
      by_cases hyw : y = wk
      · subst hyw
        rw [decide_eq_true rfl] at hbe
        rw [if_pos rfl] at Hst
        go_wp2_with (at_builtin; refine appR1 (K := rkI) rfl (.tmp 73) (.tmp 75) rfl ho7 rfl (cs := #[.string nm]) rfl rfl (sv_one [nm]) ?_ ?_ ?_; (next => omega); (next => exact hsz7); intro v8 w8 o8 c8 hv8)
        have hT8 := hT7.chg c8 (fun b h e => hvF4 b e h)
        have hC8 : Chg Non w w8 := hC7.trans2 c8 (fun b e => .inr (by have := (ho7.lt e).1; have := hC2.size; omega))
        have hvF8 : ∀ b, v8.ownBlock = some b → ¬ F4 b := fun b h h2 => by
          rcases hv8 with e | e
          · rw [e] at h; exact hvF4 b h h2
          · rw [e] at h
            have e2 := Option.some.inj h
            have := hT7.lt b h2
            omega
        rw [show sv (wantT l y k) ++ (#[.string nm] : Array Value).toList = sv (wantT l y (k + 1)) from by rw [Hst.out]; simp [sv]] at o8
        have hsz8 : w2.heap.size ≤ w8.heap.size := by have := c8.size; omega
        clear hT7 ho7 hC7 c8 hbe
        go_roundw
        case rel => exact ⟨k + 1, m + 1, _, F4, by omega, by go_num, by omega, o8, hvF8, hT8, HF4.out, hW5, hC8, hsz8⟩
        case measure => simp [intOf]; omega
      · rw [decide_eq_false hyw] at hbe
        rw [if_neg hyw, List.append_nil] at Hst
        rw [← Hst.out] at ho7
        clear hyw Hst
        go_wp2_with fail
        go_roundw
        case rel => exact ⟨k + 1, m, _, F4, by omega, by go_num, by omega, ho7, hvF4, hT7, HF4.out, hW5, hC7, hsz7⟩
        case measure => simp [intOf]; omega
    · obtain rfl : k = n := by omega
      have hkl : k ≤ l.length := by have := Hll.out; omega
      have hvid2 : vid (id2 15 wk) = true := id2_vid (by omega) hw
      have q2 := fun w => qd (j := 15) (show 15 < 256 by omega) (show wk < 256 by omega) w
      have hwoken := fun W (h1 : RisesS W) h2 => hW.woken (wk := wk) (by omega) hkl (by omega) (W := W) h1 h2
      have hml := hown.lenS
      have hwl := wantT_len l wk k
      obtain ⟨no, hno⟩ : ∃ no, id2 15 wk = no := ⟨_, rfl⟩
      rw [hno] at q2 hwoken
      have hnp : s.np = k := hW.np
      have hR : s.R = [] := hW.R
      have HR := Lib.hid hR
      have Hnp := Lib.hid hnp
      have Hml := Lib.hid hml
      have Hwoken := Lib.hid hwoken
      -- the first wake's argument
      have hq2 := q2 wr
      have hws : ((wr.alloc (.cells #[.int .u8 15, .int .u8 (wk : Int)] 5)).alloc (.cells #[.string no] 27)).heap.size = wr.heap.size + 2 := by simp
      have hon : ∀ wx : World, Rds ((wx.alloc (.cells #[.int .u8 15, .int .u8 (wk : Int)] 5)).alloc (.cells #[.string no] 27)) 1 (some ⟨wx.heap.size + 1, 0, none⟩) 1 (sv [no]) := fun wx => by
        have := Rds.block (Blk.new (wx.alloc (.cells #[.int .u8 15, .int .u8 (wk : Int)] 5)) 27 #[.string no]) (n := 1) rfl
        simpa [sv] using this
      have Hon := Lib.hid hon
      have hfr : ∀ wx : World, Chg Non wx ((wx.alloc (.cells #[.int .u8 15, .int .u8 (wk : Int)] 5)).alloc (.cells #[.string no] 27)) := fun wx => ((Chg.refl _ _).alloc _).alloc _
      have Hfr := Lib.hid hfr
      have hFl : ∀ b, F b → b < wr.heap.size := hT.lt
      clear hW hno hvid2 hnp hR hml hwoken hon hfr qc qd
      have hwake := tbWake_any _ F g s (some ⟨wr.heap.size + 1, 0, none⟩) 1 1 [no] (hT.non (Hfr.out wr)) (Hon.out wr) (by omega) (fun _ ad e h => by obtain rfl := Option.some.inj e; have h9 : wr.heap.size + 1 < wr.heap.size := hFl _ h; omega) (by rw [Hnp.out]; omega) (by rw [HR.out]; simp)
      have hC9 := hC.non (Hfr.out wr)
      have ho9 := hown.non (Hfr.out wr)
      have Hwake := Lib.hid hwake
      have q2r : ∀ w : World, (convert 28 27 (.slice (some ⟨w.heap.size, 0, none⟩) 2 2)).run Try.prog (w.alloc (.cells #[.int .u8 15, .int .u8 (wk : Int)] 5)) = .ok (.string no) (w.alloc (.cells #[.int .u8 15, .int .u8 (wk : Int)] 5)) := q2
      clear hq2 hT hown hC hwake q2 hws
      go_wp2_with fail
      refine Hwake.out.mono ?_
      rintro e w3 ⟨v3, W, F3, rfl, hWr, hWm, hWl, hWz, ho3, hT3, hF3, hv3, hc3⟩
      have hWeq := Hwoken.out W hWr hWm
      have hF3w : ∀ b, F3 b → w.heap.size ≤ b := fun b h => (hF3 b h).elim (hF.out b) (fun h => by have := hC9.size; omega)
      have hC3 := hC9.newF hc3 hF.out
      have ho3w := ho9.chg hc3 (fun b h => hvF b h)
      rw [hWeq] at ho3 hT3
      have hm3 := hWm
      rw [hWeq] at hm3
      have Hm3 := Lib.hid hm3
      have hs3 := hc3.size
      clear hWr hWm hWl hWz hF3 hc3 hC9 ho9 hm3 Hwake Hwoken
      obtain ⟨A3, c3, rfl, _, _, hr3, _⟩ := ho3.open_
      obtain ⟨AW, cW, hvW, _, _, hrW, _⟩ := ho3w.open_
      subst hvW
      have hml := Hml.out
      rw [← hml] at hr3 ⊢
      have hsame := sameIDs_same w3 A3 m c3 AW cW _ hr3 hrW (by omega)
      have Hsame := Lib.hid hsame
      have HrW := Lib.hid hrW
      clear hsame hr3 hrW ho3 ho3w
      have hRw : (s.woken (wantT l wk k)).R = wantT l wk k := by show s.R ++ _ = _; rw [HR.out]; rfl
      have hnw : (s.woken (wantT l wk k)).np + m = k := by show s.np - (wantT l wk k).length + m = k; rw [Hnp.out, ← hml]; omega
      have HRw := Lib.hid hRw
      obtain ⟨s3, hs3e⟩ : ∃ s3, s.woken (wantT l wk k) = s3 := ⟨_, rfl⟩
      rw [hs3e] at hT3 HRw hnw
      have hwk3 : ∀ W2 : List ByteArray, (∀ x, x ∈ W2 ↔ s3.wakes [no] x = true) → W2 = [] := by
        intro W2 h2
        rw [← hs3e] at h2
        exact woken_none Hm3.out h2
      have Hwk3 := Lib.hid hwk3
      obtain ⟨p, hp⟩ : ∃ p, s3.np = p := ⟨_, rfl⟩
      rw [hp] at hnw
      have hbq : ((p : Int) == (k : Int) - (m : Int)) = true := by rw [beq_iff_eq]; omega
      have Hp := Lib.hid hp
      have hF3l := hT3.lt
      clear hml hRw hs3e hwk3 hp Hm3
      go_wp2_with fail
      refine Hsame.out.mono ?_
      rintro e w4 ⟨rfl, hc4⟩
      have hT4 := hT3.non hc4
      have hC4 := hC3.non hc4
      have hgl4 : g < w4.heap.size := by obtain ⟨⟨_, _, _, _, _, _, hb, _⟩, _⟩ := hT4; exact hb.lt
      have hrd := tbReady_any w4 F3 g s3 hT4 (by rw [HRw.out, ← Hml.out]; omega)
      rw [HRw.out, ← Hml.out] at hrd
      clear hT3 hC3 Hsame
      go_wp2_with fail
      refine hrd.mono ?_
      rintro e w5 ⟨v5, rfl, ho5, hc5⟩
      obtain ⟨A5, c5, rfl, _, _, hr5, _⟩ := ho5.open_
      have hsame := sameIDs_same w5 A5 m c5 AW cW _ hr5 ((HrW.out.non hc4).non hc5) (by omega)
      have hT5 := hT4.non hc5
      have hC5 := hC4.non hc5
      have hs5 := hc5.size
      clear hrd ho5 hr5 hT4 hC4 hc5
      go_wp2_with fail
      refine hsame.mono ?_
      rintro e w6 ⟨rfl, hc6⟩
      have hT6 := hT5.non hc6
      have hC6 := hC5.non hc6
      have hs6 := hc6.size
      have hpk := tbParked_any w6 F3 g s3 hT6 (by rw [Hp.out]; omega)
      rw [Hp.out] at hpk
      clear hsame hT5 hC5 hc6
      go_wp2_with fail
      refine hpk.mono ?_
      rintro e w7 ⟨v7, L7, rfl, hl7, _, _, _, ho7, hc7⟩
      obtain ⟨A7, c7, rfl, _, _, _, _⟩ := ho7.open_
      have hT7 := hT6.non hc7
      have hC7 := hC6.non hc7
      have hs7 := hc7.size
      have hF3l7 := hT7.lt
      have hwake := tbWake_any _ F3 g s3 (some ⟨w7.heap.size + 1, 0, none⟩) 1 1 [no] (hT7.non (Hfr.out w7)) (Hon.out w7) (by omega) (fun _ ad e h => by obtain rfl := Option.some.inj e; have h9 : w7.heap.size + 1 < w7.heap.size := hF3l7 _ h; omega) (by rw [Hp.out]; omega) (by rw [HRw.out, ← Hml.out]; omega)
      have hC8 := hC7.non (Hfr.out w7)
      clear hpk hT6 hC6 hc7 ho7 hl7 hT7 hC7
      go_wp2_with fail
      refine hwake.mono ?_
      rintro e w9 ⟨v9, W9, F9, rfl, _, hm9, _, _, ho9, _, _, _, hc9⟩
      have hw9 := Hwk3.out W9 hm9
      rw [hw9] at ho9
      obtain ⟨A9, c9, rfl, _, _, _, _⟩ := ho9.open_
      have hC9 := hC8.newF hc9 hF3w
      clear hwake hm9 ho9 hc9 hC8 hw9
      go_wp2_with fail
      go_ret
      exact ⟨rfl, hC9⟩
set_option maxRecDepth 100000 in
set_option maxHeartbeats 4000000 in
theorem tableWakes_walk (w : World) (A : Option Addr) (n c : Nat) (e0 : Rd Try.prog w 22 (Value.slice A n c).cells.toList) (wk : Int) (h1 : i64 wk) :
    Calls Try.prog 5 #[.slice A n c, .int .i64 wk] w fun e w2 => e = .returned (.bool true) ∧ Chg Non w w2 := by
  obtain ⟨A', n', c', l, g1, g2, g3, g4, g5⟩ := e0.ints Try.underlying22 (by kernel_rfl) Try.underlying3
  simp only [Value.cells, List.cons.injEq, and_true, Value.slice.injEq] at g1
  obtain ⟨rfl, rfl, rfl⟩ := g1
  by_cases hn : n ≤ 16 ∧ 0 ≤ wk ∧ wk ≤ 15
  · obtain ⟨k1, k2, k3⟩ := hn
    obtain ⟨W, rfl⟩ : ∃ W : Nat, wk = W := ⟨wk.toNat, by omega⟩
    exact tableWakes_core w A n c l g4 k1 W (by omega)
  · clear g4 e0 g5
    unfold maxLen at g3
    have hcase : 16 < n ∨ (n ≤ 16 ∧ wk < 0) ∨ (n ≤ 16 ∧ 0 ≤ wk ∧ 15 < wk) := by omega
    clear hn
    rcases hcase with k1 | ⟨k1, k2⟩ | ⟨k1, k2, k3⟩
    all_goals
      go_enter Try.func5, Try.ntmps5
      go_wp2_with fail
      refine (tb_alive _).mono ?_
      rintro e w1 ⟨rfl, hc1⟩
      go_wp2_with fail
      go_ret
      exact ⟨rfl, hc1⟩
end Go.Proofs.Ytfglikgifkpfpaa
