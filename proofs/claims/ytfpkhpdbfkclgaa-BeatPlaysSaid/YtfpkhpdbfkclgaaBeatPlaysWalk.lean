/-
  gleanerlaw17.BeatPlays: the walk.
-/
import Derived.Test.YtfpkhpdbfkclgaaBeatLaw
import Derived.Test.YtfpkhpdbfkclgaaBeatRefNew
import Derived.Test.YtfpkhpdbfkclgaaBeatRefLate
import Derived.Test.YtfpkhpdbfkclgaaRdRows
namespace Go.Proofs.Ytfpkhpdbfkclgaa
open Go.ChangeShapes Go.WideShapes Go.ChangeAt Go.RowKit Go.Deep
set_option linter.unusedVariables false
set_option linter.unusedSimpArgs false

/-- A call, as it lies. -/
structure Ac where
  way : Int
  node : Int
  life : Int
  now : Int
  A : Option Addr
  n : Nat
  c : Nat
  L : List Int
def cellA (a : Ac) : List Value := [.int .i64 a.way, .int .i64 a.node, .int .i64 a.life, .int .i64 a.now, .slice a.A a.n a.c]
theorem cellA_len (a : Ac) : (cellA a).length = 5 := rfl
structure Ac.ok (w : World) (a : Ac) : Prop where
  node : Ytfpkhpdbfkclgaa.i64 a.node
  cm : a.c ≤ maxLen
  nc : a.n ≤ a.c
  rds : Rds w 1 a.A a.n (iv a.L)
  L : ∀ x ∈ a.L, Ytfpkhpdbfkclgaa.i64 x
theorem Rd.act {w : World} {l : List Value} (h : Rd Try.prog w 32 l) (hl : l.length = 5) : ∃ a : Ac, l = cellA a ∧ a.ok w := by
  obtain ⟨_, hg⟩ := h.struct Try.underlying32 (by kernel_rfl)
  match l, hl, hg with
  | [a, b, c, d, e], _, hg =>
    obtain ⟨x0, h0, k0⟩ := (hg 0 _ rfl a rfl).i64 Try.underlying3
    obtain ⟨x1, h1, k1⟩ := (hg 1 _ rfl b rfl).i64 Try.underlying3
    obtain ⟨x2, h2, k2⟩ := (hg 2 _ rfl c rfl).i64 Try.underlying3
    obtain ⟨x3, h3, k3⟩ := (hg 3 _ rfl d rfl).i64 Try.underlying3
    obtain ⟨A, n, c4, L, h4, m1, m2, m3, m4⟩ := (hg 4 _ rfl e rfl).ints Try.underlying25 (by kernel_rfl) Try.underlying3
    simp only [List.cons.injEq, and_true] at h0 h1 h2 h3 h4
    subst h0 h1 h2 h3 h4
    exact ⟨⟨x0, x1, x2, x3, A, n, c4, L⟩, rfl, k1, m2, m1, m3, m4⟩
theorem Rd.acts {w : World} {cs : List Value} (h : Rd Try.prog w 28 cs) :
    ∃ A n c, ∃ X : List Ac, cs = [.slice A n c] ∧ n ≤ c ∧ c ≤ maxLen ∧ Rds w 5 A n (X.flatMap cellA) ∧ ∀ a ∈ X, a.ok w :=
  h.rows Try.underlying28 (by kernel_rfl) cellA_len fun l hl hr => hr.act hl

/-- What lies where between two calls. -/
def BothB (w0 : World) (F : Nat → Prop) (g r s2 : Nat) (wt : Int) (k : Nat) (L : List Wt) (wr : World) : Prop :=
  ∃ (G : Nat → Prop) (q : Nat), Bt wr F g wt L q ∧ q ≤ 100 + k ∧ Rb wr G r wt L ∧ OkW L ∧ L.length ≤ 100 + k ∧ (∀ b, G b → s2 ≤ b) ∧ s2 ≤ wr.heap.size ∧ Chg Non w0 wr

set_option maxRecDepth 100000 in
set_option maxHeartbeats 16000000 in
theorem beatPlays_core (w : World) (wt : Int) (hwt : i64 wt) (A : Option Addr) (n c : Nat) (nodes : List Int) (hr : Rds w 1 A n (iv nodes)) (hl : ∀ x ∈ nodes, i64 x) (hn : n ≤ 100) (A2 : Option Addr) (m c2 : Nat) (X : List Ac) (hx : Rds w 5 A2 m (X.flatMap cellA)) (hX : ∀ a ∈ X, a.ok w) (hm : m ≤ 200) :
    Calls Try.prog 4 #[.int .i64 wt, .slice A n c, .slice A2 m c2] w fun e w2 => e = .returned (.bool true) ∧ Chg Non w w2 := by
  have Hr := Lib.hid hr
  have Hx := Lib.hid hx
  have HX := Lib.hid hX
  have Hnl := Lib.hid hr.lenMap
  have Hl := Lib.hid hl
  have Hwt : Hid (1 ≤ (if wt ≤ 1 then (1 : Int) else wt) ∧ (if wt ≤ 1 then (1 : Int) else wt) ≤ 9223372036854775807) := by
    have := hwt.2
    show _ ∧ _
    split <;> omega
  clear hr hx hX hl hwt
  go_enter Try.func4, Try.ntmps4
  go_wp2_with fail
  refine (balive_any _).mono ?_
  rintro e w1 ⟨rfl, hc1⟩
  go_wp2_with fail
  refine (btNew_any w1 wt A n c nodes (Hr.out.non hc1) (by omega) Hl.out).mono ?_
  rintro e w2 ⟨g, rfl, hB, hc2⟩
  have hC2 := hc1.non hc2
  have hs12 := hc1.size
  go_wp2_with fail
  refine (rbNew_any w2 wt A n c nodes (Hr.out.non hC2) (by omega)).mono ?_
  rintro e w3 ⟨r, G, rfl, hR, hG, hc3⟩
  have hC3 := hC2.non hc3
  have hB3 := hB.non hc3
  obtain ⟨s2, hs2⟩ : ∃ s2, w2.heap.size = s2 := ⟨_, rfl⟩
  rw [hs2] at hG
  obtain ⟨F, hF⟩ : ∃ F : Nat → Prop, (fun b => w1.heap.size ≤ b ∧ b < w2.heap.size) = F := ⟨_, rfl⟩
  rw [hF] at hB3
  have HF : Hid (∀ b, F b → w.heap.size ≤ b ∧ b < s2) := fun b h => by
    rw [← hF] at h
    have := h.1
    have := h.2
    omega
  have hws2 : w.heap.size ≤ s2 := by have := hC2.size; omega
  obtain ⟨wt2, hwt2⟩ : ∃ wt2, (if wt ≤ 1 then (1 : Int) else wt) = wt2 := ⟨_, rfl⟩
  rw [hwt2] at hB3 hR Hwt
  obtain ⟨t1, t2⟩ := Hwt.out
  have h0 : BothB w F g r s2 wt2 0 (newW nodes) w3 := ⟨G, n, hB3, by omega, hR, ok_new Hl.out, by have := new_len nodes; have := Hnl.out; omega, hG, by have := hc3.size; omega, hC3⟩
  clear hF hs2 hwt2 hB hB3 hR hG hc1 hc2 hc3 hC2 hC3 hs12 Hwt
  go_wp2_with fail
  go_loopw [10] (fun i wr => ∃ (k : Nat) (L : List Wt), k ≤ m ∧ i = .int .i64 k ∧ BothB w F g r s2 wt2 k L wr) (fun i _ => m - (intOf i).toNat)
  case atStart => exact ⟨0, _, Nat.zero_le _, rfl, h0⟩
  case round =>
    clear h0
    obtain ⟨k, L, hk, rfl, hbb⟩ := hrel
    obtain ⟨wz, rfl⟩ : ∃ wz, wz = wr := ⟨_, rfl⟩
    obtain ⟨G, q, hB, hq, hR, hok, hLk, hG, hsz2, hC⟩ := hbb
    by_cases hlt : k < m
    · obtain ⟨ad, a, rfl, ha, hc0, hcN⟩ := Hx.out.getN cellA_len (by decide) hlt
      have hao := HX.out a (List.mem_of_getElem? ha)
      have d0 := hC.cell (hc0 _ rfl) id
      have d1 : wz.cell? ⟨(ad.add (k * 5)).block, (ad.add (k * 5)).off + 1, none⟩ = some (.int .i64 a.node) := hC.cell (hcN 0 _ rfl) id
      have d2 : wz.cell? ⟨(ad.add (k * 5)).block, (ad.add (k * 5)).off + 2, none⟩ = some (.int .i64 a.life) := hC.cell (hcN 1 _ rfl) id
      have d3 : wz.cell? ⟨(ad.add (k * 5)).block, (ad.add (k * 5)).off + 3, none⟩ = some (.int .i64 a.now) := hC.cell (hcN 2 _ rfl) id
      have d4 : wz.cell? ⟨(ad.add (k * 5)).block, (ad.add (k * 5)).off + 4, none⟩ = some (.slice a.A a.n a.c) := hC.cell (hcN 3 _ rfl) id
      clear hc0 hcN ha
      obtain ⟨way, node, life, now, An, nn, cn, Ln⟩ := a
      simp only at d0 d1 d2 d3 d4
      have hnode : i64 node := hao.node
      have Hrn := Lib.hid hao.rds
      have HLn := Lib.hid hao.L
      have hnc : nn ≤ 9223372036854775807 := by have h1 := hao.nc; have h2 := hao.cm; unfold maxLen at h2; simp only at h1 h2; omega
      obtain ⟨wA, hwA⟩ : ∃ wA, wz.alloc (.cells #[.int .i64 way, .int .i64 node, .int .i64 life, .int .i64 now, .slice An nn cn] 32) = wA := ⟨_, rfl⟩
      have hbx : Blk wA wz.heap.size 32 #[.int .i64 way, .int .i64 node, .int .i64 life, .int .i64 now, .slice An nn cn] := hwA ▸ Blk.new _ _ _
      have hCA : Chg Non wz wA := hwA ▸ (Chg.refl _ _).alloc _
      have hbl := World.block_lt_of_cell? wz _ d0
      rw [block_add] at hbl
      have hbl2 := World.block_lt_of_cell? wz _ d1
      clear hao
      by_cases hn50 : nn ≤ 50
      case neg =>
        have c4 : wA.cell? ⟨wz.heap.size, 4, none⟩ = some (.slice An nn cn) := hbx.cell 4
        have hC9 := hC.non hCA
        clear hB hR hok hG hC hbx hCA Hrn HLn
        go_wp2_with fail
        go_ret
        exact ⟨rfl, hC9⟩
      case pos =>
      have hBA := hB.non hCA
      have hRA := hR.non hCA
      have hCw := hC.non hCA
      have hbxF : ¬ F wz.heap.size := fun h => by have := hB.lt _ h; omega
      have hbxG : ¬ G wz.heap.size := fun h => by have := hR.lt _ h; omega
      have hFG : ∀ b, F b → ¬ G b := fun b h1 h2 => by have := (HF.out b h1).2; have := hG b h2; omega
      have hFl := hBA.lt
      have hGl := hRA.lt
      have hsA := hCw.size
      have hszA : s2 ≤ wA.heap.size := by have := hCA.size; omega
      have x0 : wA.cell? ⟨wz.heap.size, 0, none⟩ = some (.int .i64 way) := hbx.cell 0
      have x4 : wA.cell? ⟨wz.heap.size, 4, none⟩ = some (.slice An nn cn) := hbx.cell 4
      have hbxl := hbx.lt
      clear hB hR hC hCA hsz2
      have hcase : way = 0 ∨ ((way == 0) = false ∧ way = 1) ∨ ((way == 0) = false ∧ (way == 1) = false) := by
        by_cases h0 : way = 0
        · exact .inl h0
        · by_cases h1 : way = 1
          · exact .inr (.inl ⟨beq_eq_false_iff_ne.2 h0, h1⟩)
          · exact .inr (.inr ⟨beq_eq_false_iff_ne.2 h0, beq_eq_false_iff_ne.2 h1⟩)
      rcases hcase with rfl | ⟨hw0, rfl⟩ | ⟨hw0, hw1⟩
      · obtain ⟨hb, hhb⟩ : ∃ hb, heardB L node life now = hb := ⟨_, rfl⟩
        have Hhb := Lib.hid hhb
        have hbb : (hb == hb) = true := beq_self_eq_true _
        have y1 : ∀ wx, Chg (fun b => F b ∨ G b) wA wx → wx.cell? ⟨wz.heap.size, 1, none⟩ = some (.int .i64 node) := fun wx h => h.cell (hbx.cell 1) (fun e => e.elim hbxF hbxG)
        have y2 : ∀ wx, Chg (fun b => F b ∨ G b) wA wx → wx.cell? ⟨wz.heap.size, 2, none⟩ = some (.int .i64 life) := fun wx h => h.cell (hbx.cell 2) (fun e => e.elim hbxF hbxG)
        have y3 : ∀ wx, Chg (fun b => F b ∨ G b) wA wx → wx.cell? ⟨wz.heap.size, 3, none⟩ = some (.int .i64 now) := fun wx h => h.cell (hbx.cell 3) (fun e => e.elim hbxF hbxG)
        clear hhb
        go_wp2_with fail
        refine st_region 8 (fun b => F b ∨ G b) [7, 15] [] (fun i _ _ wx => if i = 7 then Bt wx F g wt2 (if heardB L node life now then hearW L node now else L) (q + 1) ∧ Rb wx G r wt2 L else Bt wx F g wt2 (if heardB L node life now then hearW L node now else L) (q + 1) ∧ ∃ G2, Rb wx G2 r wt2 (if heardB L node life now then hearW L node now else L) ∧ ∀ b, G2 b → G b ∨ wA.heap.size ≤ b) (fun _ _ _ _ => True) (fun _ _ v => v = .bool hb) (fun wx => Bt wx F g wt2 L q ∧ Rb wx G r wt2 L) (by kernel_rfl) (by kernel_rfl) (fun b h => h.elim (hFl b) (hGl b)) ⟨hBA.non (Chg.refl _ _).drew, hRA.non (Chg.refl _ _).drew⟩ (fun wx ob h => ⟨h.1.non ((Chg.refl _ wx).alloc ob), h.2.non ((Chg.refl _ wx).alloc ob)⟩) ?_
        repeat (first | (refine st_pass (by rfl) ?_; simp only [Act.put, List.setIfInBounds_toArray, List.set_cons_succ, List.set_cons_zero]) | (refine st_plain (fun b => F b ∨ G b) (wA) rfl rfl (f := ?_) (by rfl) rfl rfl (fun w hC hG => ?_) ?_; rotate_left; (clear hG; first | (go_simp; done) | (go_simp; with_reducible rfl) | (simp [*, go_sem, ↓IntWalk.iteOmega]; done) | (simp [*, go_sem, ↓IntWalk.iteOmega]; with_reducible rfl)); simp only [Act.put, List.setIfInBounds_toArray, List.set_cons_succ, List.set_cons_zero]))
        refine st_major (fun b => F b ∨ G b) (wA) rfl rfl (by rfl) rfl (⟨_, rfl⟩) (fun _ _ _ _ _ _ => trivial) (fun v wx ob h => ⟨h.1.non ((Chg.refl _ wx).alloc ob), h.2.non ((Chg.refl _ wx).alloc ob)⟩) (fun w hC hG hS => settle_of (r2 := ?_) ?_ ?_) ?_
        rotate_left
        (first | (go_simp; done) | (go_simp; rfl))
        · refine settle_enter ((btHeard_any w F g wt2 L q node life now hS.1 (by omega) hnode).mono ?_)
          rintro e w6 ⟨rfl, hB6, hc6⟩
          exact ⟨_, rfl, by rw [Hhb.out], hc6.mono fun b e => .inl e, ⟨(hB6.more (by omega)), hS.2.chg hc6 (fun b h e => hFG b e h)⟩, trivial⟩
        · rintro v rfl
          simp only [Act.put, List.setIfInBounds_toArray, List.set_cons_succ, List.set_cons_zero]
          repeat (first | (refine st_pass (by rfl) ?_; simp only [Act.put, List.setIfInBounds_toArray, List.set_cons_succ, List.set_cons_zero]) | (refine st_plain (fun b => F b ∨ G b) (wA) rfl rfl (f := ?_) (by rfl) rfl rfl (fun w hC hG => ?_) ?_; rotate_left; (clear hG; first | (go_simp; done) | (go_simp; with_reducible rfl) | (simp [*, go_sem, ↓IntWalk.iteOmega]; done) | (simp [*, go_sem, ↓IntWalk.iteOmega]; with_reducible rfl)); simp only [Act.put, List.setIfInBounds_toArray, List.set_cons_succ, List.set_cons_zero]))
          refine st_major (fun b => F b ∨ G b) (wA) rfl rfl (by rfl) rfl (⟨_, rfl⟩) (fun _ _ _ _ _ _ => trivial) (fun v wx ob h => ⟨h.1.non ((Chg.refl _ wx).alloc ob), h.2.imp fun G2 h => ⟨h.1.non ((Chg.refl _ wx).alloc ob), h.2⟩⟩) (fun w hC hG hS => settle_of (r2 := ?_) ?_ ?_) ?_
          rotate_left
          (first | (go_simp; done) | (go_simp; rfl))
          · have hS2 : Bt w F g wt2 (if heardB L node life now then hearW L node now else L) (q + 1) ∧ Rb w G r wt2 L := hS
            refine settle_enter ((rbHeard_any w G r wt2 L node life now hS2.2 hok).mono ?_)
            rintro e w6 ⟨rfl, hR6, hc6⟩
            exact ⟨_, rfl, by rw [Hhb.out], hc6.mono fun b e => .inr e, ⟨hS2.1.chg hc6 (fun b h e => hFG b h e), G, hR6, fun b h => .inl h⟩, trivial⟩
          · rintro v rfl
            simp only [Act.put, List.setIfInBounds_toArray, List.set_cons_succ, List.set_cons_zero]
            repeat (first | (refine st_pass (by rfl) ?_; simp only [Act.put, List.setIfInBounds_toArray, List.set_cons_succ, List.set_cons_zero]) | (refine st_plain (fun b => F b ∨ G b) (wA) rfl rfl (f := ?_) (by rfl) rfl rfl (fun w hC hG => ?_) ?_; rotate_left; (clear hG; first | (go_simp; done) | (go_simp; with_reducible rfl) | (simp [*, go_sem, ↓IntWalk.iteOmega]; done) | (simp [*, go_sem, ↓IntWalk.iteOmega]; with_reducible rfl)); simp only [Act.put, List.setIfInBounds_toArray, List.set_cons_succ, List.set_cons_zero]))
            refine st_end (fun b => F b ∨ G b) wA rfl rfl (fun w6 hC6 hS6 hG6 => ?_)
            have hS7 : Bt w6 F g wt2 (if heardB L node life now then hearW L node now else L) (q + 1) ∧ ∃ G2, Rb w6 G2 r wt2 (if heardB L node life now then hearW L node now else L) ∧ ∀ b, G2 b → G b ∨ wA.heap.size ≤ b := hS6
            clear hG6 hS6 y1 y2 y3
            obtain ⟨hB6, G2, hR6, hG2⟩ := hS7
            have hok6 : OkW (if heardB L node life now then hearW L node now else L) := hok.heard node life now
            have hL6 : (if heardB L node life now then hearW L node now else L).length ≤ 100 + (k + 1) := by split <;> first | (rw [hearW, putW_len]; omega) | omega
            have hbx6 := hbx.chg hC6 (fun e => e.elim hbxF hbxG)
            have hC7 : Chg Non w w6 := hCw.trans2 hC6 (fun b e => .inr (e.elim (fun h => (HF.out b h).1) (fun h => Nat.le_trans hws2 (hG b h))))
            have hG7 : ∀ b, G2 b → s2 ≤ b := fun b h => (hG2 b h).elim (hG b) (fun h2 => by omega)
            have hszC : s2 ≤ w6.heap.size := by have := hC6.size; omega
            clear hC6 Hhb hbb
            generalize (if heardB L node life now then hearW L node now else L) = L6 at hB6 hR6 hok6 hL6
            have hs26 : s2 ≤ w6.heap.size := by have := hszC; omega
            have hF6 : ∀ b, F b → b < w6.heap.size := hB6.lt
            have hG6 : ∀ b, G2 b → b < w6.heap.size := hR6.lt
            clear hBA hRA hCw hok hbx x0 x4 hG hG2 hbxF hbxG hFG hFl hGl hsA hszA hszC
            have z1 : w6.cell? ⟨wz.heap.size, 1, none⟩ = some (.int .i64 node) := hbx6.cell 1
            have z3 : w6.cell? ⟨wz.heap.size, 3, none⟩ = some (.int .i64 now) := hbx6.cell 3
            have hbl6 := hbx6.lt
            go_wp2_with fail
            refine (btLate_any w6 F g wt2 L6 (q + 1) now hB6 hok6 (by omega) (by omega) t1 t2).mono ?_
            rintro e w7 ⟨vX, nX, rfl, hX7, hc7⟩
            have hB7 := hB6.non hc7
            have hR7 := hR6.non hc7
            have hbx7 := hbx6.non hc7
            have hC8 := hC7.non hc7
            have hs7 := hc7.size
            obtain ⟨s6, hs6⟩ : ∃ s6, w6.heap.size = s6 := ⟨_, rfl⟩
            rw [hs6] at hX7 hs26 hF6 hG6 hs7 hbl6
            clear hB6 hR6 hbx6 hC7 hc7 z1 z3 hs6
            have z1 : w7.cell? ⟨wz.heap.size, 1, none⟩ = some (.int .i64 node) := hbx7.cell 1
            have hbl7 := hbx7.lt
            go_wp2_with fail
            refine (btLife_any w7 F g wt2 L6 (q + 1) node hB7 hnode).mono ?_
            rintro e w8 ⟨rfl, hc8⟩
            have hB8 := hB7.non hc8
            have hR8 := hR7.non hc8
            have hbx8 := hbx7.non hc8
            have hX8 := hX7.non hc8
            have hC9 := hC8.non hc8
            have hs8 := hc8.size
            clear hB7 hR7 hbx7 hX7 hC8 hc8 z1
            have hrl := rbLife_any w8 G2 r wt2 L6 node hR8
            generalize ((nW L6 node).map (·.1) |>.getD 0) = nv at hrl ⊢
            generalize (nW L6 node).isSome = iv2 at hrl ⊢
            have nvv : (nv != nv) = false := bne_self_eq_false _
            have ivv : (iv2 != iv2) = false := bne_self_eq_false _
            have z1 : w8.cell? ⟨wz.heap.size, 1, none⟩ = some (.int .i64 node) := hbx8.cell 1
            have z3 : w8.cell? ⟨wz.heap.size, 3, none⟩ = some (.int .i64 now) := hbx8.cell 3
            have hbl8 := hbx8.lt
            go_wp2_with fail
            refine hrl.mono ?_
            rintro e w9 ⟨rfl, rfl⟩
            go_wp2_with fail
            refine (rbLate_any w8 G2 r wt2 L6 now hR8 hok6 (by omega) t1 t2).mono ?_
            rintro e w10 ⟨vY, nY, rfl, hY, hc10⟩
            have hX10 := hX8.non hc10
            have hB10 := hB8.non hc10
            have hR10 := hR8.non hc10
            have hC10 := hC9.non hc10
            have hs10 := hc10.size
            obtain ⟨AX, cX, rfl, _, hcX, hrX, _⟩ := hX10.open_
            obtain ⟨AY, cY, rfl, _, _, hrY, _⟩ := hY.open_
            have hnX : nX ≤ 9223372036854775807 := by have := (Win.of_own hX10).small; exact this
            have hs := sameInts_any w10 AX nX cX _ AY nY cY _ hrX hrY hnX
            rw [beq_self_eq_true] at hs
            clear hrX hrY hY hB8 hR8 hX8 hC9 hc10 hbx8 z1 z3 hrl
            go_wp2_with fail
            refine hs.mono ?_
            rintro e w11 ⟨rfl, hc11⟩
            have hB11 := hB10.non hc11
            have hR11 := hR10.non hc11
            have hC11 := hC10.non hc11
            have hx11 : Hid (∃ xs, OwnR rkN w11 s6 (.slice AX nX cX) nX xs) := ⟨_, hX10.non hc11⟩
            have hs11 := hc11.size
            clear hB10 hR10 hC10 hc11 hX10 hs nvv ivv
            go_wp2_with fail
            go_loopw [18] (fun i wr => ∃ j : Nat, j ≤ nX ∧ i = .int .i64 j ∧ Hid (∃ xs, OwnR rkN wr s6 (.slice AX nX cX) nX xs) ∧ Bt wr F g wt2 L6 (q + 1) ∧ Rb wr G2 r wt2 L6 ∧ s2 ≤ wr.heap.size ∧ Chg Non w wr) (fun i _ => nX - (intOf i).toNat)
            case atStart => exact ⟨0, Nat.zero_le _, rfl, hx11, hB11, hR11, by omega, hC11⟩
            case round =>
              clear hx11 hB11 hR11 hC11
              obtain ⟨j, hj, rfl, hl, hB, hR, hsz, hC⟩ := hrel
              by_cases hlt2 : j < nX
              · obtain ⟨xs, hx⟩ := hl.out
                obtain ⟨gx, cap, hv, hg1, hg2⟩ := World.ownsRow.form hx (by omega)
                injection hv with e1 e2 e3
                subst e1 e3
                have hlen : xs.length = nX * 1 := hx.1
                have q1 : wr.cell? ⟨gx, j, none⟩ = xs[j]? := World.ownsRow.cellAt hx j (by show j < nX * 1; omega)
                rw [List.getElem?_eq_getElem (by omega)] at q1
                have f1 : wr.frozen? ⟨gx, j, none⟩ = false := World.ownsRow.frozenAt hx j
                have hst := (World.ownsRow.stored hx j (.int .i64 (-1))).1
                have hl2 : Hid (∃ xs, OwnR rkN (wr.setCell ⟨gx, j, none⟩ (.int .i64 (-1))) s6 (.slice (some ⟨gx, 0, none⟩) nX cX) nX xs) := ⟨_, hst⟩
                have hS1 : Chg (fun b => b = gx) wr (wr.setCell ⟨gx, j, none⟩ (.int .i64 (-1))) := (Chg.refl _ _).set1 j _
                have hB2 := hB.chg hS1 (fun b h e => by have := hF6 b h; have e : b = gx := e; omega)
                have hR2 := hR.chg hS1 (fun b h e => by have := hG6 b h; have e : b = gx := e; omega)
                have hC2 := hC.trans2 hS1 (fun b e => .inr (by have e : b = gx := e; omega))
                have hsz3 : s2 ≤ (wr.setCell ⟨gx, j, none⟩ (.int .i64 (-1))).heap.size := by have := hS1.size; omega
                clear hst hx hl hC hB hR hS1
                go_wp2_with fail
                go_roundw
                case rel => exact ⟨j + 1, by omega, by go_num, hl2, hB2, hR2, hsz3, hC2⟩
                case measure => simp [intOf]; omega
              · clear hl
                go_wp2_with fail
                go_roundw
                case rel => exact ⟨k + 1, L6, by omega, by go_num, G2, q + 1, hB, by omega, hR, hok6, hL6, hG7, hsz, hC⟩
                case measure => simp [intOf]; omega
      · have hAF : ∀ K : Nat → Prop, (∀ b, K b → w.heap.size ≤ b) → 0 < nn → ∀ ad, An = some ad → ¬ K ad.block := by
          intro K hK h0 ad e h
          obtain ⟨ad2, y, e2, _, hcy⟩ := Hrn.out.getI h0
          rw [e] at e2
          obtain rfl := Option.some.inj e2
          have h1 := World.block_lt_of_cell? w _ hcy
          rw [block_add] at h1
          have := hK _ h
          omega
        have hAF1 := hAF F (fun b h => (HF.out b h).1)
        have hAF2 := hAF G (fun b h => Nat.le_trans hws2 (hG b h))
        clear hAF
        go_wp2_with fail
        refine (btOut_any wA F g wt2 L q An nn cn Ln hBA (Hrn.out.non hCw) (by omega) HLn.out hAF1).mono ?_
        rintro e w5 ⟨rfl, hB5, hc5⟩
        have hR5 := hRA.chg hc5 (fun b h e => hFG b e h)
        have hbx5 := hbx.chg hc5 hbxF
        have hC5 := hCw.newF hc5 (fun b h => (HF.out b h).1)
        have x45 : w5.cell? ⟨wz.heap.size, 4, none⟩ = some (.slice An nn cn) := hbx5.cell 4
        have hbl5 := hbx5.lt
        have hs5 := hc5.size
        go_wp2_with fail
        refine (rbOut_any w5 G r wt2 L An nn cn Ln hR5 (Hrn.out.non hC5) (by omega) hAF2).mono ?_
        rintro e w6 ⟨rfl, hR6, hc6⟩
        have hB6 := (hB5.chg hc6 (fun b h e => hFG b h e)).more (show q ≤ q + 1 by omega)
        have hbx6 := hbx5.chg hc6 hbxG
        have hC7 := hC5.newF hc6 (fun b h => Nat.le_trans hws2 (hG b h))
        obtain ⟨G2, hG2e⟩ : ∃ G2, G = G2 := ⟨_, rfl⟩
        have hG7 : ∀ b, G2 b → s2 ≤ b := by rw [← hG2e]; exact hG
        rw [hG2e] at hR6
        have hG2 : True := trivial
        have hok6 : OkW (outsW L Ln) := hok.outs Ln
        have hL6 : (outsW L Ln).length ≤ 100 + (k + 1) := by rw [outs_len]; omega
        have hszC : s2 ≤ w6.heap.size := by have := hc6.size; omega
        clear hR5 hbx5 hC5 x45 hbl5 hB5 hG2e hAF1 hAF2 hc5 hc6
        generalize outsW L Ln = L6 at hB6 hR6 hok6 hL6
        have hs26 : s2 ≤ w6.heap.size := by have := hszC; omega
        have hF6 : ∀ b, F b → b < w6.heap.size := hB6.lt
        have hG6 : ∀ b, G2 b → b < w6.heap.size := hR6.lt
        clear hBA hRA hCw hok hbx x0 x4 hG hG2 hbxF hbxG hFG hFl hGl hsA hszA hszC
        have z1 : w6.cell? ⟨wz.heap.size, 1, none⟩ = some (.int .i64 node) := hbx6.cell 1
        have z3 : w6.cell? ⟨wz.heap.size, 3, none⟩ = some (.int .i64 now) := hbx6.cell 3
        have hbl6 := hbx6.lt
        go_wp2_with fail
        refine (btLate_any w6 F g wt2 L6 (q + 1) now hB6 hok6 (by omega) (by omega) t1 t2).mono ?_
        rintro e w7 ⟨vX, nX, rfl, hX7, hc7⟩
        have hB7 := hB6.non hc7
        have hR7 := hR6.non hc7
        have hbx7 := hbx6.non hc7
        have hC8 := hC7.non hc7
        have hs7 := hc7.size
        obtain ⟨s6, hs6⟩ : ∃ s6, w6.heap.size = s6 := ⟨_, rfl⟩
        rw [hs6] at hX7 hs26 hF6 hG6 hs7 hbl6
        clear hB6 hR6 hbx6 hC7 hc7 z1 z3 hs6
        have z1 : w7.cell? ⟨wz.heap.size, 1, none⟩ = some (.int .i64 node) := hbx7.cell 1
        have hbl7 := hbx7.lt
        go_wp2_with fail
        refine (btLife_any w7 F g wt2 L6 (q + 1) node hB7 hnode).mono ?_
        rintro e w8 ⟨rfl, hc8⟩
        have hB8 := hB7.non hc8
        have hR8 := hR7.non hc8
        have hbx8 := hbx7.non hc8
        have hX8 := hX7.non hc8
        have hC9 := hC8.non hc8
        have hs8 := hc8.size
        clear hB7 hR7 hbx7 hX7 hC8 hc8 z1
        have hrl := rbLife_any w8 G2 r wt2 L6 node hR8
        generalize ((nW L6 node).map (·.1) |>.getD 0) = nv at hrl ⊢
        generalize (nW L6 node).isSome = iv2 at hrl ⊢
        have nvv : (nv != nv) = false := bne_self_eq_false _
        have ivv : (iv2 != iv2) = false := bne_self_eq_false _
        have z1 : w8.cell? ⟨wz.heap.size, 1, none⟩ = some (.int .i64 node) := hbx8.cell 1
        have z3 : w8.cell? ⟨wz.heap.size, 3, none⟩ = some (.int .i64 now) := hbx8.cell 3
        have hbl8 := hbx8.lt
        go_wp2_with fail
        refine hrl.mono ?_
        rintro e w9 ⟨rfl, rfl⟩
        go_wp2_with fail
        refine (rbLate_any w8 G2 r wt2 L6 now hR8 hok6 (by omega) t1 t2).mono ?_
        rintro e w10 ⟨vY, nY, rfl, hY, hc10⟩
        have hX10 := hX8.non hc10
        have hB10 := hB8.non hc10
        have hR10 := hR8.non hc10
        have hC10 := hC9.non hc10
        have hs10 := hc10.size
        obtain ⟨AX, cX, rfl, _, hcX, hrX, _⟩ := hX10.open_
        obtain ⟨AY, cY, rfl, _, _, hrY, _⟩ := hY.open_
        have hnX : nX ≤ 9223372036854775807 := by have := (Win.of_own hX10).small; exact this
        have hs := sameInts_any w10 AX nX cX _ AY nY cY _ hrX hrY hnX
        rw [beq_self_eq_true] at hs
        clear hrX hrY hY hB8 hR8 hX8 hC9 hc10 hbx8 z1 z3 hrl
        go_wp2_with fail
        refine hs.mono ?_
        rintro e w11 ⟨rfl, hc11⟩
        have hB11 := hB10.non hc11
        have hR11 := hR10.non hc11
        have hC11 := hC10.non hc11
        have hx11 : Hid (∃ xs, OwnR rkN w11 s6 (.slice AX nX cX) nX xs) := ⟨_, hX10.non hc11⟩
        have hs11 := hc11.size
        clear hB10 hR10 hC10 hc11 hX10 hs nvv ivv
        go_wp2_with fail
        go_loopw [18] (fun i wr => ∃ j : Nat, j ≤ nX ∧ i = .int .i64 j ∧ Hid (∃ xs, OwnR rkN wr s6 (.slice AX nX cX) nX xs) ∧ Bt wr F g wt2 L6 (q + 1) ∧ Rb wr G2 r wt2 L6 ∧ s2 ≤ wr.heap.size ∧ Chg Non w wr) (fun i _ => nX - (intOf i).toNat)
        case atStart => exact ⟨0, Nat.zero_le _, rfl, hx11, hB11, hR11, by omega, hC11⟩
        case round =>
          clear hx11 hB11 hR11 hC11
          obtain ⟨j, hj, rfl, hl, hB, hR, hsz, hC⟩ := hrel
          by_cases hlt2 : j < nX
          · obtain ⟨xs, hx⟩ := hl.out
            obtain ⟨gx, cap, hv, hg1, hg2⟩ := World.ownsRow.form hx (by omega)
            injection hv with e1 e2 e3
            subst e1 e3
            have hlen : xs.length = nX * 1 := hx.1
            have q1 : wr.cell? ⟨gx, j, none⟩ = xs[j]? := World.ownsRow.cellAt hx j (by show j < nX * 1; omega)
            rw [List.getElem?_eq_getElem (by omega)] at q1
            have f1 : wr.frozen? ⟨gx, j, none⟩ = false := World.ownsRow.frozenAt hx j
            have hst := (World.ownsRow.stored hx j (.int .i64 (-1))).1
            have hl2 : Hid (∃ xs, OwnR rkN (wr.setCell ⟨gx, j, none⟩ (.int .i64 (-1))) s6 (.slice (some ⟨gx, 0, none⟩) nX cX) nX xs) := ⟨_, hst⟩
            have hS1 : Chg (fun b => b = gx) wr (wr.setCell ⟨gx, j, none⟩ (.int .i64 (-1))) := (Chg.refl _ _).set1 j _
            have hB2 := hB.chg hS1 (fun b h e => by have := hF6 b h; have e : b = gx := e; omega)
            have hR2 := hR.chg hS1 (fun b h e => by have := hG6 b h; have e : b = gx := e; omega)
            have hC2 := hC.trans2 hS1 (fun b e => .inr (by have e : b = gx := e; omega))
            have hsz3 : s2 ≤ (wr.setCell ⟨gx, j, none⟩ (.int .i64 (-1))).heap.size := by have := hS1.size; omega
            clear hst hx hl hC hB hR hS1
            go_wp2_with fail
            go_roundw
            case rel => exact ⟨j + 1, by omega, by go_num, hl2, hB2, hR2, hsz3, hC2⟩
            case measure => simp [intOf]; omega
          · clear hl
            go_wp2_with fail
            go_roundw
            case rel => exact ⟨k + 1, L6, by omega, by go_num, G2, q + 1, hB, by omega, hR, hok6, hL6, hG7, hsz, hC⟩
            case measure => simp [intOf]; omega
      · obtain ⟨hb, hhb⟩ : ∃ hb, inB L node life now = hb := ⟨_, rfl⟩
        have Hhb := Lib.hid hhb
        have hbb : (hb == hb) = true := beq_self_eq_true _
        have y1 : ∀ wx, Chg (fun b => F b ∨ G b) wA wx → wx.cell? ⟨wz.heap.size, 1, none⟩ = some (.int .i64 node) := fun wx h => h.cell (hbx.cell 1) (fun e => e.elim hbxF hbxG)
        have y2 : ∀ wx, Chg (fun b => F b ∨ G b) wA wx → wx.cell? ⟨wz.heap.size, 2, none⟩ = some (.int .i64 life) := fun wx h => h.cell (hbx.cell 2) (fun e => e.elim hbxF hbxG)
        have y3 : ∀ wx, Chg (fun b => F b ∨ G b) wA wx → wx.cell? ⟨wz.heap.size, 3, none⟩ = some (.int .i64 now) := fun wx h => h.cell (hbx.cell 3) (fun e => e.elim hbxF hbxG)
        clear hhb
        go_wp2_with fail
        refine st_region 8 (fun b => F b ∨ G b) [7, 15] [] (fun i _ _ wx => if i = 7 then Bt wx F g wt2 (if inB L node life now then inW L node life now else L) (q + 1) ∧ Rb wx G r wt2 L else Bt wx F g wt2 (if inB L node life now then inW L node life now else L) (q + 1) ∧ ∃ G2, Rb wx G2 r wt2 (if inB L node life now then inW L node life now else L) ∧ ∀ b, G2 b → G b ∨ wA.heap.size ≤ b) (fun _ _ _ _ => True) (fun _ _ v => v = .bool hb) (fun wx => Bt wx F g wt2 L q ∧ Rb wx G r wt2 L) (by kernel_rfl) (by kernel_rfl) (fun b h => h.elim (hFl b) (hGl b)) ⟨hBA.non (Chg.refl _ _).drew, hRA.non (Chg.refl _ _).drew⟩ (fun wx ob h => ⟨h.1.non ((Chg.refl _ wx).alloc ob), h.2.non ((Chg.refl _ wx).alloc ob)⟩) ?_
        repeat (first | (refine st_pass (by rfl) ?_; simp only [Act.put, List.setIfInBounds_toArray, List.set_cons_succ, List.set_cons_zero]) | (refine st_plain (fun b => F b ∨ G b) (wA) rfl rfl (f := ?_) (by rfl) rfl rfl (fun w hC hG => ?_) ?_; rotate_left; (clear hG; first | (go_simp; done) | (go_simp; with_reducible rfl) | (simp [*, go_sem, ↓IntWalk.iteOmega]; done) | (simp [*, go_sem, ↓IntWalk.iteOmega]; with_reducible rfl)); simp only [Act.put, List.setIfInBounds_toArray, List.set_cons_succ, List.set_cons_zero]))
        refine st_major (fun b => F b ∨ G b) (wA) rfl rfl (by rfl) rfl (⟨_, rfl⟩) (fun _ _ _ _ _ _ => trivial) (fun v wx ob h => ⟨h.1.non ((Chg.refl _ wx).alloc ob), h.2.non ((Chg.refl _ wx).alloc ob)⟩) (fun w hC hG hS => settle_of (r2 := ?_) ?_ ?_) ?_
        rotate_left
        (first | (go_simp; done) | (go_simp; rfl))
        · refine settle_enter ((btIn_any w F g wt2 L q node life now hS.1 (by omega) hnode).mono ?_)
          rintro e w6 ⟨rfl, hB6, hc6⟩
          exact ⟨_, rfl, by rw [Hhb.out], hc6.mono fun b e => .inl e, ⟨hB6, hS.2.chg hc6 (fun b h e => hFG b e h)⟩, trivial⟩
        · rintro v rfl
          simp only [Act.put, List.setIfInBounds_toArray, List.set_cons_succ, List.set_cons_zero]
          repeat (first | (refine st_pass (by rfl) ?_; simp only [Act.put, List.setIfInBounds_toArray, List.set_cons_succ, List.set_cons_zero]) | (refine st_plain (fun b => F b ∨ G b) (wA) rfl rfl (f := ?_) (by rfl) rfl rfl (fun w hC hG => ?_) ?_; rotate_left; (clear hG; first | (go_simp; done) | (go_simp; with_reducible rfl) | (simp [*, go_sem, ↓IntWalk.iteOmega]; done) | (simp [*, go_sem, ↓IntWalk.iteOmega]; with_reducible rfl)); simp only [Act.put, List.setIfInBounds_toArray, List.set_cons_succ, List.set_cons_zero]))
          refine st_major (fun b => F b ∨ G b) (wA) rfl rfl (by rfl) rfl (⟨_, rfl⟩) (fun _ _ _ _ _ _ => trivial) (fun v wx ob h => ⟨h.1.non ((Chg.refl _ wx).alloc ob), h.2.imp fun G2 h => ⟨h.1.non ((Chg.refl _ wx).alloc ob), h.2⟩⟩) (fun w hC hG hS => settle_of (r2 := ?_) ?_ ?_) ?_
          rotate_left
          (first | (go_simp; done) | (go_simp; rfl))
          · have hS2 : Bt w F g wt2 (if inB L node life now then inW L node life now else L) (q + 1) ∧ Rb w G r wt2 L := hS
            refine settle_enter ((rbIn_any w G r wt2 L node life now hS2.2 (by omega)).mono ?_)
            rintro e w6 ⟨rfl, ⟨G2, hR6, hG2, hc6⟩⟩
            exact ⟨_, rfl, by rw [Hhb.out], hc6.mono fun b e => .inr e, ⟨hS2.1.chg hc6 (fun b h e => hFG b h e), G2, hR6, fun b h => (hG2 b h).imp id (fun h => Nat.le_trans hC.size h)⟩, trivial⟩
          · rintro v rfl
            simp only [Act.put, List.setIfInBounds_toArray, List.set_cons_succ, List.set_cons_zero]
            repeat (first | (refine st_pass (by rfl) ?_; simp only [Act.put, List.setIfInBounds_toArray, List.set_cons_succ, List.set_cons_zero]) | (refine st_plain (fun b => F b ∨ G b) (wA) rfl rfl (f := ?_) (by rfl) rfl rfl (fun w hC hG => ?_) ?_; rotate_left; (clear hG; first | (go_simp; done) | (go_simp; with_reducible rfl) | (simp [*, go_sem, ↓IntWalk.iteOmega]; done) | (simp [*, go_sem, ↓IntWalk.iteOmega]; with_reducible rfl)); simp only [Act.put, List.setIfInBounds_toArray, List.set_cons_succ, List.set_cons_zero]))
            refine st_end (fun b => F b ∨ G b) wA rfl rfl (fun w6 hC6 hS6 hG6 => ?_)
            have hS7 : Bt w6 F g wt2 (if inB L node life now then inW L node life now else L) (q + 1) ∧ ∃ G2, Rb w6 G2 r wt2 (if inB L node life now then inW L node life now else L) ∧ ∀ b, G2 b → G b ∨ wA.heap.size ≤ b := hS6
            clear hG6 hS6 y1 y2 y3
            obtain ⟨hB6, G2, hR6, hG2⟩ := hS7
            have hok6 : OkW (if inB L node life now then inW L node life now else L) := hok.came node life now hnode
            have hL6 : (if inB L node life now then inW L node life now else L).length ≤ 100 + (k + 1) := by split <;> first | (have := in_len L node life now; omega) | omega
            have hbx6 := hbx.chg hC6 (fun e => e.elim hbxF hbxG)
            have hC7 : Chg Non w w6 := hCw.trans2 hC6 (fun b e => .inr (e.elim (fun h => (HF.out b h).1) (fun h => Nat.le_trans hws2 (hG b h))))
            have hG7 : ∀ b, G2 b → s2 ≤ b := fun b h => (hG2 b h).elim (hG b) (fun h2 => by omega)
            have hszC : s2 ≤ w6.heap.size := by have := hC6.size; omega
            clear hC6 Hhb hbb
            generalize (if inB L node life now then inW L node life now else L) = L6 at hB6 hR6 hok6 hL6
            have hs26 : s2 ≤ w6.heap.size := by have := hszC; omega
            have hF6 : ∀ b, F b → b < w6.heap.size := hB6.lt
            have hG6 : ∀ b, G2 b → b < w6.heap.size := hR6.lt
            clear hBA hRA hCw hok hbx x0 x4 hG hG2 hbxF hbxG hFG hFl hGl hsA hszA hszC
            have z1 : w6.cell? ⟨wz.heap.size, 1, none⟩ = some (.int .i64 node) := hbx6.cell 1
            have z3 : w6.cell? ⟨wz.heap.size, 3, none⟩ = some (.int .i64 now) := hbx6.cell 3
            have hbl6 := hbx6.lt
            go_wp2_with fail
            refine (btLate_any w6 F g wt2 L6 (q + 1) now hB6 hok6 (by omega) (by omega) t1 t2).mono ?_
            rintro e w7 ⟨vX, nX, rfl, hX7, hc7⟩
            have hB7 := hB6.non hc7
            have hR7 := hR6.non hc7
            have hbx7 := hbx6.non hc7
            have hC8 := hC7.non hc7
            have hs7 := hc7.size
            obtain ⟨s6, hs6⟩ : ∃ s6, w6.heap.size = s6 := ⟨_, rfl⟩
            rw [hs6] at hX7 hs26 hF6 hG6 hs7 hbl6
            clear hB6 hR6 hbx6 hC7 hc7 z1 z3 hs6
            have z1 : w7.cell? ⟨wz.heap.size, 1, none⟩ = some (.int .i64 node) := hbx7.cell 1
            have hbl7 := hbx7.lt
            go_wp2_with fail
            refine (btLife_any w7 F g wt2 L6 (q + 1) node hB7 hnode).mono ?_
            rintro e w8 ⟨rfl, hc8⟩
            have hB8 := hB7.non hc8
            have hR8 := hR7.non hc8
            have hbx8 := hbx7.non hc8
            have hX8 := hX7.non hc8
            have hC9 := hC8.non hc8
            have hs8 := hc8.size
            clear hB7 hR7 hbx7 hX7 hC8 hc8 z1
            have hrl := rbLife_any w8 G2 r wt2 L6 node hR8
            generalize ((nW L6 node).map (·.1) |>.getD 0) = nv at hrl ⊢
            generalize (nW L6 node).isSome = iv2 at hrl ⊢
            have nvv : (nv != nv) = false := bne_self_eq_false _
            have ivv : (iv2 != iv2) = false := bne_self_eq_false _
            have z1 : w8.cell? ⟨wz.heap.size, 1, none⟩ = some (.int .i64 node) := hbx8.cell 1
            have z3 : w8.cell? ⟨wz.heap.size, 3, none⟩ = some (.int .i64 now) := hbx8.cell 3
            have hbl8 := hbx8.lt
            go_wp2_with fail
            refine hrl.mono ?_
            rintro e w9 ⟨rfl, rfl⟩
            go_wp2_with fail
            refine (rbLate_any w8 G2 r wt2 L6 now hR8 hok6 (by omega) t1 t2).mono ?_
            rintro e w10 ⟨vY, nY, rfl, hY, hc10⟩
            have hX10 := hX8.non hc10
            have hB10 := hB8.non hc10
            have hR10 := hR8.non hc10
            have hC10 := hC9.non hc10
            have hs10 := hc10.size
            obtain ⟨AX, cX, rfl, _, hcX, hrX, _⟩ := hX10.open_
            obtain ⟨AY, cY, rfl, _, _, hrY, _⟩ := hY.open_
            have hnX : nX ≤ 9223372036854775807 := by have := (Win.of_own hX10).small; exact this
            have hs := sameInts_any w10 AX nX cX _ AY nY cY _ hrX hrY hnX
            rw [beq_self_eq_true] at hs
            clear hrX hrY hY hB8 hR8 hX8 hC9 hc10 hbx8 z1 z3 hrl
            go_wp2_with fail
            refine hs.mono ?_
            rintro e w11 ⟨rfl, hc11⟩
            have hB11 := hB10.non hc11
            have hR11 := hR10.non hc11
            have hC11 := hC10.non hc11
            have hx11 : Hid (∃ xs, OwnR rkN w11 s6 (.slice AX nX cX) nX xs) := ⟨_, hX10.non hc11⟩
            have hs11 := hc11.size
            clear hB10 hR10 hC10 hc11 hX10 hs nvv ivv
            go_wp2_with fail
            go_loopw [18] (fun i wr => ∃ j : Nat, j ≤ nX ∧ i = .int .i64 j ∧ Hid (∃ xs, OwnR rkN wr s6 (.slice AX nX cX) nX xs) ∧ Bt wr F g wt2 L6 (q + 1) ∧ Rb wr G2 r wt2 L6 ∧ s2 ≤ wr.heap.size ∧ Chg Non w wr) (fun i _ => nX - (intOf i).toNat)
            case atStart => exact ⟨0, Nat.zero_le _, rfl, hx11, hB11, hR11, by omega, hC11⟩
            case round =>
              clear hx11 hB11 hR11 hC11
              obtain ⟨j, hj, rfl, hl, hB, hR, hsz, hC⟩ := hrel
              by_cases hlt2 : j < nX
              · obtain ⟨xs, hx⟩ := hl.out
                obtain ⟨gx, cap, hv, hg1, hg2⟩ := World.ownsRow.form hx (by omega)
                injection hv with e1 e2 e3
                subst e1 e3
                have hlen : xs.length = nX * 1 := hx.1
                have q1 : wr.cell? ⟨gx, j, none⟩ = xs[j]? := World.ownsRow.cellAt hx j (by show j < nX * 1; omega)
                rw [List.getElem?_eq_getElem (by omega)] at q1
                have f1 : wr.frozen? ⟨gx, j, none⟩ = false := World.ownsRow.frozenAt hx j
                have hst := (World.ownsRow.stored hx j (.int .i64 (-1))).1
                have hl2 : Hid (∃ xs, OwnR rkN (wr.setCell ⟨gx, j, none⟩ (.int .i64 (-1))) s6 (.slice (some ⟨gx, 0, none⟩) nX cX) nX xs) := ⟨_, hst⟩
                have hS1 : Chg (fun b => b = gx) wr (wr.setCell ⟨gx, j, none⟩ (.int .i64 (-1))) := (Chg.refl _ _).set1 j _
                have hB2 := hB.chg hS1 (fun b h e => by have := hF6 b h; have e : b = gx := e; omega)
                have hR2 := hR.chg hS1 (fun b h e => by have := hG6 b h; have e : b = gx := e; omega)
                have hC2 := hC.trans2 hS1 (fun b e => .inr (by have e : b = gx := e; omega))
                have hsz3 : s2 ≤ (wr.setCell ⟨gx, j, none⟩ (.int .i64 (-1))).heap.size := by have := hS1.size; omega
                clear hst hx hl hC hB hR hS1
                go_wp2_with fail
                go_roundw
                case rel => exact ⟨j + 1, by omega, by go_num, hl2, hB2, hR2, hsz3, hC2⟩
                case measure => simp [intOf]; omega
              · clear hl
                go_wp2_with fail
                go_roundw
                case rel => exact ⟨k + 1, L6, by omega, by go_num, G2, q + 1, hB, by omega, hR, hok6, hL6, hG7, hsz, hC⟩
                case measure => simp [intOf]; omega
    · go_wp2_with fail
      go_ret
      exact ⟨rfl, hC⟩

set_option maxRecDepth 100000 in
set_option maxHeartbeats 4000000 in
theorem beatPlays_walk (w : World) (wt : Int) (h0 : i64 wt) (A : Option Addr) (n c : Nat) (e1 : Rd Try.prog w 25 (Value.slice A n c).cells.toList) (A2 : Option Addr) (m c2 : Nat) (e2 : Rd Try.prog w 28 (Value.slice A2 m c2).cells.toList) :
    Calls Try.prog 4 #[.int .i64 wt, .slice A n c, .slice A2 m c2] w fun e w2 => e = .returned (.bool true) ∧ Chg Non w w2 := by
  obtain ⟨A', n', c', l, g1, g2, g3, g4, g5⟩ := e1.ints Try.underlying25 (by kernel_rfl) Try.underlying3
  simp only [Value.cells, List.cons.injEq, and_true, Value.slice.injEq] at g1
  obtain ⟨rfl, rfl, rfl⟩ := g1
  obtain ⟨A', n', c', X, i1, i2, i3, i4, i5⟩ := Rd.acts e2
  simp only [Value.cells, List.cons.injEq, and_true, Value.slice.injEq] at i1
  obtain ⟨rfl, rfl, rfl⟩ := i1
  by_cases hn : n ≤ 100 ∧ m ≤ 200
  · exact beatPlays_core w wt h0 A n c l g4 g5 hn.1 A2 m c2 X i4 i5 hn.2
  · clear g4 e1 g5 e2 i4 i5
    unfold maxLen at g3 i3
    have hcase : 200 < m ∨ (m ≤ 200 ∧ 100 < n) := by omega
    clear hn
    rcases hcase with k1 | ⟨k1, k2⟩
    all_goals
      go_enter Try.func4, Try.ntmps4
      go_wp2_with fail
      refine (balive_any _).mono ?_
      rintro e w1 ⟨rfl, hc1⟩
      go_wp2_with fail
      go_ret
      exact ⟨rfl, hc1⟩
end Go.Proofs.Ytfpkhpdbfkclgaa
