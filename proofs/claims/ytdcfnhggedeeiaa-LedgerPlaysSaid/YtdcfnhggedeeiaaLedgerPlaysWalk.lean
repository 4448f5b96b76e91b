/-
  gleanerlaw22.LedgerPlays: the walk.
-/
import Derived.Test.YtdcfnhggedeeiaaLedWorks
import Derived.Test.YtdcfnhggedeeiaaLedgerMore
import Derived.Test.YtdcfnhggedeeiaaSameInts
import Derived.Test.YtdcfnhggedeeiaaWin
import Derived.Test.YtdcfnhggedeeiaaRdRows
import Derived.Deep.CutBlock
namespace Go.Proofs.Ytdcfnhggedeeiaa
open Go.ChangeShapes Go.WideShapes Go.ChangeAt Go.RowKit Go.Deep
set_option linter.unusedVariables false
set_option linter.unusedSimpArgs false

theorem Rd.structG {P : Program} {w : World} {t : TypeId} {cs : List Value} {fs : Array Field} (ht : P.underlying t = some (.struct fs)) (h : Rd P w t cs) :
    cs.length = P.cellsOf t ∧ ∀ (i : Nat) (f : Field), fs[i]? = some f → Rd P w f.type ((cs.drop f.offset).take (P.cellsOf f.type)) := by
  obtain ⟨H, enc, base, spare, held, fuel, x, h⟩ := h
  obtain ⟨xs, n, _, _, hl, hxl, hg⟩ := DataW.trod_struct ht h
  refine ⟨hl, fun i f hf => ?_⟩
  have h1 := hg i f hf
  have hxi : i < xs.length := by rw [hxl]; exact (Array.getElem?_eq_some_iff.1 hf).1
  rw [List.getElem?_eq_getElem hxi] at h1
  exact ⟨H, enc, base, spare, held, n, _, h1⟩

/-- A call, as it lies. -/
structure Ac where
  way : Int
  nm : ByteArray
  ev : Int
  vv : Int
  A : Option Addr
  n : Nat
  c : Nat
  L : List Int
def cellA (a : Ac) : List Value := [.int .i64 a.way, .string a.nm, .int .i64 a.ev, .int .i64 a.vv, .slice a.A a.n a.c]
theorem cellA_len (a : Ac) : (cellA a).length = 5 := rfl
structure Ac.ok (w : World) (a : Ac) : Prop where
  cm : a.c ≤ maxLen
  nc : a.n ≤ a.c
  rds : Rds w 1 a.A a.n (iv a.L)
  L : ∀ x ∈ a.L, Ytdcfnhggedeeiaa.i64 x
  nm : a.nm.size ≤ maxLen
theorem Rd.act {w : World} {l : List Value} (h : Rd Try.prog w 55 l) (hl : l.length = 5) : ∃ a : Ac, l = cellA a ∧ a.ok w := by
  obtain ⟨_, hg⟩ := h.structG Try.underlying55
  match l, hl, hg with
  | [a, b, c, d, e], _, hg =>
    obtain ⟨x0, h0, k0⟩ := (show Rd Try.prog w 3 [a] from hg 0 _ rfl).i64 Try.underlying3
    obtain ⟨x1, h1, k1⟩ := (show Rd Try.prog w 27 [b] from hg 1 _ rfl).string Try.underlying27
    obtain ⟨_, hg2⟩ := (show Rd Try.prog w 31 [c, d] from hg 2 _ rfl).structG Try.underlying31
    obtain ⟨x2, h2, k2⟩ := (show Rd Try.prog w 29 [c] from hg2 0 _ rfl).i64 Try.underlying29
    obtain ⟨x3, h3, k3⟩ := (show Rd Try.prog w 3 [d] from hg2 1 _ rfl).i64 Try.underlying3
    obtain ⟨A, n, c4, L, h4, m1, m2, m3, m4⟩ := (show Rd Try.prog w 22 [e] from hg 3 _ rfl).ints Try.underlying22 (by kernel_rfl) Try.underlying3
    simp only [List.cons.injEq, and_true] at h0 h1 h2 h3 h4
    subst h0 h1 h2 h3 h4
    exact ⟨⟨x0, x1, x2, x3, A, n, c4, L⟩, rfl, m2, m1, m3, m4, k1⟩
theorem Rd.acts {w : World} {cs : List Value} (h : Rd Try.prog w 49 cs) :
    ∃ A n c, ∃ X : List Ac, cs = [.slice A n c] ∧ n ≤ c ∧ c ≤ maxLen ∧ Rds w 5 A n (X.flatMap cellA) ∧ ∀ a ∈ X, a.ok w :=
  h.rows Try.underlying49 (by kernel_rfl) cellA_len fun l hl hr => hr.act hl

/-- What lies where between two calls. -/
def LS (w0 : World) (g mw r k : Nat) (wr : World) : Prop := ∃ (FL F G : Nat → Prop) (T : List Cm) (W : List Wn) (n : Nat) (f : ByteArray → Option Nat) (q : Nat), BL w0 FL F G g mw r T T (dW W) W n f q wr ∧ q ≤ 60 * k ∧ T.length ≤ k
theorem sameRes_self (a b : Int) (w : World) : Calls Try.prog 18 #[.agg #[.int .i64 a, .int .i64 b], .agg #[.int .i64 a, .int .i64 b]] w fun e w2 => e = .returned (.bool true) ∧ Chg Non w w2 := by
  refine (sameRes_any a b a b w).mono ?_
  rintro e w2 ⟨rfl, h⟩
  exact ⟨by simp, h⟩
theorem BL.start {w0 w : World} {FL F G : Nat → Prop} {g mw r : Nat} {n : Nat} {f : ByteArray → Option Nat} {q : Nat} (h1 : Led w FL g mw []) (h2 : Sets idKey inK w F mw n f (dW []) q) (h3 : Rl w G r [] []) (h4 : ∀ b, FL b → ¬ F b) (h5 : ∀ b, FL b → ¬ G b) (h6 : ∀ b, F b → ¬ G b) (h7 : ∀ b, FL b → w0.heap.size ≤ b) (h8 : ∀ b, F b → w0.heap.size ≤ b) (h9 : ∀ b, G b → w0.heap.size ≤ b) (hn : n ≤ q) (hc : Chg Non w0 w) : BL w0 FL F G g mw r [] [] (dW []) [] n f q w :=
  ⟨h1, h2, h3, h4, h5, h6, h7, h8, h9, ⟨by simp, by simp⟩, hn, Nat.zero_le _, hc⟩

set_option maxRecDepth 100000 in
set_option maxHeartbeats 16000000 in
theorem ledgerPlays_core (wo : World) (A2 : Option Addr) (m c2 : Nat) (X : List Ac) (hx : Rds wo 5 A2 m (X.flatMap cellA)) (hX : ∀ a ∈ X, a.ok wo) (hm : m ≤ 200) :
    Calls Try.prog 5 #[.slice A2 m c2] wo fun e w2 => e = .returned (.bool true) ∧ Chg Non wo w2 := by
  have Hx := Lib.hid hx
  have HX := Lib.hid hX
  clear hx hX
  go_enter Try.func5, Try.ntmps5
  go_wp2_with fail
  refine (led_alive _).mono ?_
  rintro e w1 ⟨rfl, hc1⟩
  go_wp2_with fail
  refine (ledNew_any _).mono ?_
  rintro e w2 ⟨g, mw, rfl, hL, hM, hmw1, hmw2, hc2⟩
  have hs1 := hc1.size
  have hs2 := hc2.size
  have hC2 := hc1.non hc2
  have hS := Sets.made (K2 := inK) hM
  obtain ⟨s2, hs⟩ : ∃ s2, w2.heap.size = s2 := ⟨_, rfl⟩
  obtain ⟨w3, hw3⟩ : ∃ w3, w2.alloc (.cells #[.slice none 0 0, .slice none 0 0] 53) = w3 := ⟨_, rfl⟩
  have hcA : Chg Non w2 w3 := hw3 ▸ (Chg.refl _ _).alloc _
  have h0 : LS wo g mw s2 0 w3 := by
    have hb : Blk w3 s2 53 #[.slice none 0 0, .slice none 0 0] := hw3 ▸ hs ▸ Blk.new _ _ _
    refine ⟨_, _, RlF s2 (.slice none 0 0) (.slice none 0 0) [], [], [], _, _, _, BL.start (hL.non hcA) (hS.non hcA) ⟨none, 0, 0, none, 0, 0, ⟨rfl, rfl, hb, OwnR.nil _ _ _, OwnR.nil _ _ _, by simp⟩, rfl⟩ ?_ ?_ ?_ ?_ ?_ ?_ (Nat.le_refl _) (hC2.non hcA), Nat.zero_le _, Nat.le_refl _⟩
    · exact fun b h e => h.2.2 e
    · rintro b h (e | e | e | ⟨x, e, _⟩)
      · have := h.2.1; omega
      · cases e
      · cases e
      · cases e
    · rintro b h (e | e | e | ⟨x, e2, _⟩)
      · have h : b = mw := h; omega
      · cases e
      · cases e
      · cases e2
    · exact fun b h => by have := h.1; omega
    · exact fun b h => by have h : b = mw := h; omega
    · rintro b (e | e | e | ⟨x, e, _⟩)
      · omega
      · cases e
      · cases e
      · cases e
  have hs23 : s2 < w3.heap.size := by rw [← hw3]; simp; omega
  have hg3 : g < w3.heap.size := by have := hL.gF.2; omega
  clear hL hM hS hc1 hc2 hcA hC2 hs1 hs2 hmw1 hmw2
  go_wp2_with fail
  go_loopw [6] (fun i wr => ∃ k : Nat, k ≤ m ∧ i = .int .i64 k ∧ LS wo g mw s2 k wr) (fun i _ => m - (intOf i).toNat)
  case atStart => exact ⟨0, Nat.zero_le _, rfl, h0⟩
  case round =>
    clear h0 hw3 hs
    obtain ⟨k, hk, rfl, hbb⟩ := hrel
    obtain ⟨wz, rfl⟩ : ∃ wz, wz = wr := ⟨_, rfl⟩
    obtain ⟨FL, F, G, T, W, n, f, q, hB, hq, hTk⟩ := hbb
    by_cases hlt : k < m
    · obtain ⟨ad, a, rfl, ha, hc0, hcN⟩ := Hx.out.getN cellA_len (by decide) hlt
      have hao := HX.out a (List.mem_of_getElem? ha)
      have hC := hB.chg
      have d0 := hC.cell (hc0 _ rfl) id
      have d1 : wz.cell? ⟨(ad.add (k * 5)).block, (ad.add (k * 5)).off + 1, none⟩ = some (.string a.nm) := hC.cell (hcN 0 _ rfl) id
      have d2 : wz.cell? ⟨(ad.add (k * 5)).block, (ad.add (k * 5)).off + 2, none⟩ = some (.int .i64 a.ev) := hC.cell (hcN 1 _ rfl) id
      have d3 : wz.cell? ⟨(ad.add (k * 5)).block, (ad.add (k * 5)).off + 3, none⟩ = some (.int .i64 a.vv) := hC.cell (hcN 2 _ rfl) id
      have d4 : wz.cell? ⟨(ad.add (k * 5)).block, (ad.add (k * 5)).off + 4, none⟩ = some (.slice a.A a.n a.c) := hC.cell (hcN 3 _ rfl) id
      clear hc0 hcN ha
      obtain ⟨way, nm, ev, vv, An, nn, cn, Ln⟩ := a
      simp only at d0 d1 d2 d3 d4
      have Hrn := Lib.hid hao.rds
      have hnc : nn ≤ 9223372036854775807 := by have h1 := hao.nc; have h2 := hao.cm; unfold maxLen at h2; simp only at h1 h2; omega
      have HLz := Lib.hid hao.L
      have hnmz : nm.size ≤ 9223372036854775807 := hao.nm
      obtain ⟨wA, hwA⟩ : ∃ wA, wz.alloc (.cells #[.int .i64 way, .string nm, .int .i64 ev, .int .i64 vv, .slice An nn cn] 55) = wA := ⟨_, rfl⟩
      have hbx : Blk wA wz.heap.size 55 #[.int .i64 way, .string nm, .int .i64 ev, .int .i64 vv, .slice An nn cn] := hwA ▸ Blk.new _ _ _
      have hCA : Chg Non wz wA := hwA ▸ (Chg.refl _ _).alloc _
      have hbl := World.block_lt_of_cell? wz _ d0
      rw [block_add] at hbl
      have hBA := hB.non hCA
      have hCw := hBA.chg
      have hbxL : ¬ FL wz.heap.size := fun h => by have := hB.led.lt _ h; omega
      have hbxF : ¬ F wz.heap.size := fun h => by have := hB.sets.lt _ h; omega
      have hbxG : ¬ G wz.heap.size := fun h => by have := hB.rl.lt _ h; omega
      have hAlt : 0 < nn → ∀ ad, An = some ad → ad.block < wo.heap.size := by
        intro h0 ad e
        obtain ⟨ad2, y, e2, _, hcy⟩ := Hrn.out.getI h0
        rw [e] at e2
        obtain rfl := Option.some.inj e2
        have h1 := World.block_lt_of_cell? wo _ hcy
        rw [block_add] at h1
        exact h1
      have HAlt := Lib.hid hAlt
      have x0 : wA.cell? ⟨wz.heap.size, 0, none⟩ = some (.int .i64 way) := hbx.cell 0
      have x1 : wA.cell? ⟨wz.heap.size, 1, none⟩ = some (.string nm) := hbx.cell 1
      have x2 : wA.cell? ⟨wz.heap.size, 2, none⟩ = some (.int .i64 ev) := hbx.cell 2
      have x3 : wA.cell? ⟨wz.heap.size, 3, none⟩ = some (.int .i64 vv) := hbx.cell 3
      have x4 : wA.cell? ⟨wz.heap.size, 4, none⟩ = some (.slice An nn cn) := hbx.cell 4
      have hbxl := hbx.lt
      clear hao hC hB hCA hAlt
      by_cases hsh : nm.size ≤ 100 ∧ nn ≤ 50
      case neg =>
        have hex : 100 < nm.size ∨ (nm.size ≤ 100 ∧ 50 < nn) := by omega
        clear hsh hBA hbx
        rcases hex with h1 | ⟨h1, h2⟩
        all_goals
          go_wp2_with fail
          go_ret
          exact ⟨rfl, hCw⟩
      case pos =>
      obtain ⟨h1, h2⟩ := hsh
      go_upto_block 2 with (fail)
      clear hwA d0 d1 d2 d3 d4
      go_cut [8, 9, 10, 11, 12, 13, 14, 15, 16, 17, 18] from 33 to 179 (fun v _ _ _ _ _ _ _ _ _ _ wx => v = .bool true ∧ LS wo g mw s2 (k + 1) wx)
      case first =>
        have hcase : way = 0 ∨ way = 1 ∨ way = 2 ∨ ((way == 0) = false ∧ (way == 1) = false ∧ (way == 2) = false) := by
          simp only [beq_eq_false_iff_ne]
          omega
        rcases hcase with rfl | rfl | rfl | ⟨e0, e1, e2⟩
        · as_aux_lemma =>
            obtain ⟨hb, hhb⟩ : ∃ hb, comB T nm = hb := ⟨_, rfl⟩
            obtain ⟨NEW, hnew⟩ : ∃ NEW, comT T nm ev vv = NEW := ⟨_, rfl⟩
            have hlenn : NEW.length ≤ k + 1 := by have h9 := comT_len T nm ev vv; rw [hnew] at h9; omega
            have Hp := Lib.hid (fun (wx : World) (hS : BL wo FL F G g mw s2 T T (dW W) W n f q wx) => (show Calls Try.prog _ _ wx (PComPost wx FL g mw hb NEW) from hhb ▸ hnew ▸ pCommit wx FL g mw T nm ev vv hS.led (by omega) (by omega)))
            have Hr := Lib.hid (fun (wx : World) (FL2 : Nat → Prop) (hS : BL wo FL2 F G g mw s2 NEW T (dW W) W n f q wx) => (show Calls Try.prog _ _ wx (RlPost wx G s2 (.bool hb) NEW W) from hhb ▸ hnew ▸ rCommit wx G s2 T W nm ev vv hS.rl (by omega) (by omega)))
            have hbb : (hb == hb) = true := beq_self_eq_true _
            have y1 : ∀ wx, Chg (fun b => FL b ∨ G b) wA wx → wx.cell? ⟨wz.heap.size, 1, none⟩ = some (.string nm) := fun wx h => h.cell (hbx.cell 1) (fun e => e.elim hbxL hbxG)
            have y2 : ∀ wx, Chg (fun b => FL b ∨ G b) wA wx → wx.cell? ⟨wz.heap.size, 2, none⟩ = some (.int .i64 ev) := fun wx h => h.cell (hbx.cell 2) (fun e => e.elim hbxL hbxG)
            have y3 : ∀ wx, Chg (fun b => FL b ∨ G b) wA wx → wx.cell? ⟨wz.heap.size, 3, none⟩ = some (.int .i64 vv) := fun wx h => h.cell (hbx.cell 3) (fun e => e.elim hbxL hbxG)
            have hokW := hBA.ok
            have hwqW := hBA.wq
            clear hhb hnew
            go_wp2_with fail
            refine st_region 8 (fun b => FL b ∨ G b) [5, 11] [] (fun i _ _ wx => if i = 11 then ∃ FL2 G2, BL wo FL2 F G2 g mw s2 NEW NEW (dW W) W n f q wx else ∃ FL2, BL wo FL2 F G g mw s2 NEW T (dW W) W n f q wx) (fun _ _ _ _ => True) (fun _ _ v => v = .bool hb) (fun wx => BL wo FL F G g mw s2 T T (dW W) W n f q wx) (by kernel_rfl) (by kernel_rfl) (fun b h => h.elim (hBA.led.lt b) (hBA.rl.lt b)) (hBA.non (Chg.refl _ _).drew) (fun wx ob h => h.non ((Chg.refl _ wx).alloc ob)) ?_
            repeat (first | (refine st_pass (by rfl) ?_; simp only [Act.put, List.setIfInBounds_toArray, List.set_cons_succ, List.set_cons_zero]) | (refine st_plain (fun b => FL b ∨ G b) (wA) rfl rfl (f := ?_) (by rfl) rfl rfl (fun w hC hG => ?_) ?_; rotate_left; (clear hG; first | (go_simp; done) | (go_simp; with_reducible rfl) | (simp [*, go_sem, ↓IntWalk.iteOmega]; done) | (simp [*, go_sem, ↓IntWalk.iteOmega]; with_reducible rfl)); simp only [Act.put, List.setIfInBounds_toArray, List.set_cons_succ, List.set_cons_zero]))
            refine st_major (fun b => FL b ∨ G b) (wA) rfl rfl (by rfl) rfl (⟨_, rfl⟩) (fun _ _ _ _ _ _ => trivial) (fun v wx ob h => h.imp fun F2 h => h.non ((Chg.refl _ wx).alloc ob)) (fun w hC hG hS => settle_of (r2 := ?_) ?_ ?_) ?_
            rotate_left
            (first | (go_simp; done) | (go_simp; rfl))
            · refine settle_enter ((Hp.out _ hS).mono ?_)
              rintro e w6 ⟨rfl, F2, hT6, hF6, hc6⟩
              exact ⟨_, rfl, rfl, hc6.mono fun b e => .inl e, ⟨F2, BL.prog hS hT6 hF6 hc6⟩, trivial⟩
            rintro v rfl
            simp only [Act.put, List.setIfInBounds_toArray, List.set_cons_succ, List.set_cons_zero]
            repeat (first | (refine st_pass (by rfl) ?_; simp only [Act.put, List.setIfInBounds_toArray, List.set_cons_succ, List.set_cons_zero]) | (refine st_plain (fun b => FL b ∨ G b) (wA) rfl rfl (f := ?_) (by rfl) rfl rfl (fun w hC hG => ?_) ?_; rotate_left; (clear hG; first | (go_simp; done) | (go_simp; with_reducible rfl) | (simp [*, go_sem, ↓IntWalk.iteOmega]; done) | (simp [*, go_sem, ↓IntWalk.iteOmega]; with_reducible rfl)); simp only [Act.put, List.setIfInBounds_toArray, List.set_cons_succ, List.set_cons_zero]))
            refine st_major (fun b => FL b ∨ G b) (wA) rfl rfl (by rfl) rfl (⟨_, rfl⟩) (fun _ _ _ _ _ _ => trivial) (fun v wx ob h => h.imp fun F2 h => h.imp fun G2 h => h.non ((Chg.refl _ wx).alloc ob)) (fun w hC hG hS => settle_of (r2 := ?_) ?_ ?_) ?_
            rotate_left
            (first | (go_simp; done) | (go_simp; rfl))
            · have hS2 : ∃ FL2, BL wo FL2 F G g mw s2 NEW T (dW W) W n f q _ := hS
              obtain ⟨F2, hS2⟩ := hS2
              refine settle_enter ((Hr.out _ F2 hS2).mono ?_)
              rintro e w6 ⟨rfl, G2, hT6, hG6, hc6⟩
              exact ⟨_, rfl, rfl, hc6.mono fun b e => .inr e, ⟨F2, G2, hS2.ref hT6 hG6 hc6 hokW hwqW⟩, trivial⟩
            rintro v rfl
            simp only [Act.put, List.setIfInBounds_toArray, List.set_cons_succ, List.set_cons_zero]
            repeat (first | (refine st_pass (by rfl) ?_; simp only [Act.put, List.setIfInBounds_toArray, List.set_cons_succ, List.set_cons_zero]) | (refine st_plain (fun b => FL b ∨ G b) (wA) rfl rfl (f := ?_) (by rfl) rfl rfl (fun w hC hG => ?_) ?_; rotate_left; (clear hG; first | (go_simp; done) | (go_simp; with_reducible rfl) | (simp [*, go_sem, ↓IntWalk.iteOmega]; done) | (simp [*, go_sem, ↓IntWalk.iteOmega]; with_reducible rfl)); simp only [Act.put, List.setIfInBounds_toArray, List.set_cons_succ, List.set_cons_zero]))
            refine st_end (fun b => FL b ∨ G b) wA rfl rfl (fun w6 hC6 hS6 hG6 => ?_)
            have hS7 : ∃ FL2 G2, BL wo FL2 F G2 g mw s2 NEW NEW (dW W) W n f q w6 := hS6
            clear hG6 hS6 y1 y2 y3
            obtain ⟨F2, G2, hB6⟩ := hS7
            go_wp2_with fail
            go_meet
            exact ⟨rfl, F2, F, G2, NEW, W, n, f, q, hB6, by omega, hlenn⟩
        · as_aux_lemma =>
            obtain ⟨⟨rx, ry, rb⟩, hgt⟩ : ∃ z, getT T nm = z := ⟨_, rfl⟩
            have Hp := Lib.hid (fun (wx : World) (hS : BL wo FL F G g mw s2 T T (dW W) W n f q wx) => (show Calls Try.prog _ _ wx (fun e w2 => e = .returned (.tuple #[.agg #[.int .i64 rx, .int .i64 ry], .bool rb]) ∧ Chg Non wx w2) from by have h9 := pGet wx FL g mw T nm hS.led (by omega); rw [hgt] at h9; exact h9))
            have Hr := Lib.hid (fun (wx : World) (hS : BL wo FL F G g mw s2 T T (dW W) W n f q wx) => (show Calls Try.prog _ _ wx (fun e w2 => e = .returned (.tuple #[.agg #[.int .i64 rx, .int .i64 ry], .bool rb]) ∧ Chg Non wx w2) from by have h9 := rGet wx G s2 T W nm hS.rl (by omega); rw [hgt] at h9; exact h9))
            have hbb : (rb == rb) = true := beq_self_eq_true _
            have y1 : ∀ wx, Chg Non wA wx → wx.cell? ⟨wz.heap.size, 1, none⟩ = some (.string nm) := fun wx h => h.cell (hbx.cell 1) id
            clear hgt
            go_wp2_with fail
            refine st_region_last 8 10 8 Non [5] [9] (fun _ _ _ wx => BL wo FL F G g mw s2 T T (dW W) W n f q wx) (fun _ _ _ _ => True) (fun _ _ v => v = .tuple #[.agg #[.int .i64 rx, .int .i64 ry], .bool rb]) (fun wx => BL wo FL F G g mw s2 T T (dW W) W n f q wx) (by kernel_rfl) (by kernel_rfl) (by kernel_rfl) (by kernel_rfl) (by decide) rfl rfl rfl rfl rfl rfl rfl (fun _ h => h.elim) (hBA.non (Chg.refl _ _).drew) (fun wx ob h => h.non ((Chg.refl _ wx).alloc ob)) ?_
            repeat (first | (refine st_pass (by rfl) ?_; simp only [Act.put, List.setIfInBounds_toArray, List.set_cons_succ, List.set_cons_zero]) | (refine st_plain (Non) (wA) rfl rfl (f := ?_) (by rfl) rfl rfl (fun w hC hG => ?_) ?_; rotate_left; (clear hG; first | (go_simp; done) | (go_simp; with_reducible rfl) | (simp [*, go_sem, ↓IntWalk.iteOmega]; done) | (simp [*, go_sem, ↓IntWalk.iteOmega]; with_reducible rfl)); simp only [Act.put, List.setIfInBounds_toArray, List.set_cons_succ, List.set_cons_zero]))
            refine st_major (Non) (wA) rfl rfl (by rfl) rfl (⟨_, rfl⟩) (fun _ _ _ _ _ _ => trivial) (fun v wx ob h => h.non ((Chg.refl _ wx).alloc ob)) (fun w hC hG hS => settle_of (r2 := ?_) ?_ ?_) ?_
            rotate_left
            (first | (go_simp; done) | (go_simp; rfl))
            · refine settle_enter ((Hp.out _ hS).mono ?_)
              rintro e w6 ⟨rfl, hc6⟩
              exact ⟨_, rfl, rfl, hc6, hS.non hc6, trivial⟩
            rintro v rfl
            simp only [Act.put, List.setIfInBounds_toArray, List.set_cons_succ, List.set_cons_zero]
            repeat (first | (refine st_pass (by rfl) ?_; simp only [Act.put, List.setIfInBounds_toArray, List.set_cons_succ, List.set_cons_zero]) | (refine st_plain (Non) (wA) rfl rfl (f := ?_) (by rfl) rfl rfl (fun w hC hG => ?_) ?_; rotate_left; (clear hG; first | (go_simp; done) | (go_simp; with_reducible rfl) | (simp [*, go_sem, ↓IntWalk.iteOmega]; done) | (simp [*, go_sem, ↓IntWalk.iteOmega]; with_reducible rfl)); simp only [Act.put, List.setIfInBounds_toArray, List.set_cons_succ, List.set_cons_zero]))
            refine st_minor Non wA rfl rfl (ob := .cells #[.int .i64 0, .int .i64 0] 31) (kd := none) (by rfl) rfl rfl (fun w hC hG => by clear hG; go_simp; rfl) (fun g3 => ?_)
            simp only [Act.put, List.setIfInBounds_toArray, List.set_cons_succ, List.set_cons_zero]
            refine st_tail Non wA rfl rfl rfl (fun w7 hC7 hS7 hG7 => ?_)
            have hB3 : Blk w7 g3 31 #[.int .i64 0, .int .i64 0] := (hG7 9).2
            have hg3 : wA.heap.size ≤ g3 := (hG7 9).1
            have hS7 : BL wo FL F G g mw s2 T T (dW W) W n f q w7 := hS7
            clear hG7
            refine ⟨_, exec_store (cs := #[.int .i64 rx, .int .i64 ry]) _ _ rfl rfl rfl hB3 rfl (by kernel_rfl) (by simp [Value.oneCell']), ?_⟩
            simp only [List.drop_succ_cons, List.drop_zero]
            have hCs : Chg (fun b => b = g3) w7 (w7.setCells g3 0 [.int .i64 rx, .int .i64 ry]) := Chg.sets (S := fun b => b = g3) (.inl rfl) _ _ _ (Chg.refl _ w7)
            have hB8 : Blk (w7.setCells g3 0 [.int .i64 rx, .int .i64 ry]) g3 31 #[.int .i64 rx, .int .i64 ry] := hB3.puts _ _ _ _
            have hLl := hBA.led.lt
            have hFl := hBA.sets.lt
            have hGl := hBA.rl.lt
            have hzo := hCw.size
            have hS8 := hS7.put hCs (fun b h e => by have := hLl b h; have e : b = g3 := e; omega) (fun b h e => by have := hFl b h; have e : b = g3 := e; omega) (fun b h e => by have := hGl b h; have e : b = g3 := e; omega) (fun b e => by have e : b = g3 := e; omega)
            have x18 : (w7.setCells g3 0 [.int .i64 rx, .int .i64 ry]).cell? ⟨wz.heap.size, 1, none⟩ = some (.string nm) := hCs.cell (y1 w7 hC7) (fun e => by have e : wz.heap.size = g3 := e; omega)
            show wpList _ _ _ _ _ (w7.setCells g3 0 [.int .i64 rx, .int .i64 ry])
            obtain ⟨w8, hw8⟩ : ∃ w8, w7.setCells g3 0 [.int .i64 rx, .int .i64 ry] = w8 := ⟨_, rfl⟩
            rw [hw8] at hS8 hB8 x18 ⊢
            have hb8l := hB8.lt
            have ha8l := World.block_lt_of_cell? w8 _ x18
            have hs8l : s2 < w8.heap.size := by have := hC7.size; have := hCs.size; rw [hw8] at this; obtain ⟨_, _, _, _, _, _, hrt, _⟩ := hBA.rl; have := hrt.hb.lt; omega
            clear hw8 hCs hB3 hS7 hC7 y1 hLl hFl hGl
            simp only [mkv]
            go_wp2_with fail
            refine (Hr.out _ hS8).mono ?_
            rintro e w9 ⟨rfl, hc9⟩
            obtain ⟨w10, hw10⟩ : ∃ w10, w9.alloc (.cells #[.int .i64 rx, .int .i64 ry] 31) = w10 := ⟨_, rfl⟩
            have hc10 : Chg Non w9 w10 := hw10 ▸ (Chg.refl _ _).alloc _
            have hbR : Blk w10 w9.heap.size 31 #[.int .i64 rx, .int .i64 ry] := hw10 ▸ Blk.new _ _ _
            have hbQ := (hB8.non hc9).non hc10
            have hS10 := (hS8.non hc9).non hc10
            have p0 : w10.cell? ⟨g3, 0, none⟩ = some (.int .i64 rx) := hbQ.cell 0
            have p1 : w10.cell? ⟨g3, 1, none⟩ = some (.int .i64 ry) := hbQ.cell 1
            have p2 : w10.cell? ⟨w9.heap.size, 0, none⟩ = some (.int .i64 rx) := hbR.cell 0
            have p3 : w10.cell? ⟨w9.heap.size, 1, none⟩ = some (.int .i64 ry) := hbR.cell 1
            have hl1 := hbQ.lt
            have hl2 := hbR.lt
            clear hS8 hB8 hc9 hc10 hbQ hbR
            go_wp2_with fail
            refine (sameRes_self rx ry _).mono ?_
            rintro e w11 ⟨rfl, hc11⟩
            go_wp2_with fail
            go_meet
            exact ⟨rfl, FL, F, G, T, W, n, f, q, hS10.non hc11, by omega, by omega⟩
        · as_aux_lemma =>
            obtain ⟨⟨rx, ry, rb⟩, hgt⟩ : ∃ z, getT T nm = z := ⟨_, rfl⟩
            have Hp := Lib.hid (show Calls Try.prog 11 #[.pointer (some ⟨g, 0, none⟩), .string nm, .slice An nn cn] wA (PwPost wo wA FL F G g mw s2 T (wD T nm Ln (dW W)) W (q + nn + 1) (.tuple #[.agg #[.int .i64 rx, .int .i64 ry], .bool rb])) from by have h9 := pWant hBA nm An nn cn Ln Hrn.out HLz.out HAlt.out (by omega) (by omega) (by omega); rw [hgt] at h9; exact h9)
            have hokW := hBA.ok
            have hwqW := hBA.wq
            have Hr := Lib.hid (fun (wx : World) (F : Nat → Prop) (n : Nat) (f : ByteArray → Option Nat) (hS : BL wo FL F G g mw s2 T T (wD T nm Ln (dW W)) W n f (q + nn + 1) wx) => (show Calls Try.prog _ _ wx (RwPost wo wx FL F G g mw s2 T n f (q + nn + 1) (.tuple #[.agg #[.int .i64 rx, .int .i64 ry], .bool rb])) from by have h9 := rWant nm An nn cn Ln hS hokW hwqW (Nat.le_refl _) Hrn.out HAlt.out (by omega) (by omega) (by omega) (by omega); rw [hgt] at h9; exact h9))
            have hbb : (rb == rb) = true := beq_self_eq_true _
            have hGl := hBA.rl.lt
            clear hgt
            go_wp2_with fail
            refine Hp.out.mono ?_
            rintro e w5 ⟨rfl, F2, n2, f2, hB5, hF5, hc5⟩
            have hs5 := hc5.size
            have hbx5 := hbx.chg hc5 hbxF
            obtain ⟨w6, hw6⟩ : ∃ w6, w5.alloc (.cells #[.int .i64 rx, .int .i64 ry] 31) = w6 := ⟨_, rfl⟩
            have hc6 : Chg Non w5 w6 := hw6 ▸ (Chg.refl _ _).alloc _
            have hbQ : Blk w6 w5.heap.size 31 #[.int .i64 rx, .int .i64 ry] := hw6 ▸ Blk.new _ _ _
            have hB6 := hB5.non hc6
            have hbx6 := hbx5.non hc6
            have z1 : w6.cell? ⟨wz.heap.size, 1, none⟩ = some (.string nm) := hbx6.cell 1
            have z4 : w6.cell? ⟨wz.heap.size, 4, none⟩ = some (.slice An nn cn) := hbx6.cell 4
            have hl1 := hbQ.lt
            have hl6 := hbx6.lt
            have hQG : ¬ G w5.heap.size := fun h => by have := hGl _ h; omega
            clear hB5 hc5 hbx5 hbx6 hc6
            go_wp2_with fail
            refine (Hr.out _ F2 n2 f2 hB6).mono ?_
            rintro e w7 ⟨rfl, G2, W2, hB7, hG7, hc7⟩
            have hbQ7 := hbQ.chg hc7 hQG
            obtain ⟨w10, hw10⟩ : ∃ w10, w7.alloc (.cells #[.int .i64 rx, .int .i64 ry] 31) = w10 := ⟨_, rfl⟩
            have hc10 : Chg Non w7 w10 := hw10 ▸ (Chg.refl _ _).alloc _
            have hbR : Blk w10 w7.heap.size 31 #[.int .i64 rx, .int .i64 ry] := hw10 ▸ Blk.new _ _ _
            have hbQ10 := hbQ7.non hc10
            have hS10 := hB7.non hc10
            have p0 : w10.cell? ⟨w5.heap.size, 0, none⟩ = some (.int .i64 rx) := hbQ10.cell 0
            have p1 : w10.cell? ⟨w5.heap.size, 1, none⟩ = some (.int .i64 ry) := hbQ10.cell 1
            have p2 : w10.cell? ⟨w7.heap.size, 0, none⟩ = some (.int .i64 rx) := hbR.cell 0
            have p3 : w10.cell? ⟨w7.heap.size, 1, none⟩ = some (.int .i64 ry) := hbR.cell 1
            have hl2 := hbQ10.lt
            have hl3 := hbR.lt
            clear hB6 hB7 hc7 hbQ hbQ7 hbR hbQ10 hc10 hw6 z1 z4
            go_wp2_with fail
            refine (sameRes_self rx ry _).mono ?_
            rintro e w11 ⟨rfl, hc11⟩
            go_wp2_with fail
            go_meet
            exact ⟨rfl, FL, F2, G2, T, W2, n2, f2, q + nn + 1, hS10.non hc11, by omega, by omega⟩
        · as_aux_lemma =>
            have Hp := Lib.hid (pTell hBA nm (by omega) (by omega))
            have Hr := Lib.hid (fun (wx : World) (n : Nat) (f : ByteArray → Option Nat) (hS : BL wo FL F G g mw s2 T T (tD T nm (dW W)) W n f q wx) => rTell nm hS (by omega) (by omega))
            have hLl := hBA.led.lt
            have hFl := hBA.sets.lt
            have hGl := hBA.rl.lt
            have hzo := hCw.size
            go_wp2_with fail
            refine Hp.out.mono ?_
            rintro e w5 ⟨v5, L5, n5, f5, rfl, hr5, hm5, hl5, ho5, hB5, hc5⟩
            have hs5 := hc5.size
            have hbx5 := hbx.chg hc5 hbxF
            have z1 : w5.cell? ⟨wz.heap.size, 1, none⟩ = some (.string nm) := hbx5.cell 1
            have hl1 := hbx5.lt
            clear hc5 hbx5
            go_wp2_with fail
            refine (Hr.out _ n5 f5 hB5).mono ?_
            rintro e w6 ⟨v6, m6, L6, G2, W2, rfl, hr6, hm6, ho6, hB6, hG6, hc6⟩
            obtain rfl : L5 = L6 := rises_eq hr5 hr6 fun z => (hm5 z).trans (hm6 z).symm
            have ho56 := ho5.chg hc6 (fun b h h2 => by have := (ho5.lt h).1; have := hGl b h2; omega)
            have hv5G : ∀ b, v5.ownBlock = some b → ¬ G2 b := fun b h h2 => by
              have h9 := ho5.lt h
              rcases hG6 b h2 with h | h
              · have := hGl b h; omega
              · omega
            have hv5L : ∀ b, v5.ownBlock = some b → wA.heap.size ≤ b := fun b h => (ho5.lt h).1
            obtain ⟨N5, hN5⟩ : ∃ N, L5.length = N := ⟨_, rfl⟩
            rw [hN5] at ho56 hl5
            obtain ⟨A5, d5, rfl, hd5, hd5m, hr5b, _⟩ := ho56.open_
            obtain ⟨A6, d6, rfl, _, _, hr6b, _⟩ := ho6.open_
            unfold maxLen at hd5m
            have hsm := sameInts_any w6 A5 _ d5 L5 A6 _ d6 L5 hr5b hr6b (by omega)
            rw [beq_self_eq_true] at hsm
            clear hr5 hm5 hr6 hm6 ho5 ho6 hB5 hc6 hr5b hr6b z1 hN5
            go_wp2_with fail
            refine hsm.mono ?_
            rintro e w7 ⟨rfl, hc7⟩
            have hB7 := hB6.non hc7
            have ho7 : Hid (∃ xs, OwnR rkN w7 wA.heap.size (.slice A5 N5 d5) N5 xs) := ⟨_, ho56.non hc7⟩
            clear hsm hB6 hc7 ho56
            go_wp2_with fail
            go_loopw [18] (fun i wr => ∃ j : Nat, j ≤ N5 ∧ i = .int .i64 j ∧ Hid (∃ xs, OwnR rkN wr wA.heap.size (.slice A5 N5 d5) N5 xs) ∧ Chg (fun b => (Value.slice A5 N5 d5).ownBlock = some b) w7 wr) (fun i _ => N5 - (intOf i).toNat)
            case atStart => exact ⟨0, Nat.zero_le _, rfl, ho7, Chg.refl _ _⟩
            case round =>
              obtain ⟨j, hj, rfl, hl, hC⟩ := hrel
              clear ho7
              by_cases hlt2 : j < N5
              · obtain ⟨xs, hx⟩ := hl.out
                obtain ⟨gx, cap, hv, hg1, hg2⟩ := World.ownsRow.form hx (by omega)
                injection hv with e1 e2 e3
                subst e1 e3
                have hlen : xs.length = N5 * 1 := hx.1
                have q1 : wr.cell? ⟨gx, j, none⟩ = xs[j]? := World.ownsRow.cellAt hx j (by show j < N5 * 1; omega)
                rw [List.getElem?_eq_getElem (by omega)] at q1
                have f1 : wr.frozen? ⟨gx, j, none⟩ = false := World.ownsRow.frozenAt hx j
                have hl2 : Hid (∃ xs, OwnR rkN (wr.setCell ⟨gx, j, none⟩ (.int .i64 (-1))) wA.heap.size (.slice (some ⟨gx, 0, none⟩) N5 d5) N5 xs) := ⟨_, (World.ownsRow.stored hx j (.int .i64 (-1))).1⟩
                have hC2 := hC.setCell (p := ⟨gx, j, none⟩) (.inl rfl) (.int .i64 (-1))
                clear hx hl hC
                go_wp2_with fail
                go_roundw
                case rel => exact ⟨j + 1, by omega, by go_num, hl2, hC2⟩
                case measure => simp [intOf]; omega
              · clear hl
                have hB8 := hB7.put hC (fun b h e => by have := hLl b h; have := hv5L b e; omega) (fun b h e => by have := hFl b h; have := hv5L b e; omega) (fun b h e => hv5G b e h) (fun b e => by have := hv5L b e; omega)
                clear hB7 hC
                go_wp2_with fail
                go_meet
                exact ⟨rfl, FL, F, G2, T, W2, n5, f5, q, hB8, by omega, by omega⟩
      case rest =>
        clear hBA x0 x1 x2 x3 x4 hbx hbxL hbxF hbxG hbxl hCw
        obtain ⟨rfl, hbb⟩ := hcut
        obtain ⟨FL, F, G, T, W, n, f, q, hB, hq, hTk⟩ := hbb
        as_aux_lemma =>
          have hLl := hB.led.lt
          have hFl := hB.sets.lt
          have hGl := hB.rl.lt
          have hzo := hB.chg.size
          go_wp2_with fail
          refine (ledTrace_any wc FL g mw T hB.led (by omega)).mono ?_
          rintro e w10 ⟨v10, rfl, ho10, hc10⟩
          have hB10 := hB.non hc10
          have hs10 := hc10.size
          have hvl : ∀ b, v10.ownBlock = some b → wc.heap.size ≤ b := fun b h => (ho10.lt h).1
          obtain ⟨N, hN⟩ : ∃ N, T.length = N := ⟨_, rfl⟩
          rw [hN] at ho10
          obtain ⟨A10, d10, rfl, hd10, hd10m, hr10, _⟩ := ho10.open_
          unfold maxLen at hd10m
          obtain ⟨A, nA, cA, A3, n3, c3, hrt, hGe⟩ := hB10.rl
          have hnA : nA = N := by rw [hrt.hn.out, hN]
          subst hnA
          have k0 : ∀ wx, Chg Non w10 wx → wx.cell? ⟨s2, 0, none⟩ = some (.slice A nA cA) := fun wx h => h.cell (hrt.hb.cell 0) id
          have Hp := Lib.hid (fun (wx : World) (h : Chg Non w10 wx) => commits_same wx A10 nA d10 A cA T (hr10.non h) (hrt.hT.rds.non h) (by omega))
          have Hl := Lib.hid (fun (wx : World) (hS : BL wo FL F G g mw s2 T T (dW W) W n f q wx) => (show Calls Try.prog _ _ wx (fun e w2 => e = .returned (.int .i64 ((nA : Nat) : Int)) ∧ wx = w2) from hN ▸ trLen_any wx FL g mw T hS.led))
          have hnn : ((nA : Int) != (nA : Int)) = false := bne_self_eq_false _
          clear hrt hGe hr10 hB
          go_wp2_with fail
          refine st_region 8 Non [8, 15] [] (fun _ _ _ wx => BL wo FL F G g mw s2 T T (dW W) W n f q wx) (fun _ _ _ _ => True) (fun i _ v => if i = 8 then v = .bool true else v = .int .i64 ((nA : Nat) : Int)) (fun wx => BL wo FL F G g mw s2 T T (dW W) W n f q wx) (by kernel_rfl) (by kernel_rfl) (fun b h => h.elim) (hB10.non (Chg.refl _ _).drew) (fun wx ob h => h.non ((Chg.refl _ wx).alloc ob)) ?_
          repeat (first | (refine st_pass (by rfl) ?_; simp only [Act.put, List.setIfInBounds_toArray, List.set_cons_succ, List.set_cons_zero]) | (refine st_plain (Non) (w10) rfl rfl (f := ?_) (by rfl) rfl rfl (fun w hC hG => ?_) ?_; rotate_left; (clear hG; first | (go_simp; done) | (go_simp; with_reducible rfl) | (simp [*, go_sem, ↓IntWalk.iteOmega]; done) | (simp [*, go_sem, ↓IntWalk.iteOmega]; with_reducible rfl)); simp only [Act.put, List.setIfInBounds_toArray, List.set_cons_succ, List.set_cons_zero]))
          refine st_major (Non) (w10) rfl rfl (by rfl) rfl (⟨_, rfl⟩) (fun _ _ _ _ _ _ => trivial) (fun v wx ob h => h.non ((Chg.refl _ wx).alloc ob)) (fun w hC hG hS => settle_of (r2 := ?_) ?_ ?_) ?_
          rotate_left
          (first | (go_simp; done) | (go_simp; rfl))
          · refine settle_enter ((Hp.out _ hC).mono ?_)
            rintro e w6 ⟨rfl, hc6⟩
            exact ⟨_, rfl, rfl, hc6, hS.non hc6, trivial⟩
          rintro v hv
          obtain rfl : v = .bool true := hv
          simp only [Act.put, List.setIfInBounds_toArray, List.set_cons_succ, List.set_cons_zero]
          repeat (first | (refine st_pass (by rfl) ?_; simp only [Act.put, List.setIfInBounds_toArray, List.set_cons_succ, List.set_cons_zero]) | (refine st_plain (Non) (w10) rfl rfl (f := ?_) (by rfl) rfl rfl (fun w hC hG => ?_) ?_; rotate_left; (clear hG; first | (go_simp; done) | (go_simp; with_reducible rfl) | (simp [*, go_sem, ↓IntWalk.iteOmega]; done) | (simp [*, go_sem, ↓IntWalk.iteOmega]; with_reducible rfl)); simp only [Act.put, List.setIfInBounds_toArray, List.set_cons_succ, List.set_cons_zero]))
          refine st_major (Non) (w10) rfl rfl (by rfl) rfl (⟨_, rfl⟩) (fun _ _ _ _ _ _ => trivial) (fun v wx ob h => h.non ((Chg.refl _ wx).alloc ob)) (fun w hC hG hS => settle_of (r2 := ?_) ?_ ?_) ?_
          rotate_left
          (first | (go_simp; done) | (go_simp; rfl))
          · refine settle_enter ((Hl.out _ hS).mono ?_)
            rintro e w6 ⟨rfl, rfl⟩
            exact ⟨_, rfl, rfl, Chg.refl _ _, hS, trivial⟩
          rintro v hv
          obtain rfl : v = .int .i64 ((nA : Nat) : Int) := hv
          simp only [Act.put, List.setIfInBounds_toArray, List.set_cons_succ, List.set_cons_zero]
          repeat (first | (refine st_pass (by rfl) ?_; simp only [Act.put, List.setIfInBounds_toArray, List.set_cons_succ, List.set_cons_zero]) | (refine st_plain (Non) (w10) rfl rfl (f := ?_) (by rfl) rfl rfl (fun w hC hG => ?_) ?_; rotate_left; (clear hG; first | (go_simp; done) | (go_simp; with_reducible rfl) | (simp [*, go_sem, ↓IntWalk.iteOmega]; done) | (simp [*, go_sem, ↓IntWalk.iteOmega]; with_reducible rfl)); simp only [Act.put, List.setIfInBounds_toArray, List.set_cons_succ, List.set_cons_zero]))
          refine st_end Non w10 rfl rfl (fun w6 hC6 hS6 hG6 => ?_)
          have hB6 : BL wo FL F G g mw s2 T T (dW W) W n f q w6 := hS6
          have ho6 : Hid (∃ xs, OwnR rkC w6 wc.heap.size (.slice A10 nA d10) nA xs) := ⟨_, ho10.non hC6⟩
          clear hG6 hS6 k0 Hp Hl hB10 ho10
          go_wp2_with fail
          go_loopw [20] (fun i wr => ∃ j : Nat, j ≤ nA ∧ i = .int .i64 j ∧ Hid (∃ xs, OwnR rkC wr wc.heap.size (.slice A10 nA d10) nA xs) ∧ Chg (fun b => (Value.slice A10 nA d10).ownBlock = some b) w6 wr) (fun i _ => nA - (intOf i).toNat)
          case atStart => exact ⟨0, Nat.zero_le _, rfl, ho6, Chg.refl _ _⟩
          case round =>
            obtain ⟨j, hj, rfl, hl, hC⟩ := hrel
            clear ho6
            by_cases hlt2 : j < nA
            · obtain ⟨xs, hx⟩ := hl.out
              obtain ⟨gx, cap, hv, hg1, hg2⟩ := World.ownsRow.form hx (by omega)
              injection hv with e1 e2 e3
              subst e1 e3
              have Hth := Lib.hid (hx.there hlt2)
              have hl2 : Hid (∃ xs, OwnR rkC (wr.setCells gx (j * 3) [.string ⟨#[]⟩, .int .i64 0, .int .i64 0]) wc.heap.size (.slice (some ⟨gx, 0, none⟩) nA d10) nA xs) := ⟨_, ((hx.put (j * 3) (.string ⟨#[]⟩)).put (j * 3 + 1) (.int .i64 0)).put (j * 3 + 1 + 1) (.int .i64 0)⟩
              have hC2 : Chg (fun b => (Value.slice (some ⟨gx, 0, none⟩) nA d10).ownBlock = some b) w6 (wr.setCells gx (j * 3) [.string ⟨#[]⟩, .int .i64 0, .int .i64 0]) := Chg.sets (S := fun b => (Value.slice (some ⟨gx, 0, none⟩) nA d10).ownBlock = some b) (.inl rfl) _ _ _ hC
              have hj1 : (0 : Int) ≤ (j : Int) := by omega
              have hj2 : (j : Int) < (nA : Int) := by omega
              clear hx hl hC
              go_wp2_with (refine wpList_store_mid (op := ⟨none, .store 33 (.tmp 179) (.tmp 178), _, _, _, _⟩) rfl _ _ _ rfl gx (j * 3) #[.string ⟨#[]⟩, .int .i64 0, .int .i64 0] rfl rfl Hth.out (by kernel_rfl) (all_oneCell_toArray (cellC_one (⟨#[]⟩, 0, 0))) ?_)
              go_roundw
              case rel => exact ⟨j + 1, by omega, by go_num, hl2, hC2⟩
              case measure => simp [intOf]; omega
            · clear hl
              have hB8 := hB6.put hC (fun b h e => by have := hLl b h; have := hvl b e; omega) (fun b h e => by have := hFl b h; have := hvl b e; omega) (fun b h e => by have := hGl b h; have := hvl b e; omega) (fun b e => by have := hvl b e; omega)
              clear hB6 hC
              go_wp2_with fail
              go_roundw
              case rel => exact ⟨k + 1, by omega, by go_num, FL, F, G, T, W, n, f, q, hB8, hq, by omega⟩
              case measure => simp [intOf]; omega
    · as_aux_lemma =>
        obtain ⟨N, hN⟩ : ∃ N, T.length = N := ⟨_, rfl⟩
        obtain ⟨A, nA, cA, A3, n3, c3, hrt, hGe⟩ := hB.rl
        have hnA : nA = N := by rw [hrt.hn.out, hN]
        subst hnA
        have k0 : ∀ wx, Chg Non wz wx → wx.cell? ⟨s2, 0, none⟩ = some (.slice A nA cA) := fun wx h => h.cell (hrt.hb.cell 0) id
        have Hp := Lib.hid (fun (wx : World) (hS : BL wo FL F G g mw s2 T T (dW W) W n f q wx) => ledTrace_any wx FL g mw T hS.led (by omega))
        have Hr := Lib.hid (fun (wx : World) (h : Chg Non wz wx) => hrt.hT.rds.non h)
        have hC0 := hB.chg
        clear hrt hGe
        go_wp2_with fail
        refine st_region 8 Non [3, 8] [] (fun i vs v wx => BL wo FL F G g mw s2 T T (dW W) W n f q wx ∧ (i = 3 → ∃ A c, v = .slice A nA c ∧ Rds wx 3 A nA (cv T))) (fun i _ v wx => i = 3 → ∃ A c, v = .slice A nA c ∧ Rds wx 3 A nA (cv T)) (fun i _ v => if i = 8 then v = .bool true else ∃ A c, v = .slice A nA c) (fun wx => BL wo FL F G g mw s2 T T (dW W) W n f q wx) (by kernel_rfl) (by kernel_rfl) (fun b h => h.elim) (hB.non (Chg.refl _ _).drew) (fun wx ob h => h.non ((Chg.refl _ wx).alloc ob)) ?_
        repeat (first | (refine st_pass (by rfl) ?_; simp only [Act.put, List.setIfInBounds_toArray, List.set_cons_succ, List.set_cons_zero]) | (refine st_plain (Non) (wz) rfl rfl (f := ?_) (by rfl) rfl rfl (fun w hC hG => ?_) ?_; rotate_left; (clear hG; first | (go_simp; done) | (go_simp; with_reducible rfl) | (simp [*, go_sem, ↓IntWalk.iteOmega]; done) | (simp [*, go_sem, ↓IntWalk.iteOmega]; with_reducible rfl)); simp only [Act.put, List.setIfInBounds_toArray, List.set_cons_succ, List.set_cons_zero]))
        refine st_major (Non) (wz) rfl rfl (by rfl) rfl (⟨_, none, 0, rfl⟩) (fun v w1 w2 _ h1 h2 h3 => by obtain ⟨A, c, e, hr⟩ := h2 h3; exact ⟨A, c, e, hr.non h1⟩) (fun v wx ob h => ⟨h.1.non ((Chg.refl _ wx).alloc ob), fun e => by obtain ⟨A, c, e, hr⟩ := h.2 e; exact ⟨A, c, e, hr.non ((Chg.refl _ wx).alloc ob)⟩⟩) (fun w hC hG hS => settle_of (r2 := ?_) ?_ ?_) ?_
        rotate_left
        (first | (go_simp; done) | (go_simp; rfl))
        · refine settle_enter ((Hp.out _ hS).mono ?_)
          rintro e w6 ⟨v, rfl, ho6, hc6⟩
          rw [hN] at ho6
          obtain ⟨A6, d6, rfl, _, _, hr6, _⟩ := ho6.open_
          exact ⟨_, rfl, ⟨A6, d6, rfl⟩, hc6, ⟨hS.non hc6, fun _ => ⟨A6, d6, rfl, hr6⟩⟩, fun _ => ⟨A6, d6, rfl, hr6⟩⟩
        rintro v hv
        obtain ⟨A6, d6, rfl⟩ : ∃ A c, v = .slice A nA c := hv
        simp only [Act.put, List.setIfInBounds_toArray, List.set_cons_succ, List.set_cons_zero]
        repeat (first | (refine st_pass (by rfl) ?_; simp only [Act.put, List.setIfInBounds_toArray, List.set_cons_succ, List.set_cons_zero]) | (refine st_plain (Non) (wz) rfl rfl (f := ?_) (by rfl) rfl rfl (fun w hC hG => ?_) ?_; rotate_left; (clear hG; first | (go_simp; done) | (go_simp; with_reducible rfl) | (simp [*, go_sem, ↓IntWalk.iteOmega]; done) | (simp [*, go_sem, ↓IntWalk.iteOmega]; with_reducible rfl)); simp only [Act.put, List.setIfInBounds_toArray, List.set_cons_succ, List.set_cons_zero]))
        refine st_major (Non) (wz) rfl rfl (by rfl) rfl (⟨_, rfl⟩) (fun _ _ _ _ _ _ h => by cases h) (fun v wx ob h => ⟨h.1.non ((Chg.refl _ wx).alloc ob), fun e => by cases e⟩) (fun w hC hG hS => settle_of (r2 := ?_) ?_ ?_) ?_
        rotate_left
        (first | (go_simp; done) | (go_simp; rfl))
        · have hK : (True → ∃ A c, Value.slice A6 nA d6 = .slice A nA c ∧ Rds w 3 A nA (cv T)) := hG 3 rfl
          obtain ⟨A7, d7, e7, hr7⟩ := hK trivial
          injection e7 with e8 e9 e10
          subst e8 e10
          have hS : BL wo FL F G g mw s2 T T (dW W) W n f q w ∧ _ := hS
          refine settle_enter ((commits_same w A6 nA d6 A cA T hr7 (Hr.out w hC) (by omega)).mono ?_)
          rintro e w6 ⟨rfl, hc6⟩
          exact ⟨_, rfl, rfl, hc6, ⟨hS.1.non hc6, fun e => by cases e⟩, fun e => by cases e⟩
        rintro v hv
        obtain rfl : v = .bool true := hv
        simp only [Act.put, List.setIfInBounds_toArray, List.set_cons_succ, List.set_cons_zero]
        repeat (first | (refine st_pass (by rfl) ?_; simp only [Act.put, List.setIfInBounds_toArray, List.set_cons_succ, List.set_cons_zero]) | (refine st_plain (Non) (wz) rfl rfl (f := ?_) (by rfl) rfl rfl (fun w hC hG => ?_) ?_; rotate_left; (clear hG; first | (go_simp; done) | (go_simp; with_reducible rfl) | (simp [*, go_sem, ↓IntWalk.iteOmega]; done) | (simp [*, go_sem, ↓IntWalk.iteOmega]; with_reducible rfl)); simp only [Act.put, List.setIfInBounds_toArray, List.set_cons_succ, List.set_cons_zero]))
        refine st_end Non wz rfl rfl (fun w6 hC6 hS6 hG6 => ?_)
        clear hG6 hS6
        go_wp2_with fail
        go_ret
        exact ⟨rfl, hC0.non hC6⟩

set_option maxRecDepth 100000 in
set_option maxHeartbeats 4000000 in
theorem ledgerPlays_walk (w : World) (A2 : Option Addr) (m c2 : Nat) (e2 : Rd Try.prog w 49 (Value.slice A2 m c2).cells.toList) :
    Calls Try.prog 5 #[.slice A2 m c2] w fun e w2 => e = .returned (.bool true) ∧ Chg Non w w2 := by
  obtain ⟨A', n', c', X, i1, i2, i3, i4, i5⟩ := Rd.acts e2
  simp only [Value.cells, List.cons.injEq, and_true, Value.slice.injEq] at i1
  obtain ⟨rfl, rfl, rfl⟩ := i1
  by_cases hn : m ≤ 200
  · exact ledgerPlays_core w A2 m c2 X i4 i5 hn
  · clear i4 i5
    unfold maxLen at i3
    have k1 : 200 < m := by omega
    clear hn
    go_enter Try.func5, Try.ntmps5
    go_wp2_with fail
    refine (led_alive _).mono ?_
    rintro e w1 ⟨rfl, hc1⟩
    go_wp2_with fail
    go_ret
    exact ⟨rfl, hc1⟩
end Go.Proofs.Ytdcfnhggedeeiaa
