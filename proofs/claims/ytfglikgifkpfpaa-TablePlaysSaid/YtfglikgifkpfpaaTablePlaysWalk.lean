/-
  gleanerlaw16.TablePlays: the walk.
-/
import Derived.Test.YtfglikgifkpfpaaTabBoth
import Derived.Test.YtfglikgifkpfpaaRdRows
import Derived.Deep.CutBlock
namespace Go.Proofs.Ytfglikgifkpfpaa
open Go.ChangeShapes Go.WideShapes Go.ChangeAt Go.RowKit Go.Deep
set_option linter.unusedVariables false
set_option linter.unusedSimpArgs false

/-- A call, as it lies. -/
structure Ac where
  way : Int
  nm : ByteArray
  on : ByteArray
  A : Option Addr
  n : Nat
  c : Nat
  L : List ByteArray
def cellA (a : Ac) : List Value := [.int .i64 a.way, .string a.nm, .string a.on, .slice a.A a.n a.c]
theorem cellA_len (a : Ac) : (cellA a).length = 4 := rfl
structure Ac.ok (w : World) (a : Ac) : Prop where
  cm : a.c ≤ maxLen
  nc : a.n ≤ a.c
  rds : Rds w 1 a.A a.n (sv a.L)
  L : ∀ x ∈ a.L, x.size ≤ maxLen
  nm : a.nm.size ≤ maxLen
  on : a.on.size ≤ maxLen
theorem Rd.ids {w : World} {l : List Value} (h : Rd Try.prog w 26 l) :
    ∃ A n c L, l = [.slice A n c] ∧ n ≤ c ∧ c ≤ maxLen ∧ Rds w 1 A n (sv L) ∧ ∀ x ∈ L, x.size ≤ maxLen := by
  obtain ⟨A, n, c, vs, h1, h2, h3, h4, h5⟩ := h.slice1 Try.underlying26 (by kernel_rfl)
  obtain ⟨l, rfl, hl⟩ := all_map (f := Value.string) (Q := fun x : ByteArray => x.size ≤ maxLen) (vs := vs) fun u hu => by
    obtain ⟨s, h1, h2⟩ := (h5 u hu).string Try.underlying27
    simp only [List.cons.injEq, and_true] at h1
    exact ⟨s, h1, h2⟩
  exact ⟨A, n, c, l, h1, h2, h3, h4, hl⟩
theorem Rd.act {w : World} {l : List Value} (h : Rd Try.prog w 55 l) (hl : l.length = 4) : ∃ a : Ac, l = cellA a ∧ a.ok w := by
  obtain ⟨_, hg⟩ := h.struct Try.underlying55 (by kernel_rfl)
  match l, hl, hg with
  | [a, b, c, d], _, hg =>
    obtain ⟨x0, h0, k0⟩ := (hg 0 _ rfl a rfl).i64 Try.underlying3
    obtain ⟨x1, h1, k1⟩ := (hg 1 _ rfl b rfl).string Try.underlying27
    obtain ⟨x2, h2, k2⟩ := (hg 2 _ rfl c rfl).string Try.underlying27
    obtain ⟨A, n, c4, L, h4, m1, m2, m3, m4⟩ := (hg 3 _ rfl d rfl).ids
    simp only [List.cons.injEq, and_true] at h0 h1 h2 h4
    subst h0 h1 h2 h4
    exact ⟨⟨x0, x1, x2, A, n, c4, L⟩, rfl, m2, m1, m3, m4, k1, k2⟩
theorem Rd.acts {w : World} {cs : List Value} (h : Rd Try.prog w 49 cs) :
    ∃ A n c, ∃ X : List Ac, cs = [.slice A n c] ∧ n ≤ c ∧ c ≤ maxLen ∧ Rds w 4 A n (X.flatMap cellA) ∧ ∀ a ∈ X, a.ok w :=
  h.rows Try.underlying49 (by kernel_rfl) cellA_len fun l hl hr => hr.act hl

/-- What lies where between two calls. -/
def BothT (w0 : World) (g r k : Nat) (wr : World) : Prop := ∃ (F G : Nat → Prop) (t : TrS), BT w0 F G g r t t wr ∧ t.ok ∧ t.len ≤ k
theorem num_any (x : Int) (w : World) : Calls Try.prog 14 #[.int .i64 x] w fun e w2 => e = .returned (.int .i64 x) ∧ w = w2 := by
  go_enter Try.func14, Try.ntmps14
  go_wp2_with fail
  go_ret
  exact ⟨rfl, rfl⟩

set_option maxRecDepth 100000 in
set_option maxHeartbeats 16000000 in
theorem tablePlays_core (wo : World) (mx : Int) (A2 : Option Addr) (m c2 : Nat) (X : List Ac) (hx : Rds wo 4 A2 m (X.flatMap cellA)) (hX : ∀ a ∈ X, a.ok wo) (hm : m ≤ 200) :
    Calls Try.prog 6 #[.int .i64 mx, .slice A2 m c2] wo fun e w2 => e = .returned (.bool true) ∧ Chg Non wo w2 := by
  have Hx := Lib.hid hx
  have HX := Lib.hid hX
  clear hx hX
  go_enter Try.func6, Try.ntmps6
  go_wp2_with fail
  refine (tb_alive _).mono ?_
  rintro e w1 ⟨rfl, hc1⟩
  go_wp2_with fail
  refine (tbNew_any mx _).mono ?_
  rintro e w2 ⟨g, rfl, hT, hc2⟩
  rw [← TrS.new_tb] at hT
  have hs1 := hc1.size
  have hs2 := hc2.size
  have hC2 := hc1.non hc2
  obtain ⟨s2, hs⟩ : ∃ s2, w2.heap.size = s2 := ⟨_, rfl⟩
  obtain ⟨w3, hw3⟩ : ∃ w3, w2.alloc (.cells #[.int .i64 mx, .slice none 0 0, .slice none 0 0, .slice none 0 0] 53) = w3 := ⟨_, rfl⟩
  have hcA : Chg Non w2 w3 := hw3 ▸ (Chg.refl _ _).alloc _
  have h0 : BothT wo g s2 0 w3 := by
    have hb : Blk w3 s2 53 #[.int .i64 mx, .slice none 0 0, .slice none 0 0, .slice none 0 0] := hw3 ▸ hs ▸ Blk.new _ _ _
    refine ⟨_, _, ⟨[], [], [], mx⟩, ⟨hT.non hcA, ⟨none, 0, 0, none, 0, 0, none, 0, 0, ⟨rfl, rfl, rfl, hb, OwnR.nil _ _ _, OwnR.nil _ _ _, OwnR.nil _ _ _, (fun b hb => by cases hb)⟩, rfl⟩, (fun b hq => Nat.le_trans hs1 hq.1), ?_, ?_, hC2.non hcA⟩, TrS.new_ok mx, Nat.le_refl _⟩
    · rintro b (rfl | hb | hb | hb)
      · omega
      · cases hb
      · cases hb
      · cases hb
    · rintro b hq (rfl | hb2 | hb2 | hb2)
      · have := hq.2; omega
      · cases hb2
      · cases hb2
      · cases hb2
  have hs23 : s2 < w3.heap.size := by rw [← hw3]; simp; omega
  have hg3 : g < w3.heap.size := by obtain ⟨_, _, _, h, _⟩ := h0; obtain ⟨⟨_, _, _, _, _, _, hb, _⟩, _⟩ := h.tb; exact hb.lt
  clear hT hc1 hc2 hcA hC2 hs1 hs2
  go_wp2_with fail
  go_loopw [8] (fun i wr => ∃ k : Nat, k ≤ m ∧ i = .int .i64 k ∧ BothT wo g s2 k wr) (fun i _ => m - (intOf i).toNat)
  case atStart => exact ⟨0, Nat.zero_le _, rfl, h0⟩
  case round =>
    clear h0 hw3 hs
    obtain ⟨k, hk, rfl, hbb⟩ := hrel
    obtain ⟨wz, rfl⟩ : ∃ wz, wz = wr := ⟨_, rfl⟩
    obtain ⟨F, G, t, hB, hok, hlen⟩ := hbb
    by_cases hlt : k < m
    · obtain ⟨ad, a, rfl, ha, hc0, hcN⟩ := Hx.out.getN cellA_len (by decide) hlt
      have hao := HX.out a (List.mem_of_getElem? ha)
      have hC := hB.chg
      have d0 := hC.cell (hc0 _ rfl) id
      have d1 : wz.cell? ⟨(ad.add (k * 4)).block, (ad.add (k * 4)).off + 1, none⟩ = some (.string a.nm) := hC.cell (hcN 0 _ rfl) id
      have d2 : wz.cell? ⟨(ad.add (k * 4)).block, (ad.add (k * 4)).off + 2, none⟩ = some (.string a.on) := hC.cell (hcN 1 _ rfl) id
      have d3 : wz.cell? ⟨(ad.add (k * 4)).block, (ad.add (k * 4)).off + 3, none⟩ = some (.slice a.A a.n a.c) := hC.cell (hcN 2 _ rfl) id
      clear hc0 hcN ha
      obtain ⟨way, nm, on, An, nn, cn, Ln⟩ := a
      simp only at d0 d1 d2 d3
      have Hrn := Lib.hid hao.rds
      have hnc : nn ≤ 9223372036854775807 := by have h1 := hao.nc; have h2 := hao.cm; unfold maxLen at h2; simp only at h1 h2; omega
      have hLz : ∀ x ∈ Ln, x.size ≤ 9223372036854775807 := hao.L
      have HLz := Lib.hid hLz
      have hnmz : nm.size ≤ 9223372036854775807 := hao.nm
      have honz : on.size ≤ 9223372036854775807 := hao.on
      obtain ⟨wA, hwA⟩ : ∃ wA, wz.alloc (.cells #[.int .i64 way, .string nm, .string on, .slice An nn cn] 55) = wA := ⟨_, rfl⟩
      have hbx : Blk wA wz.heap.size 55 #[.int .i64 way, .string nm, .string on, .slice An nn cn] := hwA ▸ Blk.new _ _ _
      have hCA : Chg Non wz wA := hwA ▸ (Chg.refl _ _).alloc _
      have hbl := World.block_lt_of_cell? wz _ d0
      rw [block_add] at hbl
      have hBA := hB.non hCA
      have hCw := hBA.chg
      have hrnA := Hrn.out.non hCw
      have hbxF : ¬ F wz.heap.size := fun h => by have := hB.tb.lt _ h; omega
      have hbxG : ¬ G wz.heap.size := fun h => by have := hB.rt.lt _ h; omega
      have hAF : ∀ K : Nat → Prop, (∀ b, K b → wo.heap.size ≤ b) → 0 < nn → ∀ ad, An = some ad → ¬ K ad.block := by
        intro K hK h0 ad e h
        obtain ⟨ad2, y, e2, _, hcy⟩ := Hrn.out.getS h0
        rw [e] at e2
        obtain rfl := Option.some.inj e2
        have h1 := World.block_lt_of_cell? wo _ hcy
        rw [block_add] at h1
        have := hK _ h
        omega
      have HAF := Lib.hid hAF
      have hnames := names_any wA An nn cn Ln hrnA hnc hLz
      have x0 : wA.cell? ⟨wz.heap.size, 0, none⟩ = some (.int .i64 way) := hbx.cell 0
      have x1 : wA.cell? ⟨wz.heap.size, 1, none⟩ = some (.string nm) := hbx.cell 1
      have x2 : wA.cell? ⟨wz.heap.size, 2, none⟩ = some (.string on) := hbx.cell 2
      have x3 : wA.cell? ⟨wz.heap.size, 3, none⟩ = some (.slice An nn cn) := hbx.cell 3
      have hbxl := hbx.lt
      clear hao hC hB hCA hAF hLz hrnA
      by_cases hsh : namesB Ln = true ∧ nm.size ≤ 100 ∧ on.size ≤ 100
      case neg =>
        have hex : namesB Ln = false ∨ (namesB Ln = true ∧ 100 < nm.size) ∨ (namesB Ln = true ∧ nm.size ≤ 100 ∧ 100 < on.size) := by
          cases h1 : namesB Ln with
          | false => exact .inl rfl
          | true =>
            by_cases h2 : nm.size ≤ 100
            · by_cases h3 : on.size ≤ 100
              · exact absurd ⟨h1, h2, h3⟩ hsh
              · exact .inr (.inr ⟨rfl, h2, by omega⟩)
            · exact .inr (.inl ⟨rfl, by omega⟩)
        clear hsh hBA hbx hok
        rcases hex with h1 | ⟨h1, h2⟩ | ⟨h1, h2, h3⟩
        all_goals
          rw [h1] at hnames
          have H1 := Lib.hid h1
          clear h1
          go_wp2_with fail
          refine hnames.mono ?_
          rintro e w9 ⟨rfl, rfl⟩
          go_wp2_with fail
          go_ret
          exact ⟨rfl, hCw⟩
      case pos =>
      obtain ⟨h1, h2, h3⟩ := hsh
      rw [h1] at hnames
      have Hnb := Lib.hid h1
      have hnn : nn ≤ 100 := by have := (namesB_true.1 h1).1; have h9 : nn = Ln.length := Hrn.out.lenMap (f := Value.string); omega
      clear h1
      go_wp2_with fail
      refine hnames.mono ?_
      rintro e w9 ⟨rfl, rfl⟩
      clear hnames hwA d0 d1 d2 d3
      go_upto_block 2 with (fail)
      go_cut [11, 12, 13, 14, 15, 16, 17, 18, 19, 20] from 38 to 221 (fun v _ _ _ _ _ _ _ _ _ wx => v = .bool true ∧ BothT wo g s2 (k + 1) wx)
      case first =>
        have hcase : way = 0 ∨ way = 1 ∨ way = 2 ∨ way = 3 ∨ way = 4 ∨ way = 5 ∨ ((way == 0) = false ∧ (way == 1) = false ∧ (way == 2) = false ∧ (way == 3) = false ∧ (way == 4) = false ∧ (way == 5) = false) := by
          simp only [beq_eq_false_iff_ne]
          omega
        rcases hcase with rfl | rfl | rfl | rfl | rfl | rfl | ⟨e0, e1, e2, e3, e4, e5⟩
        · as_aux_lemma =>
            obtain ⟨hb, hhb⟩ : ∃ hb, t.addE nm = hb := ⟨_, rfl⟩
            obtain ⟨NEW, hnew⟩ : ∃ NEW, (if t.addE nm = 0 then t.add nm else t) = NEW := ⟨_, rfl⟩
            have hokn : NEW.ok := hnew ▸ hok.addE nm h2
            have hlenn : NEW.len ≤ k + 1 := by have h9 := t.addE_len nm; rw [hnew] at h9; omega
            have Hp := Lib.hid (fun (wx : World) (hS : BT wo F G g s2 t t wx) => (show Calls Try.prog _ _ wx (TbPost wx F g (.int .i64 hb) NEW) from hhb ▸ hnew ▸ pAdd wx F g t nm hS.tb (by omega) (by omega)))
            have Hr := Lib.hid (fun (wx : World) (F2 : Nat → Prop) (hS : BT wo F2 G g s2 NEW t wx) => (show Calls Try.prog _ _ wx (RtPost wx G s2 (.int .i64 hb) NEW) from hhb ▸ hnew ▸ rAdd wx G s2 t nm hS.rt (by omega) (by omega)))
            have hbb : (hb == hb) = true := beq_self_eq_true _
            have y1 : ∀ wx, Chg (fun b => F b ∨ G b) wA wx → wx.cell? ⟨wz.heap.size, 1, none⟩ = some (.string nm) := fun wx h => h.cell (hbx.cell 1) (fun e => e.elim hbxF hbxG)
            have y2 : ∀ wx, Chg (fun b => F b ∨ G b) wA wx → wx.cell? ⟨wz.heap.size, 2, none⟩ = some (.string on) := fun wx h => h.cell (hbx.cell 2) (fun e => e.elim hbxF hbxG)
            clear hhb hnew
            go_wp2_with fail
            refine st_region 8 (fun b => F b ∨ G b) [3, 4, 8] [] (fun i _ _ wx => if i = 8 then ∃ F2 G2, BT wo F2 G2 g s2 NEW NEW wx else ∃ F2, BT wo F2 G g s2 NEW t wx) (fun _ _ _ _ => True) (fun _ _ v => v = .int .i64 hb) (fun wx => BT wo F G g s2 t t wx) (by kernel_rfl) (by kernel_rfl) (fun b h => h.elim (hBA.tb.lt b) (hBA.rt.lt b)) (hBA.non (Chg.refl _ _).drew) (fun wx ob h => h.non ((Chg.refl _ wx).alloc ob)) ?_
            repeat (first | (refine st_pass (by rfl) ?_; simp only [Act.put, List.setIfInBounds_toArray, List.set_cons_succ, List.set_cons_zero]) | (refine st_plain (fun b => F b ∨ G b) (wA) rfl rfl (f := ?_) (by rfl) rfl rfl (fun w hC hG => ?_) ?_; rotate_left; (clear hG; first | (go_simp; done) | (go_simp; with_reducible rfl) | (simp [*, go_sem, ↓IntWalk.iteOmega]; done) | (simp [*, go_sem, ↓IntWalk.iteOmega]; with_reducible rfl)); simp only [Act.put, List.setIfInBounds_toArray, List.set_cons_succ, List.set_cons_zero]))
            refine st_major (fun b => F b ∨ G b) (wA) rfl rfl (by rfl) rfl (⟨_, rfl⟩) (fun _ _ _ _ _ _ => trivial) (fun v wx ob h => h.imp fun F2 h => h.non ((Chg.refl _ wx).alloc ob)) (fun w hC hG hS => settle_of (r2 := ?_) ?_ ?_) ?_
            rotate_left
            (first | (go_simp; done) | (go_simp; rfl))
            · refine settle_enter ((Hp.out _ hS).mono ?_)
              rintro e w6 ⟨rfl, F2, hT6, hF6, hc6⟩
              exact ⟨_, rfl, rfl, hc6.mono fun b e => .inl e, ⟨F2, BT.prog hS hT6 hF6 hc6⟩, trivial⟩
            rintro v rfl
            simp only [Act.put, List.setIfInBounds_toArray, List.set_cons_succ, List.set_cons_zero]
            repeat (first | (refine st_pass (by rfl) ?_; simp only [Act.put, List.setIfInBounds_toArray, List.set_cons_succ, List.set_cons_zero]) | (refine st_plain (fun b => F b ∨ G b) (wA) rfl rfl (f := ?_) (by rfl) rfl rfl (fun w hC hG => ?_) ?_; rotate_left; (clear hG; first | (go_simp; done) | (go_simp; with_reducible rfl) | (simp [*, go_sem, ↓IntWalk.iteOmega]; done) | (simp [*, go_sem, ↓IntWalk.iteOmega]; with_reducible rfl)); simp only [Act.put, List.setIfInBounds_toArray, List.set_cons_succ, List.set_cons_zero]))
            refine st_major (fun b => F b ∨ G b) (wA) rfl rfl (by rfl) rfl (⟨_, rfl⟩) (fun _ _ _ _ _ _ => trivial) (fun v wx ob h => h.imp fun F2 h => h.non ((Chg.refl _ wx).alloc ob)) (fun w hC hG hS => settle_of (r2 := ?_) ?_ ?_) ?_
            rotate_left
            (first | (go_simp; done) | (go_simp; rfl))
            · refine settle_enter ((num_any _ _).mono ?_)
              rintro e w6 ⟨rfl, rfl⟩
              exact ⟨_, rfl, rfl, Chg.refl _ _, hS, trivial⟩
            rintro v rfl
            simp only [Act.put, List.setIfInBounds_toArray, List.set_cons_succ, List.set_cons_zero]
            repeat (first | (refine st_pass (by rfl) ?_; simp only [Act.put, List.setIfInBounds_toArray, List.set_cons_succ, List.set_cons_zero]) | (refine st_plain (fun b => F b ∨ G b) (wA) rfl rfl (f := ?_) (by rfl) rfl rfl (fun w hC hG => ?_) ?_; rotate_left; (clear hG; first | (go_simp; done) | (go_simp; with_reducible rfl) | (simp [*, go_sem, ↓IntWalk.iteOmega]; done) | (simp [*, go_sem, ↓IntWalk.iteOmega]; with_reducible rfl)); simp only [Act.put, List.setIfInBounds_toArray, List.set_cons_succ, List.set_cons_zero]))
            refine st_major (fun b => F b ∨ G b) (wA) rfl rfl (by rfl) rfl (⟨_, rfl⟩) (fun _ _ _ _ _ _ => trivial) (fun v wx ob h => h.imp fun F2 h => h.imp fun G2 h => h.non ((Chg.refl _ wx).alloc ob)) (fun w hC hG hS => settle_of (r2 := ?_) ?_ ?_) ?_
            rotate_left
            (first | (go_simp; done) | (go_simp; rfl))
            · have hS2 : ∃ F2, BT wo F2 G g s2 NEW t _ := hS
              obtain ⟨F2, hS2⟩ := hS2
              refine settle_enter ((Hr.out _ F2 hS2).mono ?_)
              rintro e w6 ⟨rfl, G2, hT6, hG6, hc6⟩
              exact ⟨_, rfl, rfl, hc6.mono fun b e => .inr e, ⟨F2, G2, hS2.ref hT6 hG6 hc6⟩, trivial⟩
            rintro v rfl
            simp only [Act.put, List.setIfInBounds_toArray, List.set_cons_succ, List.set_cons_zero]
            repeat (first | (refine st_pass (by rfl) ?_; simp only [Act.put, List.setIfInBounds_toArray, List.set_cons_succ, List.set_cons_zero]) | (refine st_plain (fun b => F b ∨ G b) (wA) rfl rfl (f := ?_) (by rfl) rfl rfl (fun w hC hG => ?_) ?_; rotate_left; (clear hG; first | (go_simp; done) | (go_simp; with_reducible rfl) | (simp [*, go_sem, ↓IntWalk.iteOmega]; done) | (simp [*, go_sem, ↓IntWalk.iteOmega]; with_reducible rfl)); simp only [Act.put, List.setIfInBounds_toArray, List.set_cons_succ, List.set_cons_zero]))
            refine st_end (fun b => F b ∨ G b) wA rfl rfl (fun w6 hC6 hS6 hG6 => ?_)
            have hS7 : ∃ F2 G2, BT wo F2 G2 g s2 NEW NEW w6 := hS6
            clear hG6 hS6 y1 y2
            obtain ⟨F2, G2, hB6⟩ := hS7
            go_wp2_with fail
            go_meet
            exact ⟨rfl, F2, G2, NEW, hB6, hokn, hlenn⟩
        · as_aux_lemma =>
            rcases List.eq_nil_or_concat t.R with hR | ⟨R, z, hR⟩
            · go_wp2_with fail
              refine (tbNext_no wA F g t.tb hBA.tb hR).mono ?_
              rintro e w5 ⟨rfl, rfl⟩
              go_wp2_with fail
              refine (rtNext_no wA G s2 t hBA.rt hR).mono ?_
              rintro e w5 ⟨rfl, rfl⟩
              clear hR
              go_wp2_with fail
              go_meet
              exact ⟨rfl, F, G, t, hBA, hok, by omega⟩
            · have hR : t.R = R ++ [z] := by rw [hR]; simp
              have hl9 : t.len = t.R.length + t.G.length + t.P.length := rfl
              have hz : z.size ≤ maxLen := by have := hok.small z (by rw [hR]; simp); unfold maxLen; omega
              have hokn := hok.next hR
              have hlenn : (({ t with R := R, G := riseS z t.G } : TrS)).len ≤ k + 1 := by
                show R.length + (riseS z t.G).length + t.P.length ≤ _
                rw [rise_len (hok.RG (by rw [hR]; simp))]; rw [hR, List.length_append, List.length_singleton] at hl9; omega
              have zz : (z.toList == z.toList) = true := beq_self_eq_true _
              have HR := Lib.hid hR
              have Hok := Lib.hid hok
              clear hR hl9
              go_wp2_with fail
              refine (tbNext_yes wA F g t.tb R z hBA.tb HR.out hz (by show t.G.length ≤ _; have : t.len = t.R.length + t.G.length + t.P.length := rfl; omega)).mono ?_
              rintro e w5 ⟨rfl, hT5, hc5⟩
              rw [← TrS.next_tb Hok.out HR.out] at hT5
              have hB5 := hBA.prog hT5 (fun b h => .inl h) hc5
              clear hT5 hc5
              go_wp2_with fail
              refine (rtNext_yes w5 G s2 t R z hB5.rt HR.out (by omega)).mono ?_
              rintro e w6 ⟨rfl, G2, hT6, hG6, hc6⟩
              have hB6 := hB5.ref hT6 hG6 hc6
              clear hT6 hG6 hc6 hB5
              go_wp2_with fail
              go_meet
              exact ⟨rfl, F, G2, _, hB6, hokn, hlenn⟩
        · as_aux_lemma =>
            obtain ⟨hb, hhb⟩ : ∃ hb, hasB t.G nm = hb := ⟨_, rfl⟩
            obtain ⟨NEW, hnew⟩ : ∃ NEW, (if hasB t.G nm = true then t.back nm else t) = NEW := ⟨_, rfl⟩
            have hokn : NEW.ok := hnew ▸ hok.backs nm
            have hlenn : NEW.len ≤ k + 1 := by have h9 := t.backs_len nm; rw [hnew] at h9; omega
            have Hp := Lib.hid (fun (wx : World) (hS : BT wo F G g s2 t t wx) => (show Calls Try.prog _ _ wx (TbPost wx F g (.bool hb) NEW) from hhb ▸ hnew ▸ pBack wx F g t nm hS.tb hok (by omega) (by omega)))
            have Hr := Lib.hid (fun (wx : World) (F2 : Nat → Prop) (hS : BT wo F2 G g s2 NEW t wx) => (show Calls Try.prog _ _ wx (RtPost wx G s2 (.bool hb) NEW) from hhb ▸ hnew ▸ rBack wx G s2 t nm hS.rt (by omega)))
            have hbb : (hb == hb) = true := beq_self_eq_true _
            have y1 : ∀ wx, Chg (fun b => F b ∨ G b) wA wx → wx.cell? ⟨wz.heap.size, 1, none⟩ = some (.string nm) := fun wx h => h.cell (hbx.cell 1) (fun e => e.elim hbxF hbxG)
            have y2 : ∀ wx, Chg (fun b => F b ∨ G b) wA wx → wx.cell? ⟨wz.heap.size, 2, none⟩ = some (.string on) := fun wx h => h.cell (hbx.cell 2) (fun e => e.elim hbxF hbxG)
            clear hhb hnew
            go_wp2_with fail
            refine st_region 8 (fun b => F b ∨ G b) [3, 7] [] (fun i _ _ wx => if i = 7 then ∃ F2 G2, BT wo F2 G2 g s2 NEW NEW wx else ∃ F2, BT wo F2 G g s2 NEW t wx) (fun _ _ _ _ => True) (fun _ _ v => v = .bool hb) (fun wx => BT wo F G g s2 t t wx) (by kernel_rfl) (by kernel_rfl) (fun b h => h.elim (hBA.tb.lt b) (hBA.rt.lt b)) (hBA.non (Chg.refl _ _).drew) (fun wx ob h => h.non ((Chg.refl _ wx).alloc ob)) ?_
            repeat (first | (refine st_pass (by rfl) ?_; simp only [Act.put, List.setIfInBounds_toArray, List.set_cons_succ, List.set_cons_zero]) | (refine st_plain (fun b => F b ∨ G b) (wA) rfl rfl (f := ?_) (by rfl) rfl rfl (fun w hC hG => ?_) ?_; rotate_left; (clear hG; first | (go_simp; done) | (go_simp; with_reducible rfl) | (simp [*, go_sem, ↓IntWalk.iteOmega]; done) | (simp [*, go_sem, ↓IntWalk.iteOmega]; with_reducible rfl)); simp only [Act.put, List.setIfInBounds_toArray, List.set_cons_succ, List.set_cons_zero]))
            refine st_major (fun b => F b ∨ G b) (wA) rfl rfl (by rfl) rfl (⟨_, rfl⟩) (fun _ _ _ _ _ _ => trivial) (fun v wx ob h => h.imp fun F2 h => h.non ((Chg.refl _ wx).alloc ob)) (fun w hC hG hS => settle_of (r2 := ?_) ?_ ?_) ?_
            rotate_left
            (first | (go_simp; done) | (go_simp; rfl))
            · refine settle_enter ((Hp.out _ hS).mono ?_)
              rintro e w6 ⟨rfl, F2, hT6, hF6, hc6⟩
              exact ⟨_, rfl, rfl, hc6.mono fun b e => .inl e, ⟨F2, BT.prog hS hT6 hF6 hc6⟩, trivial⟩
            rintro v rfl
            simp only [Act.put, List.setIfInBounds_toArray, List.set_cons_succ, List.set_cons_zero]
            repeat (first | (refine st_pass (by rfl) ?_; simp only [Act.put, List.setIfInBounds_toArray, List.set_cons_succ, List.set_cons_zero]) | (refine st_plain (fun b => F b ∨ G b) (wA) rfl rfl (f := ?_) (by rfl) rfl rfl (fun w hC hG => ?_) ?_; rotate_left; (clear hG; first | (go_simp; done) | (go_simp; with_reducible rfl) | (simp [*, go_sem, ↓IntWalk.iteOmega]; done) | (simp [*, go_sem, ↓IntWalk.iteOmega]; with_reducible rfl)); simp only [Act.put, List.setIfInBounds_toArray, List.set_cons_succ, List.set_cons_zero]))
            refine st_major (fun b => F b ∨ G b) (wA) rfl rfl (by rfl) rfl (⟨_, rfl⟩) (fun _ _ _ _ _ _ => trivial) (fun v wx ob h => h.imp fun F2 h => h.imp fun G2 h => h.non ((Chg.refl _ wx).alloc ob)) (fun w hC hG hS => settle_of (r2 := ?_) ?_ ?_) ?_
            rotate_left
            (first | (go_simp; done) | (go_simp; rfl))
            · have hS2 : ∃ F2, BT wo F2 G g s2 NEW t _ := hS
              obtain ⟨F2, hS2⟩ := hS2
              refine settle_enter ((Hr.out _ F2 hS2).mono ?_)
              rintro e w6 ⟨rfl, G2, hT6, hG6, hc6⟩
              exact ⟨_, rfl, rfl, hc6.mono fun b e => .inr e, ⟨F2, G2, hS2.ref hT6 hG6 hc6⟩, trivial⟩
            rintro v rfl
            simp only [Act.put, List.setIfInBounds_toArray, List.set_cons_succ, List.set_cons_zero]
            repeat (first | (refine st_pass (by rfl) ?_; simp only [Act.put, List.setIfInBounds_toArray, List.set_cons_succ, List.set_cons_zero]) | (refine st_plain (fun b => F b ∨ G b) (wA) rfl rfl (f := ?_) (by rfl) rfl rfl (fun w hC hG => ?_) ?_; rotate_left; (clear hG; first | (go_simp; done) | (go_simp; with_reducible rfl) | (simp [*, go_sem, ↓IntWalk.iteOmega]; done) | (simp [*, go_sem, ↓IntWalk.iteOmega]; with_reducible rfl)); simp only [Act.put, List.setIfInBounds_toArray, List.set_cons_succ, List.set_cons_zero]))
            refine st_end (fun b => F b ∨ G b) wA rfl rfl (fun w6 hC6 hS6 hG6 => ?_)
            have hS7 : ∃ F2 G2, BT wo F2 G2 g s2 NEW NEW w6 := hS6
            clear hG6 hS6 y1 y2
            obtain ⟨F2, G2, hB6⟩ := hS7
            go_wp2_with fail
            go_meet
            exact ⟨rfl, F2, G2, NEW, hB6, hokn, hlenn⟩
        · as_aux_lemma =>
            obtain ⟨hb, hhb⟩ : ∃ hb, (vid on && hasB t.G nm) = hb := ⟨_, rfl⟩
            obtain ⟨NEW, hnew⟩ : ∃ NEW, (if (vid on && hasB t.G nm) = true then t.parks nm on else t) = NEW := ⟨_, rfl⟩
            have hokn : NEW.ok := hnew ▸ hok.parkss nm on
            have hlenn : NEW.len ≤ k + 1 := by have h9 := t.parkss_len nm on; rw [hnew] at h9; omega
            have Hp := Lib.hid (fun (wx : World) (hS : BT wo F G g s2 t t wx) => (show Calls Try.prog _ _ wx (TbPost wx F g (.bool hb) NEW) from hhb ▸ hnew ▸ pPark wx F g t nm on hS.tb hok (by omega) (by omega)))
            have Hr := Lib.hid (fun (wx : World) (F2 : Nat → Prop) (hS : BT wo F2 G g s2 NEW t wx) => (show Calls Try.prog _ _ wx (RtPost wx G s2 (.bool hb) NEW) from hhb ▸ hnew ▸ rPark wx G s2 t nm on hS.rt (by omega) (by omega)))
            have hbb : (hb == hb) = true := beq_self_eq_true _
            have y1 : ∀ wx, Chg (fun b => F b ∨ G b) wA wx → wx.cell? ⟨wz.heap.size, 1, none⟩ = some (.string nm) := fun wx h => h.cell (hbx.cell 1) (fun e => e.elim hbxF hbxG)
            have y2 : ∀ wx, Chg (fun b => F b ∨ G b) wA wx → wx.cell? ⟨wz.heap.size, 2, none⟩ = some (.string on) := fun wx h => h.cell (hbx.cell 2) (fun e => e.elim hbxF hbxG)
            clear hhb hnew
            go_wp2_with fail
            refine st_region 8 (fun b => F b ∨ G b) [5, 11] [] (fun i _ _ wx => if i = 11 then ∃ F2 G2, BT wo F2 G2 g s2 NEW NEW wx else ∃ F2, BT wo F2 G g s2 NEW t wx) (fun _ _ _ _ => True) (fun _ _ v => v = .bool hb) (fun wx => BT wo F G g s2 t t wx) (by kernel_rfl) (by kernel_rfl) (fun b h => h.elim (hBA.tb.lt b) (hBA.rt.lt b)) (hBA.non (Chg.refl _ _).drew) (fun wx ob h => h.non ((Chg.refl _ wx).alloc ob)) ?_
            repeat (first | (refine st_pass (by rfl) ?_; simp only [Act.put, List.setIfInBounds_toArray, List.set_cons_succ, List.set_cons_zero]) | (refine st_plain (fun b => F b ∨ G b) (wA) rfl rfl (f := ?_) (by rfl) rfl rfl (fun w hC hG => ?_) ?_; rotate_left; (clear hG; first | (go_simp; done) | (go_simp; with_reducible rfl) | (simp [*, go_sem, ↓IntWalk.iteOmega]; done) | (simp [*, go_sem, ↓IntWalk.iteOmega]; with_reducible rfl)); simp only [Act.put, List.setIfInBounds_toArray, List.set_cons_succ, List.set_cons_zero]))
            refine st_major (fun b => F b ∨ G b) (wA) rfl rfl (by rfl) rfl (⟨_, rfl⟩) (fun _ _ _ _ _ _ => trivial) (fun v wx ob h => h.imp fun F2 h => h.non ((Chg.refl _ wx).alloc ob)) (fun w hC hG hS => settle_of (r2 := ?_) ?_ ?_) ?_
            rotate_left
            (first | (go_simp; done) | (go_simp; rfl))
            · refine settle_enter ((Hp.out _ hS).mono ?_)
              rintro e w6 ⟨rfl, F2, hT6, hF6, hc6⟩
              exact ⟨_, rfl, rfl, hc6.mono fun b e => .inl e, ⟨F2, BT.prog hS hT6 hF6 hc6⟩, trivial⟩
            rintro v rfl
            simp only [Act.put, List.setIfInBounds_toArray, List.set_cons_succ, List.set_cons_zero]
            repeat (first | (refine st_pass (by rfl) ?_; simp only [Act.put, List.setIfInBounds_toArray, List.set_cons_succ, List.set_cons_zero]) | (refine st_plain (fun b => F b ∨ G b) (wA) rfl rfl (f := ?_) (by rfl) rfl rfl (fun w hC hG => ?_) ?_; rotate_left; (clear hG; first | (go_simp; done) | (go_simp; with_reducible rfl) | (simp [*, go_sem, ↓IntWalk.iteOmega]; done) | (simp [*, go_sem, ↓IntWalk.iteOmega]; with_reducible rfl)); simp only [Act.put, List.setIfInBounds_toArray, List.set_cons_succ, List.set_cons_zero]))
            refine st_major (fun b => F b ∨ G b) (wA) rfl rfl (by rfl) rfl (⟨_, rfl⟩) (fun _ _ _ _ _ _ => trivial) (fun v wx ob h => h.imp fun F2 h => h.imp fun G2 h => h.non ((Chg.refl _ wx).alloc ob)) (fun w hC hG hS => settle_of (r2 := ?_) ?_ ?_) ?_
            rotate_left
            (first | (go_simp; done) | (go_simp; rfl))
            · have hS2 : ∃ F2, BT wo F2 G g s2 NEW t _ := hS
              obtain ⟨F2, hS2⟩ := hS2
              refine settle_enter ((Hr.out _ F2 hS2).mono ?_)
              rintro e w6 ⟨rfl, G2, hT6, hG6, hc6⟩
              exact ⟨_, rfl, rfl, hc6.mono fun b e => .inr e, ⟨F2, G2, hS2.ref hT6 hG6 hc6⟩, trivial⟩
            rintro v rfl
            simp only [Act.put, List.setIfInBounds_toArray, List.set_cons_succ, List.set_cons_zero]
            repeat (first | (refine st_pass (by rfl) ?_; simp only [Act.put, List.setIfInBounds_toArray, List.set_cons_succ, List.set_cons_zero]) | (refine st_plain (fun b => F b ∨ G b) (wA) rfl rfl (f := ?_) (by rfl) rfl rfl (fun w hC hG => ?_) ?_; rotate_left; (clear hG; first | (go_simp; done) | (go_simp; with_reducible rfl) | (simp [*, go_sem, ↓IntWalk.iteOmega]; done) | (simp [*, go_sem, ↓IntWalk.iteOmega]; with_reducible rfl)); simp only [Act.put, List.setIfInBounds_toArray, List.set_cons_succ, List.set_cons_zero]))
            refine st_end (fun b => F b ∨ G b) wA rfl rfl (fun w6 hC6 hS6 hG6 => ?_)
            have hS7 : ∃ F2 G2, BT wo F2 G2 g s2 NEW NEW w6 := hS6
            clear hG6 hS6 y1 y2
            obtain ⟨F2, G2, hB6⟩ := hS7
            go_wp2_with fail
            go_meet
            exact ⟨rfl, F2, G2, NEW, hB6, hokn, hlenn⟩
        · as_aux_lemma =>
            have hwk := TrS.woken_len hok Ln
            have hokn := hok.woken Ln
            have hl9 : t.len = t.R.length + t.G.length + t.P.length := rfl
            have hwl := hok.wakes_len Ln
            have hA9 := HAF.out F hBA.Fw
            have Hok := Lib.hid hok
            have hlP : t.P.length ≤ 200 := by omega
            have hlR : t.R.length ≤ 200 := by omega
            have hlk : (t.wakes Ln).length ≤ 200 := by omega
            clear hl9 hwl
            go_wp2_with fail
            refine (tbWake_any wA F g t.tb An nn cn Ln hBA.tb (Hrn.out.non hCw) (by omega) hA9 (by show t.P.length ≤ _; omega) (by show t.R.length ≤ _; omega)).mono ?_
            rintro e w5 ⟨v5, W, F2, rfl, hWr, hWm, _, _, ho5, hT5, hF5, hv5, hc5⟩
            obtain rfl := Hok.out.wakes_eq hWr hWm
            rw [← TrS.woken_tb Hok.out] at hT5
            have hB5 := hBA.prog hT5 hF5 hc5
            have hbx5 := hbx.chg hc5 hbxF
            have x35 : w5.cell? ⟨wz.heap.size, 3, none⟩ = some (.slice An nn cn) := hbx5.cell 3
            have hbxl5 := hbx5.lt
            have hrn5 := Hrn.out.non hB5.chg
            have hs5 := hc5.size
            have hGl := hBA.rt.lt
            clear hWr hWm hT5 hF5 hc5 hbx5
            go_wp2_with fail
            refine (rtWake_any w5 G s2 t An nn cn Ln hB5.rt hrn5 (by omega) (by omega)).mono ?_
            rintro e w6 ⟨v6, m6, G2, rfl, hm6, ho6, hT6, hG6, hc6⟩
            subst hm6
            have hB6 := hB5.ref hT6 hG6 hc6
            have hv5G : ∀ b, v5.ownBlock = some b → ¬ G2 b := fun b h h2 => by
              have h9 := ho5.lt h
              rcases hG6 b h2 with h | h
              · have := hGl b h; omega
              · omega
            have ho56 := ho5.chg hc6 (fun b h h2 => by have := (ho5.lt h).1; have := hGl b h2; omega)
            obtain ⟨A5, d5, rfl, _, _, hr5, _⟩ := ho56.open_
            obtain ⟨A6, d6, rfl, _, _, hr6, _⟩ := ho6.open_
            have hsm := sameIDs_same w6 A5 _ d5 A6 d6 _ hr5 hr6 (by omega)
            have hs6 := hc6.size
            clear hT6 hG6 hc6 hr6 ho6 hB5 hr5 ho5
            go_wp2_with fail
            refine hsm.mono ?_
            rintro e w7 ⟨rfl, hc7⟩
            have hB7 := hB6.non hc7
            have ho7 := ho56.non hc7
            clear hsm hB6 hc7 ho56
            go_wp2_with fail
            refine (wipe_any w7 _ A5 _ d5 _ ho7 (by omega)).mono ?_
            rintro e w8 ⟨rfl, hc8⟩
            have hB8 := hB7.put hc8 (fun b h e => hv5 b e h) (fun b h e => hv5G b e h) (fun b e => by have h9 := (ho7.lt e).1; have := hCw.size; omega)
            go_wp2_with fail
            go_meet
            exact ⟨rfl, F2, G2, _, hB8, hokn, by omega⟩
        · as_aux_lemma =>
            rcases (show t.R = [] ∨ ∃ R z, t.R = z :: R from by cases t.R with | nil => exact .inl rfl | cons z R => exact .inr ⟨R, z, rfl⟩) with hR | ⟨R, z, hR⟩
            · go_wp2_with fail
              refine (tbSteal_no wA F g t.tb hBA.tb hR).mono ?_
              rintro e w5 ⟨rfl, rfl⟩
              go_wp2_with fail
              refine (rtSteal_no wA G s2 t hBA.rt hR).mono ?_
              rintro e w5 ⟨rfl, rfl⟩
              clear hR
              go_wp2_with fail
              go_meet
              exact ⟨rfl, F, G, t, hBA, hok, by omega⟩
            · skip
              have hl9 : t.len = t.R.length + t.G.length + t.P.length := rfl
              have hz : z.size ≤ maxLen := by have := hok.small z (by rw [hR]; simp); unfold maxLen; omega
              have hokn := hok.steal hR
              have hlenn : (({ t with R := R } : TrS)).len ≤ k + 1 := by
                show R.length + t.G.length + t.P.length ≤ _
                rw [hR, List.length_cons] at hl9; omega
              have zz : (z.toList == z.toList) = true := beq_self_eq_true _
              have HR := Lib.hid hR
              have Hok := Lib.hid hok
              clear hR hl9
              go_wp2_with fail
              refine (tbSteal_yes wA F g t.tb R z hBA.tb HR.out).mono ?_
              rintro e w5 ⟨rfl, hT5, hc5⟩
              rw [← TrS.steal_tb] at hT5
              have hB5 := hBA.prog hT5 (fun b h => .inl h) hc5
              clear hT5 hc5
              go_wp2_with fail
              refine (rtSteal_yes w5 G s2 t R z hB5.rt HR.out (by omega)).mono ?_
              rintro e w6 ⟨rfl, G2, hT6, hG6, hc6⟩
              have hB6 := hB5.ref hT6 hG6 hc6
              clear hT6 hG6 hc6 hB5
              go_wp2_with fail
              go_meet
              exact ⟨rfl, F, G2, _, hB6, hokn, hlenn⟩
        · as_aux_lemma =>
            obtain ⟨hb, hhb⟩ : ∃ hb, hasB t.G nm = hb := ⟨_, rfl⟩
            obtain ⟨NEW, hnew⟩ : ∃ NEW, (t.ends nm) = NEW := ⟨_, rfl⟩
            have hokn : NEW.ok := hnew ▸ hok.ends nm
            have hlenn : NEW.len ≤ k + 1 := by have h9 := t.ends_len nm; rw [hnew] at h9; omega
            have Hp := Lib.hid (fun (wx : World) (hS : BT wo F G g s2 t t wx) => (show Calls Try.prog _ _ wx (TbPost wx F g (.bool hb) NEW) from hhb ▸ hnew ▸ pEnd wx F g t nm hS.tb hok (by omega)))
            have Hr := Lib.hid (fun (wx : World) (F2 : Nat → Prop) (hS : BT wo F2 G g s2 NEW t wx) => (show Calls Try.prog _ _ wx (RtPost wx G s2 (.bool hb) NEW) from hhb ▸ hnew ▸ rtEnd_any wx G s2 t nm hS.rt (by omega)))
            have hbb : (hb == hb) = true := beq_self_eq_true _
            have y1 : ∀ wx, Chg (fun b => F b ∨ G b) wA wx → wx.cell? ⟨wz.heap.size, 1, none⟩ = some (.string nm) := fun wx h => h.cell (hbx.cell 1) (fun e => e.elim hbxF hbxG)
            have y2 : ∀ wx, Chg (fun b => F b ∨ G b) wA wx → wx.cell? ⟨wz.heap.size, 2, none⟩ = some (.string on) := fun wx h => h.cell (hbx.cell 2) (fun e => e.elim hbxF hbxG)
            clear hhb hnew
            go_wp2_with fail
            refine st_region 8 (fun b => F b ∨ G b) [3, 7] [] (fun i _ _ wx => if i = 7 then ∃ F2 G2, BT wo F2 G2 g s2 NEW NEW wx else ∃ F2, BT wo F2 G g s2 NEW t wx) (fun _ _ _ _ => True) (fun _ _ v => v = .bool hb) (fun wx => BT wo F G g s2 t t wx) (by kernel_rfl) (by kernel_rfl) (fun b h => h.elim (hBA.tb.lt b) (hBA.rt.lt b)) (hBA.non (Chg.refl _ _).drew) (fun wx ob h => h.non ((Chg.refl _ wx).alloc ob)) ?_
            repeat (first | (refine st_pass (by rfl) ?_; simp only [Act.put, List.setIfInBounds_toArray, List.set_cons_succ, List.set_cons_zero]) | (refine st_plain (fun b => F b ∨ G b) (wA) rfl rfl (f := ?_) (by rfl) rfl rfl (fun w hC hG => ?_) ?_; rotate_left; (clear hG; first | (go_simp; done) | (go_simp; with_reducible rfl) | (simp [*, go_sem, ↓IntWalk.iteOmega]; done) | (simp [*, go_sem, ↓IntWalk.iteOmega]; with_reducible rfl)); simp only [Act.put, List.setIfInBounds_toArray, List.set_cons_succ, List.set_cons_zero]))
            refine st_major (fun b => F b ∨ G b) (wA) rfl rfl (by rfl) rfl (⟨_, rfl⟩) (fun _ _ _ _ _ _ => trivial) (fun v wx ob h => h.imp fun F2 h => h.non ((Chg.refl _ wx).alloc ob)) (fun w hC hG hS => settle_of (r2 := ?_) ?_ ?_) ?_
            rotate_left
            (first | (go_simp; done) | (go_simp; rfl))
            · refine settle_enter ((Hp.out _ hS).mono ?_)
              rintro e w6 ⟨rfl, F2, hT6, hF6, hc6⟩
              exact ⟨_, rfl, rfl, hc6.mono fun b e => .inl e, ⟨F2, BT.prog hS hT6 hF6 hc6⟩, trivial⟩
            rintro v rfl
            simp only [Act.put, List.setIfInBounds_toArray, List.set_cons_succ, List.set_cons_zero]
            repeat (first | (refine st_pass (by rfl) ?_; simp only [Act.put, List.setIfInBounds_toArray, List.set_cons_succ, List.set_cons_zero]) | (refine st_plain (fun b => F b ∨ G b) (wA) rfl rfl (f := ?_) (by rfl) rfl rfl (fun w hC hG => ?_) ?_; rotate_left; (clear hG; first | (go_simp; done) | (go_simp; with_reducible rfl) | (simp [*, go_sem, ↓IntWalk.iteOmega]; done) | (simp [*, go_sem, ↓IntWalk.iteOmega]; with_reducible rfl)); simp only [Act.put, List.setIfInBounds_toArray, List.set_cons_succ, List.set_cons_zero]))
            refine st_major (fun b => F b ∨ G b) (wA) rfl rfl (by rfl) rfl (⟨_, rfl⟩) (fun _ _ _ _ _ _ => trivial) (fun v wx ob h => h.imp fun F2 h => h.imp fun G2 h => h.non ((Chg.refl _ wx).alloc ob)) (fun w hC hG hS => settle_of (r2 := ?_) ?_ ?_) ?_
            rotate_left
            (first | (go_simp; done) | (go_simp; rfl))
            · have hS2 : ∃ F2, BT wo F2 G g s2 NEW t _ := hS
              obtain ⟨F2, hS2⟩ := hS2
              refine settle_enter ((Hr.out _ F2 hS2).mono ?_)
              rintro e w6 ⟨rfl, G2, hT6, hG6, hc6⟩
              exact ⟨_, rfl, rfl, hc6.mono fun b e => .inr e, ⟨F2, G2, hS2.ref hT6 hG6 hc6⟩, trivial⟩
            rintro v rfl
            simp only [Act.put, List.setIfInBounds_toArray, List.set_cons_succ, List.set_cons_zero]
            repeat (first | (refine st_pass (by rfl) ?_; simp only [Act.put, List.setIfInBounds_toArray, List.set_cons_succ, List.set_cons_zero]) | (refine st_plain (fun b => F b ∨ G b) (wA) rfl rfl (f := ?_) (by rfl) rfl rfl (fun w hC hG => ?_) ?_; rotate_left; (clear hG; first | (go_simp; done) | (go_simp; with_reducible rfl) | (simp [*, go_sem, ↓IntWalk.iteOmega]; done) | (simp [*, go_sem, ↓IntWalk.iteOmega]; with_reducible rfl)); simp only [Act.put, List.setIfInBounds_toArray, List.set_cons_succ, List.set_cons_zero]))
            refine st_end (fun b => F b ∨ G b) wA rfl rfl (fun w6 hC6 hS6 hG6 => ?_)
            have hS7 : ∃ F2 G2, BT wo F2 G2 g s2 NEW NEW w6 := hS6
            clear hG6 hS6 y1 y2
            obtain ⟨F2, G2, hB6⟩ := hS7
            go_wp2_with fail
            go_meet
            exact ⟨rfl, F2, G2, NEW, hB6, hokn, hlenn⟩
      case rest =>
        clear hBA hok x0 x1 x2 x3 hbx hbxF hbxG hbxl hCw
        obtain ⟨rfl, hbb⟩ := hcut
        obtain ⟨F, G, t, hB, hok, hlen⟩ := hbb
        as_aux_lemma =>
          have hl9 : t.len = t.R.length + t.G.length + t.P.length := rfl
          have hlR : t.R.length ≤ 1000 := by omega
          have hlG : t.G.length ≤ 1000 := by omega
          have hlP : t.P.length ≤ 1000 := by omega
          have Hok := Lib.hid hok
          have hgl := (hB.tb).is
          have hgc : g < wc.heap.size := by obtain ⟨_, _, _, _, _, _, hb, _⟩ := hgl; exact hb.lt
          have hsc := hB.chg.size
          have hFl := hB.tb.lt
          have hGl := hB.rt.lt
          clear hok hl9 hgl
          go_wp2_with fail
          refine (tbReady_any wc F g t.tb hB.tb (by show t.R.length ≤ _; omega)).mono ?_
          rintro e w10 ⟨v10, rfl, ho10, hc10⟩
          have hB10 := hB.non hc10
          have hs10 := hc10.size
          have hx10 : ∀ b, v10.ownBlock = some b → b < w10.heap.size := fun b h => (ho10.lt h).2
          go_wp2_with fail
          refine (tbParked_any w10 F g t.tb hB10.tb (by show t.P.length ≤ _; omega)).mono ?_
          rintro e w11 ⟨v11, L11, rfl, hn11, hr11, hm11, _, ho11, hc11⟩
          obtain rfl := Hok.out.parked_eq hr11 hm11
          have hB11 := hB10.non hc11
          have hs11 := hc11.size
          have hx11 : ∀ b, v11.ownBlock = some b → b < w11.heap.size := fun b h => (ho11.lt h).2
          have ho10b := ho10.non hc11
          clear hr11 hm11 ho10 hB10
          go_wp2_with fail
          refine (tbGoing_any w11 F g t.tb hB11.tb (by show t.G.length ≤ _; omega)).mono ?_
          rintro e w12 ⟨v12, L12, rfl, hn12, hr12, hm12, _, ho12, hc12⟩
          obtain rfl := Hok.out.going_eq hr12 hm12
          have hB12 := hB11.non hc12
          have hs12 := hc12.size
          have ho10c := ho10b.non hc12
          have ho11c := ho11.non hc12
          clear hr12 hm12 ho10b ho11 hB11 hn12
          obtain ⟨N11, hN11⟩ : ∃ N11, t.tb.np = N11 := ⟨_, rfl⟩
          rw [hN11] at hn11 ho11c
          have Hn11 := Lib.hid hn11
          have hN11l : N11 ≤ 1000 := by have : t.P.length = N11 := hN11; omega
          have ho12 : OwnR rkI w12 w11.heap.size v12 t.G.length (sv t.G) := ho12
          have ho10c : OwnR rkI w12 wc.heap.size v10 t.R.length (sv t.R) := ho10c
          obtain ⟨A10, d10, rfl, _, _, hr10, _⟩ := ho10c.open_
          obtain ⟨A11, d11, rfl, _, _, hr11, _⟩ := ho11c.open_
          obtain ⟨A12, d12, rfl, _, _, hr12, _⟩ := ho12.open_
          obtain ⟨A, n, c, A2, n2, c2, A3, n3, c3, hrt, hGe⟩ := hB12.rt
          obtain rfl := hrt.hn.out
          obtain rfl := hrt.hn2.out
          have Hrt := Lib.hid hrt
          have k1 : w12.cell? ⟨s2, 1, none⟩ = some (.slice A t.R.length c) := hrt.hb.cell 1
          have hsl := hrt.hb.lt
          have sm1 := sameIDs_same w12 A10 _ d10 A c _ hr10 hrt.hR.rds (by omega)
          clear hrt hr10 hN11 hn11 hGe
          go_wp2_with fail
          refine sm1.mono ?_
          rintro e w13 ⟨rfl, hc13⟩
          have hB13 := hB12.non hc13
          clear sm1 k1
          go_wp2_with fail
          refine (rtParked_any w13 G s2 t hB13.rt (by omega)).mono ?_
          rintro e w14 ⟨v14, m14, rfl, hm14, ho14, hc14⟩
          obtain ⟨A14, d14, rfl, _, _, hr14, _⟩ := ho14.open_
          obtain rfl : m14 = N11 := by rw [hm14, Hn11.out]
          have hC14 := hc13.non hc14
          have sm2 := sameIDs_same w14 A11 _ d11 A14 d14 _ (hr11.non hC14) hr14 (by omega)
          have hB14 := hB13.non hc14
          clear hr14 ho14 hm14 hB13 hr11 hc13 hc14
          go_wp2_with fail
          refine sm2.mono ?_
          rintro e w15 ⟨rfl, hc15⟩
          have hC15 := hC14.non hc15
          have hB15 := hB14.non hc15
          have hrt := Hrt.out.non hC15
          have k2 : w15.cell? ⟨s2, 2, none⟩ = some (.slice A2 t.G.length c2) := hrt.hb.cell 2
          have hsl15 := hrt.hb.lt
          have sm3 := sameIDs_same w15 A12 _ d12 A2 c2 _ (hr12.non hC15) hrt.hG.rds (by omega)
          clear hrt sm2 hB14 hr12 hC14 hc15
          go_wp2_with fail
          refine sm3.mono ?_
          rintro e w16 ⟨rfl, hc16⟩
          have hC16 := hC15.non hc16
          have hB16 := hB15.non hc16
          have hs16 := hC16.size
          have hgl16 : g < w16.heap.size := by omega
          clear sm3 k2 hB15 hC15 hc16
          obtain ⟨N, hN⟩ : ∃ N, t.len = N := ⟨_, rfl⟩
          have HN := Lib.hid hN
          have hNN : ((N : Int) != (N : Int)) = false := bne_self_eq_false _
          clear hN
          go_wp2_with fail
          refine (pLen w16 F g t hB16.tb (by omega)).mono ?_
          rintro e w17 ⟨rfl, j, rfl⟩
          have hB17 := hB16.non ((Chg.refl Non w16).drewN j)
          rw [HN.out]
          go_wp2_with fail
          refine (rtLen_any _ G s2 t hB17.rt (by omega)).mono ?_
          rintro e w18 ⟨rfl, j2, rfl⟩
          have hB18 := hB17.non ((Chg.refl Non _).drewN j2)
          have hC18 : Chg Non w12 ((w16.drewN j).drewN j2) := (hC16.drewN j).drewN j2
          have ho10d := ho10c.non hC18
          have ho11d := ho11c.non hC18
          have ho12d := ho12.non hC18
          rw [HN.out]
          clear hB16 hB17 hC16 ho10c ho11c ho12 hB12 Hrt HN hC18
          obtain ⟨w18, hw18⟩ : ∃ w18, (w16.drewN j).drewN j2 = w18 := ⟨_, rfl⟩
          rw [hw18] at hB18 ho10d ho11d ho12d
          rw [hw18]
          clear hw18
          go_wp2_with fail
          refine (wipe_any w18 _ A10 _ d10 _ ho10d (by omega)).mono ?_
          rintro e w19 ⟨rfl, hc19⟩
          have hB19 := hB18.put hc19 (fun b h e => by have := hFl b h; have := (ho10d.lt e).1; omega) (fun b h e => by have := hGl b h; have := (ho10d.lt e).1; omega) (fun b e => by have := (ho10d.lt e).1; omega)
          have ho11e := ho11d.chg hc19 (fun b h e => by have := hx10 b e; have := (ho11d.lt h).1; omega)
          have ho12e := ho12d.chg hc19 (fun b h e => by have := hx10 b e; have := (ho12d.lt h).1; omega)
          go_wp2_with fail
          refine (wipe_any w19 _ A11 _ d11 _ ho11e (by omega)).mono ?_
          rintro e w20 ⟨rfl, hc20⟩
          have hB20 := hB19.put hc20 (fun b h e => by have := hFl b h; have := (ho11e.lt e).1; omega) (fun b h e => by have := hGl b h; have := (ho11e.lt e).1; omega) (fun b e => by have := (ho11e.lt e).1; omega)
          have ho12f := ho12e.chg hc20 (fun b h e => by have := hx11 b e; have := (ho12e.lt h).1; omega)
          go_wp2_with fail
          refine (wipe_any w20 _ A12 _ d12 _ ho12f (by omega)).mono ?_
          rintro e w21 ⟨rfl, hc21⟩
          have hB21 := hB20.put hc21 (fun b h e => by have := hFl b h; have := (ho12f.lt e).1; omega) (fun b h e => by have := hGl b h; have := (ho12f.lt e).1; omega) (fun b e => by have := (ho12f.lt e).1; omega)
          clear hB19 hB20 ho11e ho12e ho12f ho10d ho11d ho12d hB18 hB
          go_wp2_with fail
          go_roundw
          case rel => exact ⟨k + 1, by omega, by go_num, F, G, t, hB21, Hok.out, hlen⟩
          case measure => simp [intOf]; omega
    · go_wp2_with fail
      go_ret
      exact ⟨rfl, hB.chg⟩

set_option maxRecDepth 100000 in
set_option maxHeartbeats 4000000 in
theorem tablePlays_walk (w : World) (mx : Int) (h1 : i64 mx) (A2 : Option Addr) (m c2 : Nat) (e2 : Rd Try.prog w 49 (Value.slice A2 m c2).cells.toList) :
    Calls Try.prog 6 #[.int .i64 mx, .slice A2 m c2] w fun e w2 => e = .returned (.bool true) ∧ Chg Non w w2 := by
  obtain ⟨A', n', c', X, i1, i2, i3, i4, i5⟩ := Rd.acts e2
  simp only [Value.cells, List.cons.injEq, and_true, Value.slice.injEq] at i1
  obtain ⟨rfl, rfl, rfl⟩ := i1
  by_cases hn : m ≤ 200
  · exact tablePlays_core w mx A2 m c2 X i4 i5 hn
  · clear i4 i5
    unfold maxLen at i3
    have k1 : 200 < m := by omega
    clear hn
    go_enter Try.func6, Try.ntmps6
    go_wp2_with fail
    refine (tb_alive _).mono ?_
    rintro e w1 ⟨rfl, hc1⟩
    go_wp2_with fail
    go_ret
    exact ⟨rfl, hc1⟩
end Go.Proofs.Ytfglikgifkpfpaa
