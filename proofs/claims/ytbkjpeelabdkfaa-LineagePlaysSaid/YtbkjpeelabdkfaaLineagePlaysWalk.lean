/-
  gleanerlaw24.LineagePlays: the walk.
-/
import Derived.Test.YtbkjpeelabdkfaaLinBoth
import Derived.Test.YtbkjpeelabdkfaaVwRd
import Derived.Test.YtbkjpeelabdkfaaRegionM
import Derived.Deep.CutBlock
namespace Go.Proofs.Ytbkjpeelabdkfaa
open Go.ChangeShapes Go.WideShapes Go.ChangeAt Go.RowKit Go.Deep
set_option linter.unusedVariables false
set_option linter.unusedSimpArgs false

theorem Rd.structG {P : Program} {w : World} {t : TypeId} {cs : List Value} {fs : Array Field} (ht : P.underlying t = some (.struct fs)) (h : Rd P w t cs) :
    cs.length = P.cellsOf t ∧ ∀ (i : Nat) (f : Field), fs[i]? = some f → Rd P w f.type ((cs.drop f.offset).take (P.cellsOf f.type)) := by
  obtain ⟨H, enc, base, spare, held, fuel, x, h⟩ := h
  obtain ⟨xs, n, _, _, hl, hxl, hg⟩ := DataW.trod_struct ht h
  refine ⟨hl, fun i f hf => ?_⟩
  have h1 := hg i f hf
  have hxi : i < xs.length := by rw [hxl]; exact (Array.getElem?_eq_some_iff.1 hf).1
  rw [List.getElem?_eq_getElem hxi] at h1
  exact ⟨H, enc, base, spare, held, n, _, h1⟩
theorem Rd.ids {w : World} {l : List Value} (h : Rd Try.prog w 38 l) :
    ∃ A n c L, l = [.slice A n c] ∧ n ≤ c ∧ c ≤ maxLen ∧ Rds w 1 A n (sv L) ∧ ∀ x ∈ L, x.size ≤ maxLen := by
  obtain ⟨A, n, c, vs, h1, h2, h3, h4, h5⟩ := h.slice1 Try.underlying38 (by kernel_rfl)
  obtain ⟨l, rfl, hl⟩ := all_map (f := Value.string) (Q := fun x : ByteArray => x.size ≤ maxLen) (vs := vs) fun u hu => by
    obtain ⟨s, h1, h2⟩ := (h5 u hu).string Try.underlying27
    simp only [List.cons.injEq, and_true] at h1
    exact ⟨s, h1, h2⟩
  exact ⟨A, n, c, l, h1, h2, h3, h4, hl⟩

/-- A call, as it lies. -/
structure Ac where
  way : Int
  node : Int
  ep : Int
  nm : ByteArray
  A : Option Addr
  n : Nat
  c : Nat
  L : List ByteArray
  v : Vw
def cellA (a : Ac) : List Value := [.int .i64 a.way, .int .i64 a.node, .int .i64 a.ep, .string a.nm, .slice a.A a.n a.c, .int .i64 a.v.ep, .slice a.v.A a.v.n a.v.c]
theorem cellA_len (a : Ac) : (cellA a).length = 7 := rfl
structure Ac.ok (w : World) (a : Ac) : Prop where
  cm : a.c ≤ maxLen
  nc : a.n ≤ a.c
  rds : Rds w 1 a.A a.n (sv a.L)
  L : ∀ x ∈ a.L, x.size ≤ maxLen
  nm : a.nm.size ≤ maxLen
  v : a.v.ok w
set_option maxRecDepth 100000 in
theorem Rd.act {w : World} {l : List Value} (h : Rd Try.prog w 50 l) (hl : l.length = 7) : ∃ a : Ac, l = cellA a ∧ a.ok w := by
  obtain ⟨_, hg⟩ := h.structG Try.underlying50
  match l, hl, hg with
  | [a, b, c, d, e, f, g], _, hg =>
    obtain ⟨x0, h0, k0⟩ := (show Rd Try.prog w 3 [a] from hg 0 _ rfl).i64 Try.underlying3
    obtain ⟨x1, h1, k1⟩ := (show Rd Try.prog w 3 [b] from hg 1 _ rfl).i64 Try.underlying3
    obtain ⟨x2, h2, k2⟩ := (show Rd Try.prog w 3 [c] from hg 2 _ rfl).i64 Try.underlying3
    obtain ⟨x3, h3, k3⟩ := (show Rd Try.prog w 27 [d] from hg 3 _ rfl).string Try.underlying27
    obtain ⟨A, n, c4, L, h4, m1, m2, m3, m4⟩ := (show Rd Try.prog w 38 [e] from hg 4 _ rfl).ids
    obtain ⟨v, h5, hv⟩ := (show Rd Try.prog w 34 [f, g] from hg 5 _ rfl).view rfl
    simp only [List.cons.injEq, and_true] at h0 h1 h2 h3 h4
    simp only [cellV, List.cons.injEq, and_true] at h5
    obtain ⟨h5, h6⟩ := h5
    subst h0 h1 h2 h3 h4 h5 h6
    exact ⟨⟨x0, x1, x2, x3, A, n, c4, L, v⟩, rfl, m2, m1, m3, m4, k3, hv⟩
set_option maxRecDepth 100000 in
theorem Rd.acts {w : World} {cs : List Value} (h : Rd Try.prog w 44 cs) :
    ∃ A n c, ∃ X : List Ac, cs = [.slice A n c] ∧ n ≤ c ∧ c ≤ maxLen ∧ Rds w 7 A n (X.flatMap cellA) ∧ ∀ a ∈ X, a.ok w :=
  h.rows Try.underlying44 (by kernel_rfl) cellA_len fun l hl hr => hr.act hl

set_option maxRecDepth 100000 in
set_option maxHeartbeats 16000000 in
theorem lineagePlays_core (wo : World) (A2 : Option Addr) (m c2 : Nat) (X : List Ac) (hx : Rds wo 7 A2 m (X.flatMap cellA)) (hX : ∀ a ∈ X, a.ok wo) (hm : m ≤ 200) :
    Calls Try.prog 5 #[.slice A2 m c2] wo fun e w2 => e = .returned (.bool true) ∧ Chg Non wo w2 := by
  have Hx := Lib.hid hx
  have HX := Lib.hid hX
  clear hx hX
  go_enter Try.func5, Try.ntmps5
  go_wp2_with fail
  refine (lin_alive _).mono ?_
  rintro e w1 ⟨rfl, hc1⟩
  go_wp2_with fail
  refine (linNew_any _).mono ?_
  rintro e w2 ⟨g, FL, rfl, hL, hFL, hc2⟩
  unfold ptr
  have hC2 := hc1.non hc2
  obtain ⟨s2, hs⟩ : ∃ s2, w2.heap.size = s2 := ⟨_, rfl⟩
  obtain ⟨w3, hw3⟩ : ∃ w3, w2.alloc (.cells #[.slice none 0 0] 48) = w3 := ⟨_, rfl⟩
  have hcA : Chg Non w2 w3 := hw3 ▸ (Chg.refl _ _).alloc _
  have h0 : LB wo g s2 0 w3 := by
    have hb : Blk w3 s2 48 #[.slice none 0 0] := hw3 ▸ hs ▸ Blk.new _ _ _
    refine ⟨FL, fun b => b = s2, 0, fun _ => none, [], ⟨hL.non hcA, ⟨⟨none, 0, 0, rfl, Nat.le_refl _, by unfold maxLen; omega, hb, OwnR.nil _ _ _, rfl, (fun b hb => by simp [Value.ownBlock] at hb), (by simp [Value.ownBlock])⟩, fun b hb => ?_⟩, by simp, ?_, ?_, ?_, hC2.non hcA⟩, rfl, Nat.le_refl _, Nat.le_refl _, fun a x h => by cases h⟩
    · rw [hb]; exact (show s2 < w3.heap.size from by rw [← hw3]; simp; omega)
    · intro b hb e
      have := hL.lt hb
      have e : b = s2 := e
      omega
    · exact fun b hb => by have := hFL b hb; have := hc1.size; omega
    · intro b e
      have e : b = s2 := e
      have := hC2.size
      omega
  clear hL hFL hc1 hc2 hcA hC2
  go_wp2_with fail
  go_loopw [6] (fun i wr => ∃ k : Nat, k ≤ m ∧ i = .int .i64 k ∧ LB wo g s2 k wr) (fun i _ => m - (intOf i).toNat)
  case atStart => exact ⟨0, Nat.zero_le _, rfl, h0⟩
  case round =>
    clear h0 hw3 hs
    obtain ⟨k, hk, rfl, hbb⟩ := hrel
    obtain ⟨wz, rfl⟩ : ∃ wz, wz = wr := ⟨_, rfl⟩
    obtain ⟨FL, F, n, s, L, hB, hsl, hnk, hLk, hT⟩ := hbb
    by_cases hlt : k < m
    · obtain ⟨ad, a, rfl, ha, hc0, hcN⟩ := Hx.out.getN cellA_len (by decide) hlt
      have hao := HX.out a (List.mem_of_getElem? ha)
      have hC := hB.chg
      have d0 := hC.cell (hc0 _ rfl) id
      have d1 : wz.cell? ⟨(ad.add (k * 7)).block, (ad.add (k * 7)).off + 1, none⟩ = some (.int .i64 a.node) := hC.cell (hcN 0 _ rfl) id
      have d2 : wz.cell? ⟨(ad.add (k * 7)).block, (ad.add (k * 7)).off + 2, none⟩ = some (.int .i64 a.ep) := hC.cell (hcN 1 _ rfl) id
      have d3 : wz.cell? ⟨(ad.add (k * 7)).block, (ad.add (k * 7)).off + 3, none⟩ = some (.string a.nm) := hC.cell (hcN 2 _ rfl) id
      have d4 : wz.cell? ⟨(ad.add (k * 7)).block, (ad.add (k * 7)).off + 4, none⟩ = some (.slice a.A a.n a.c) := hC.cell (hcN 3 _ rfl) id
      have d5 : wz.cell? ⟨(ad.add (k * 7)).block, (ad.add (k * 7)).off + 5, none⟩ = some (.int .i64 a.v.ep) := hC.cell (hcN 4 _ rfl) id
      have d6 : wz.cell? ⟨(ad.add (k * 7)).block, (ad.add (k * 7)).off + 6, none⟩ = some (.slice a.v.A a.v.n a.v.c) := hC.cell (hcN 5 _ rfl) id
      clear hc0 hcN ha
      obtain ⟨way, node, ep, nm, An, nn, cn, Li, ⟨vep, Bn, mm, dm, M⟩⟩ := a
      simp only at d0 d1 d2 d3 d4 d5 d6
      have Hrn := Lib.hid hao.rds
      have Hrm := Lib.hid hao.v.rds
      have hnc : nn ≤ 9223372036854775807 := by have h1 := hao.nc; have h2 := hao.cm; unfold maxLen at h2; simp only at h1 h2; omega
      have hmc : mm ≤ 9223372036854775807 := by have h1 := hao.v.nc; have h2 := hao.v.cm; unfold maxLen at h2; simp only at h1 h2; omega
      have HLz : Hid (∀ x ∈ Li, x.size ≤ 9223372036854775807) := fun x hx => hao.L x hx
      have hnmz : nm.size ≤ 9223372036854775807 := hao.nm
      obtain ⟨wA, hwA⟩ : ∃ wA, wz.alloc (.cells #[.int .i64 way, .int .i64 node, .int .i64 ep, .string nm, .slice An nn cn, .int .i64 vep, .slice Bn mm dm] 50) = wA := ⟨_, rfl⟩
      have hbx : Blk wA wz.heap.size 50 #[.int .i64 way, .int .i64 node, .int .i64 ep, .string nm, .slice An nn cn, .int .i64 vep, .slice Bn mm dm] := hwA ▸ Blk.new _ _ _
      have hCA : Chg Non wz wA := hwA ▸ (Chg.refl _ _).alloc _
      have hbl := World.block_lt_of_cell? wz _ d0
      rw [block_add] at hbl
      have hbxL : ¬ FL wz.heap.size := fun h => by have := hB.ln.lt h; omega
      have hbxF : ¬ F wz.heap.size := fun h => by have := hB.rl.lt _ h; omega
      replace hB := hB.non hCA
      obtain ⟨gx, hgx⟩ : ∃ x, wz.heap.size = x := ⟨_, rfl⟩
      rw [hgx] at hbx hbxL hbxF
      have x0 : wA.cell? ⟨gx, 0, none⟩ = some (.int .i64 way) := hbx.cell 0
      have x1 : wA.cell? ⟨gx, 1, none⟩ = some (.int .i64 node) := hbx.cell 1
      have x2 : wA.cell? ⟨gx, 2, none⟩ = some (.int .i64 ep) := hbx.cell 2
      have x3 : wA.cell? ⟨gx, 3, none⟩ = some (.string nm) := hbx.cell 3
      have x4 : wA.cell? ⟨gx, 4, none⟩ = some (.slice An nn cn) := hbx.cell 4
      have x5 : wA.cell? ⟨gx, 5, none⟩ = some (.int .i64 vep) := hbx.cell 5
      have x6 : wA.cell? ⟨gx, 6, none⟩ = some (.slice Bn mm dm) := hbx.cell 6
      have hbxl := hbx.lt
      have hAlt : 0 < nn → ∀ ad, An = some ad → ad.block < wo.heap.size := by
        intro h0 ad e
        obtain ⟨ad2, y, e2, _, hcy⟩ := Hrn.out.getS h0
        rw [e] at e2
        obtain rfl := Option.some.inj e2
        have h1 := World.block_lt_of_cell? wo _ hcy
        rw [block_add] at h1
        exact h1
      have HAlt := Lib.hid hAlt
      have hna := names_any wA An nn cn Li (Hrn.out.non hB.chg) hnc HLz.out
      have hCw := hB.chg
      clear hao hC hCA hAlt
      have hcase : (namesB Li = false) ∨ (namesB Li = true ∧ decide (200 < mm) = true) ∨ (namesB Li = true ∧ decide (200 < mm) = false ∧ 100 < nm.size) ∨ (namesB Li = true ∧ decide (200 < mm) = false ∧ nm.size ≤ 100) := by
        cases namesB Li with
        | false => exact .inl rfl
        | true =>
          by_cases h2 : 200 < mm
          · exact .inr (.inl ⟨rfl, decide_eq_true h2⟩)
          · by_cases h3 : 100 < nm.size
            · exact .inr (.inr (.inl ⟨rfl, decide_eq_false h2, h3⟩))
            · exact .inr (.inr (.inr ⟨rfl, decide_eq_false h2, by omega⟩))
      go_wp2_with fail
      refine hna.mono ?_
      clear hna
      rintro e w4 ⟨rfl, rfl⟩
      have hbg := big_any wA vep Bn mm dm
      rcases hcase with hn1 | ⟨hn1, hn2⟩ | ⟨hn1, hn2, hn3⟩ | ⟨hn1, hn2, hn3⟩
      all_goals rw [hn1]
      rotate_right
      all_goals try (rw [hn2] at hbg)
      rotate_left
      iterate 3
        · as_aux_lemma =>
            clear hn1 hB hbx
            try clear hn2
            go_wp2_with fail
            refine hbg.mono ?_
            rintro e w5 ⟨rfl, hc5⟩
            have z3 := hc5.cell x3 id
            have zl : gx < w5.heap.size := Nat.lt_of_lt_of_le hbxl hc5.size
            have hC5 := hCw.non hc5
            clear hbg x0 x1 x2 x3 x4 x5 x6 hbxl hc5
            go_wp2_with fail
            go_ret
            exact ⟨rfl, hC5⟩
      have hLz := namesB_true.1 hn1
      have hLn : nn ≤ 100 := by have := Hrn.out.lenMap (f := Value.string); omega
      have HLz2 : Hid (∀ x ∈ Li, x.size ≤ 1000000) := fun x hx => by have := hLz.2 x hx; omega
      clear hn1 hn2 hLz
      go_wp2_with fail
      refine hbg.mono ?_
      clear hbg
      rintro e wY ⟨rfl, hc5⟩
      replace hB := hB.non hc5
      replace hbx := hbx.non hc5
      clear x0 x1 x2 x3 x4 x5 x6 hbxl hCw hwA d0 d1 d2 d3 d4 d5 d6
      have x0 : wY.cell? ⟨gx, 0, none⟩ = some (.int .i64 way) := hbx.cell 0
      have x1 : wY.cell? ⟨gx, 1, none⟩ = some (.int .i64 node) := hbx.cell 1
      have x2 : wY.cell? ⟨gx, 2, none⟩ = some (.int .i64 ep) := hbx.cell 2
      have x3 : wY.cell? ⟨gx, 3, none⟩ = some (.string nm) := hbx.cell 3
      have x4 : wY.cell? ⟨gx, 4, none⟩ = some (.slice An nn cn) := hbx.cell 4
      have x5 : wY.cell? ⟨gx, 5, none⟩ = some (.int .i64 vep) := hbx.cell 5
      have x6 : wY.cell? ⟨gx, 6, none⟩ = some (.slice Bn mm dm) := hbx.cell 6
      have hbxl := hbx.lt
      have hCw := hB.chg
      clear hc5
      go_upto_block 2 with (fail)
      go_cut [10, 11, 12, 13, 14, 15, 16, 17, 18] from 31 to 208 (fun v _ _ _ _ _ _ _ _ wx => v = .bool true ∧ LB wo g s2 (k + 1) wx ∧ Blk wx gx 50 #[.int .i64 way, .int .i64 node, .int .i64 ep, .string nm, .slice An nn cn, .int .i64 vep, .slice Bn mm dm])
      case first =>
        have hmx : nm.size ≤ maxLen := by unfold maxLen; omega
        have hkk : k ≤ 200 := by omega
        have hcase : way = 0 ∨ way = 1 ∨ way = 2 ∨ way = 3 ∨ ((way == 0) = false ∧ (way == 1) = false ∧ (way == 2) = false ∧ (way == 3) = false) := by
          simp only [beq_eq_false_iff_ne]
          omega
        rcases hcase with rfl | rfl | rfl | rfl | ⟨e0, e1, e2, e3⟩
        · as_aux_lemma =>
            obtain ⟨hb, hhb⟩ : ∃ hb, (spawnN s node ep Li).2 = hb := ⟨_, rfl⟩
            obtain ⟨S2, hS2⟩ : ∃ S2, (spawnN s node ep Li).1 = S2 := ⟨_, rfl⟩
            have HT2 : Hid (∀ a x, S2 a = some x → 0 ≤ x.times ∧ x.times ≤ ((k + 1 : Nat) : Int) + 1) := by
              show ∀ a x, _
              rw [← hS2]
              have h9 := times_spawn (k := (k : Int) + 1) (by omega) node ep Li (s, 0) (fun a x h => hT.out a x h)
              intro a x hx
              have := h9 a x hx
              omega
            have Hp := Lib.hid (fun (wx : World) (hC : Chg (fun b => FL b ∨ F b) wY wx) (hS : LBs wo FL F g s2 n s L wx) => (show Calls Try.prog 8 #[.pointer (some ⟨g, 0, none⟩), .int .i64 node, .int .i64 ep, .slice An nn cn] wx (fun e w2 => e = .returned (.int .i64 hb) ∧ ∃ F2 n2, Ln w2 F2 g n2 S2 ∧ n2 ≤ n + 100 ∧ (∀ b, F2 b → FL b ∨ wx.heap.size ≤ b) ∧ Chg FL wx w2) from by
              have hLl := Hrn.out.lenMap (f := Value.string)
              refine (linSpawned_any wx FL g n s hS.ln node ep An nn cn Li (Hrn.out.non hS.chg) (fun ad e h hf => by have := HAlt.out h ad e; have := hS.f1 _ hf; omega) (by omega) (by omega) HLz2.out).mono ?_
              rintro e w2 ⟨he, F2, n2, h1, h2, h3, h4⟩
              rw [hhb] at he
              rw [hS2] at h1
              exact ⟨he, F2, n2, h1, by omega, h3, h4⟩))
            have Hr := Lib.hid (fun (wx : World) (FL2 : Nat → Prop) (n2 : Nat) (hC : Chg (fun b => FL b ∨ F b) wY wx) (hS : LBs wo FL2 F g s2 n2 S2 L wx) => (show Calls Try.prog 19 #[.pointer (some ⟨s2, 0, none⟩), .int .i64 node, .int .i64 ep, .slice An nn cn] wx (fun e w2 => e = .returned (.int .i64 hb) ∧ ∃ F2 L2, Rl w2 F2 s2 L2 ∧ lsOf L2 = S2 ∧ (L2.map (·.id)).Nodup ∧ L2.length ≤ L.length + Li.length ∧ (∀ b, F2 b → F b ∨ wx.heap.size ≤ b) ∧ Chg F wx w2) from by
              have h9 := refSpawned_any wx F s2 L hS.rl hS.nd (by have := hLk.out; omega) node ep An nn cn Li (Hrn.out.non hS.chg) (fun ad e h hf => by have := HAlt.out h ad e; have := hS.f2 _ hf; omega) (by omega) HLz2.out
              unfold RSpPost at h9
              rw [← hsl.out, hhb, hS2] at h9
              exact h9))
            have hbb : (hb == hb) = true := beq_self_eq_true _
            have y1 : ∀ wx, Chg (fun b => FL b ∨ F b) wY wx → wx.cell? ⟨gx, 1, none⟩ = some (.int .i64 node) := fun wx h => (hbx.chg h (fun e => e.elim hbxL hbxF)).cell 1
            have y2 : ∀ wx, Chg (fun b => FL b ∨ F b) wY wx → wx.cell? ⟨gx, 2, none⟩ = some (.int .i64 ep) := fun wx h => (hbx.chg h (fun e => e.elim hbxL hbxF)).cell 2
            have y4 : ∀ wx, Chg (fun b => FL b ∨ F b) wY wx → wx.cell? ⟨gx, 4, none⟩ = some (.slice An nn cn) := fun wx h => (hbx.chg h (fun e => e.elim hbxL hbxF)).cell 4
            have hL0 := hB.ln
            clear hhb hS2
            go_wp2_with fail
            refine st_region _ (fun b => FL b ∨ F b) [7, 15] [] (fun i _ _ wx => if i = 15 then ∃ FL2 n2 F2 L2, LBs wo FL2 F2 g s2 n2 S2 L2 wx ∧ n2 ≤ n + 100 ∧ lsOf L2 = S2 ∧ L2.length ≤ L.length + 100 else ∃ FL2 n2, LBs wo FL2 F g s2 n2 S2 L wx ∧ n2 ≤ n + 100) (fun _ _ _ _ => True) (fun _ _ v => v = .int .i64 hb) (fun wx => LBs wo FL F g s2 n s L wx) (by kernel_rfl) (okB_of_F _ (by kernel_rfl)) (fun b h => h.elim (fun h => hB.ln.lt h) (hB.rl.lt b)) (hB.non (Chg.refl _ _).drew) (fun wx ob h => h.non ((Chg.refl _ wx).alloc ob)) ?_
            repeat (first | (refine st_pass (by rfl) ?_; simp only [Act.put, List.setIfInBounds_toArray, List.set_cons_succ, List.set_cons_zero]) | (refine st_plain (fun b => FL b ∨ F b) (wY) rfl rfl (f := ?_) (by rfl) rfl rfl (fun w hC hG => ?_) ?_; rotate_left; (clear hG; first | (go_simp; done) | (go_simp; with_reducible rfl) | (simp [*, go_sem, ↓IntWalk.iteOmega]; done) | (simp [*, go_sem, ↓IntWalk.iteOmega]; with_reducible rfl)); simp only [Act.put, List.setIfInBounds_toArray, List.set_cons_succ, List.set_cons_zero]))
            refine st_major (fun b => FL b ∨ F b) (wY) rfl rfl (by rfl) rfl (⟨_, rfl⟩) (fun _ _ _ _ _ _ => trivial) (fun v wx ob h => h.imp fun F2 h => h.imp fun n2 h => ⟨h.1.non ((Chg.refl _ wx).alloc ob), h.2⟩) (fun w hC hG hS => settle_of (r2 := ?_) ?_ ?_) ?_
            rotate_left
            (first | (go_simp; done) | (go_simp; rfl))
            · refine settle_enter ((Hp.out _ hC hS).mono ?_)
              rintro e w6 ⟨rfl, F2, n2, hT6, hn6, hF6, hc6⟩
              exact ⟨_, rfl, rfl, hc6.mono fun b e => .inl e, ⟨F2, n2, hS.prog hT6 hF6 hc6, by omega⟩, trivial⟩
            rintro v rfl
            simp only [Act.put, List.setIfInBounds_toArray, List.set_cons_succ, List.set_cons_zero]
            repeat (first | (refine st_pass (by rfl) ?_; simp only [Act.put, List.setIfInBounds_toArray, List.set_cons_succ, List.set_cons_zero]) | (refine st_plain (fun b => FL b ∨ F b) (wY) rfl rfl (f := ?_) (by rfl) rfl rfl (fun w hC hG => ?_) ?_; rotate_left; (clear hG; first | (go_simp; done) | (go_simp; with_reducible rfl) | (simp [*, go_sem, ↓IntWalk.iteOmega]; done) | (simp [*, go_sem, ↓IntWalk.iteOmega]; with_reducible rfl)); simp only [Act.put, List.setIfInBounds_toArray, List.set_cons_succ, List.set_cons_zero]))
            refine st_major (fun b => FL b ∨ F b) (wY) rfl rfl (by rfl) rfl (⟨_, rfl⟩) (fun _ _ _ _ _ _ => trivial) (fun v wx ob h => h.imp fun F2 h => h.imp fun n2 h => h.imp fun F3 h => h.imp fun L3 h => ⟨h.1.non ((Chg.refl _ wx).alloc ob), h.2⟩) (fun w hC hG hS => settle_of (r2 := ?_) ?_ ?_) ?_
            rotate_left
            (first | (go_simp; done) | (go_simp; rfl))
            · have hS2 : ∃ FL2 n2, LBs wo FL2 F g s2 n2 S2 L _ ∧ n2 ≤ n + 100 := hS
              obtain ⟨F2, n2, hS2, hn2⟩ := hS2
              refine settle_enter ((Hr.out _ F2 n2 hC hS2).mono ?_)
              rintro e w6 ⟨rfl, G3, L3, hT6, hl6, hnd6, hln6, hG6, hc6⟩
              have hLl := Hrn.out.lenMap (f := Value.string)
              exact ⟨_, rfl, rfl, hc6.mono fun b e => .inr e, ⟨F2, n2, G3, L3, hS2.ref hT6 hnd6 hG6 hc6, hn2, hl6, by omega⟩, trivial⟩
            rintro v rfl
            simp only [Act.put, List.setIfInBounds_toArray, List.set_cons_succ, List.set_cons_zero]
            repeat (first | (refine st_pass (by rfl) ?_; simp only [Act.put, List.setIfInBounds_toArray, List.set_cons_succ, List.set_cons_zero]) | (refine st_plain (fun b => FL b ∨ F b) (wY) rfl rfl (f := ?_) (by rfl) rfl rfl (fun w hC hG => ?_) ?_; rotate_left; (clear hG; first | (go_simp; done) | (go_simp; with_reducible rfl) | (simp [*, go_sem, ↓IntWalk.iteOmega]; done) | (simp [*, go_sem, ↓IntWalk.iteOmega]; with_reducible rfl)); simp only [Act.put, List.setIfInBounds_toArray, List.set_cons_succ, List.set_cons_zero]))
            refine st_end (fun b => FL b ∨ F b) wY rfl rfl (fun w6 hC6 hS6 hG6 => ?_)
            have hS7 : ∃ FL2 n2 F2 L2, LBs wo FL2 F2 g s2 n2 S2 L2 w6 ∧ n2 ≤ n + 100 ∧ lsOf L2 = S2 ∧ L2.length ≤ L.length + 100 := hS6
            have hbx6 := hbx.chg hC6 (fun e => e.elim hbxL hbxF)
            clear hG6 hS6 y1 y2 y4
            obtain ⟨F2, n2, G2, L2, hB6, hn6, hl6, hL6⟩ := hS7
            go_wp2_with fail
            go_meet
            exact ⟨rfl, ⟨F2, G2, n2, S2, L2, hB6, hl6.symm, by omega, (by show _ ≤ _; have := hLk.out; omega), HT2.out⟩, hbx6⟩
        · as_aux_lemma =>
            obtain ⟨hb, hhb⟩ : ∃ hb, (movedE s nm node ep).1 = hb := ⟨_, rfl⟩
            obtain ⟨S2, hS2⟩ : ∃ S2, (movedE s nm node ep).2 = S2 := ⟨_, rfl⟩
            have HT2 : Hid (∀ a x, S2 a = some x → 0 ≤ x.times ∧ x.times ≤ ((k + 1 : Nat) : Int) + 1) := by
              show ∀ a x, _
              rw [← hS2]
              have h9 := times_moved hT.out nm node ep
              intro a x hx
              have := h9 a x hx
              omega
            have Hp := Lib.hid (fun (wx : World) (hC : Chg (fun b => FL b ∨ F b) wY wx) (hS : LBs wo FL F g s2 n s L wx) => (show Calls Try.prog 20 #[.pointer (some ⟨g, 0, none⟩), .string nm, .int .i64 node, .int .i64 ep] wx (LnPost wx FL g n (.bool hb) S2) from by
              have h9 := linMoved_any wx FL g n s hS.ln nm hmx node ep
              rw [hhb, hS2] at h9
              exact h9))
            have Hr := Lib.hid (fun (wx : World) (FL2 : Nat → Prop) (n2 : Nat) (hC : Chg (fun b => FL b ∨ F b) wY wx) (hS : LBs wo FL2 F g s2 n2 S2 L wx) => (show Calls Try.prog 21 #[.pointer (some ⟨s2, 0, none⟩), .string nm, .int .i64 node, .int .i64 ep] wx (RlPost wx F s2 L (.bool hb) S2) from by
              have h9 := refMoved_any wx F s2 L nm node ep hS.rl
              rw [← hsl.out, hhb, hS2] at h9
              exact h9))
            have hbb : (hb == hb) = true := beq_self_eq_true _
            have y1 : ∀ wx, Chg (fun b => FL b ∨ F b) wY wx → wx.cell? ⟨gx, 1, none⟩ = some (.int .i64 node) := fun wx h => (hbx.chg h (fun e => e.elim hbxL hbxF)).cell 1
            have y2 : ∀ wx, Chg (fun b => FL b ∨ F b) wY wx → wx.cell? ⟨gx, 2, none⟩ = some (.int .i64 ep) := fun wx h => (hbx.chg h (fun e => e.elim hbxL hbxF)).cell 2
            have y3 : ∀ wx, Chg (fun b => FL b ∨ F b) wY wx → wx.cell? ⟨gx, 3, none⟩ = some (.string nm) := fun wx h => (hbx.chg h (fun e => e.elim hbxL hbxF)).cell 3
            have hL0 := hB.ln
            clear hhb hS2
            go_wp2_with fail
            refine st_region _ (fun b => FL b ∨ F b) [7, 15] [] (fun i _ _ wx => if i = 15 then ∃ FL2 n2 F2 L2, LBs wo FL2 F2 g s2 n2 S2 L2 wx ∧ n2 ≤ n + 100 ∧ lsOf L2 = S2 ∧ L2.length ≤ L.length + 100 else ∃ FL2 n2, LBs wo FL2 F g s2 n2 S2 L wx ∧ n2 ≤ n + 100) (fun _ _ _ _ => True) (fun _ _ v => v = .bool hb) (fun wx => LBs wo FL F g s2 n s L wx) (by kernel_rfl) (okB_of_F _ (by kernel_rfl)) (fun b h => h.elim (fun h => hB.ln.lt h) (hB.rl.lt b)) (hB.non (Chg.refl _ _).drew) (fun wx ob h => h.non ((Chg.refl _ wx).alloc ob)) ?_
            repeat (first | (refine st_pass (by rfl) ?_; simp only [Act.put, List.setIfInBounds_toArray, List.set_cons_succ, List.set_cons_zero]) | (refine st_plain (fun b => FL b ∨ F b) (wY) rfl rfl (f := ?_) (by rfl) rfl rfl (fun w hC hG => ?_) ?_; rotate_left; (clear hG; first | (go_simp; done) | (go_simp; with_reducible rfl) | (simp [*, go_sem, ↓IntWalk.iteOmega]; done) | (simp [*, go_sem, ↓IntWalk.iteOmega]; with_reducible rfl)); simp only [Act.put, List.setIfInBounds_toArray, List.set_cons_succ, List.set_cons_zero]))
            refine st_major (fun b => FL b ∨ F b) (wY) rfl rfl (by rfl) rfl (⟨_, rfl⟩) (fun _ _ _ _ _ _ => trivial) (fun v wx ob h => h.imp fun F2 h => h.imp fun n2 h => ⟨h.1.non ((Chg.refl _ wx).alloc ob), h.2⟩) (fun w hC hG hS => settle_of (r2 := ?_) ?_ ?_) ?_
            rotate_left
            (first | (go_simp; done) | (go_simp; rfl))
            · refine settle_enter ((Hp.out _ hC hS).mono ?_)
              rintro e w6 ⟨rfl, F2, n2, hT6, hn6, hF6, hc6⟩
              exact ⟨_, rfl, rfl, hc6.mono fun b e => .inl e, ⟨F2, n2, hS.prog hT6 hF6 hc6, by omega⟩, trivial⟩
            rintro v rfl
            simp only [Act.put, List.setIfInBounds_toArray, List.set_cons_succ, List.set_cons_zero]
            repeat (first | (refine st_pass (by rfl) ?_; simp only [Act.put, List.setIfInBounds_toArray, List.set_cons_succ, List.set_cons_zero]) | (refine st_plain (fun b => FL b ∨ F b) (wY) rfl rfl (f := ?_) (by rfl) rfl rfl (fun w hC hG => ?_) ?_; rotate_left; (clear hG; first | (go_simp; done) | (go_simp; with_reducible rfl) | (simp [*, go_sem, ↓IntWalk.iteOmega]; done) | (simp [*, go_sem, ↓IntWalk.iteOmega]; with_reducible rfl)); simp only [Act.put, List.setIfInBounds_toArray, List.set_cons_succ, List.set_cons_zero]))
            refine st_major (fun b => FL b ∨ F b) (wY) rfl rfl (by rfl) rfl (⟨_, rfl⟩) (fun _ _ _ _ _ _ => trivial) (fun v wx ob h => h.imp fun F2 h => h.imp fun n2 h => h.imp fun F3 h => h.imp fun L3 h => ⟨h.1.non ((Chg.refl _ wx).alloc ob), h.2⟩) (fun w hC hG hS => settle_of (r2 := ?_) ?_ ?_) ?_
            rotate_left
            (first | (go_simp; done) | (go_simp; rfl))
            · have hS2 : ∃ FL2 n2, LBs wo FL2 F g s2 n2 S2 L _ ∧ n2 ≤ n + 100 := hS
              obtain ⟨F2, n2, hS2, hn2⟩ := hS2
              refine settle_enter ((Hr.out _ F2 n2 hC hS2).mono ?_)
              rintro e w6 ⟨rfl, L3, hT6, hl6, hi6, hc6⟩
              have hln : L3.length = L.length := by have := congrArg List.length hi6; simpa using this
              exact ⟨_, rfl, rfl, hc6.mono fun b e => .inr e, ⟨F2, n2, F, L3, hS2.ref hT6 (by rw [hi6]; exact hS2.nd) (fun b h => .inl h) hc6, hn2, hl6, by omega⟩, trivial⟩
            rintro v rfl
            simp only [Act.put, List.setIfInBounds_toArray, List.set_cons_succ, List.set_cons_zero]
            repeat (first | (refine st_pass (by rfl) ?_; simp only [Act.put, List.setIfInBounds_toArray, List.set_cons_succ, List.set_cons_zero]) | (refine st_plain (fun b => FL b ∨ F b) (wY) rfl rfl (f := ?_) (by rfl) rfl rfl (fun w hC hG => ?_) ?_; rotate_left; (clear hG; first | (go_simp; done) | (go_simp; with_reducible rfl) | (simp [*, go_sem, ↓IntWalk.iteOmega]; done) | (simp [*, go_sem, ↓IntWalk.iteOmega]; with_reducible rfl)); simp only [Act.put, List.setIfInBounds_toArray, List.set_cons_succ, List.set_cons_zero]))
            refine st_end (fun b => FL b ∨ F b) wY rfl rfl (fun w6 hC6 hS6 hG6 => ?_)
            have hS7 : ∃ FL2 n2 F2 L2, LBs wo FL2 F2 g s2 n2 S2 L2 w6 ∧ n2 ≤ n + 100 ∧ lsOf L2 = S2 ∧ L2.length ≤ L.length + 100 := hS6
            have hbx6 := hbx.chg hC6 (fun e => e.elim hbxL hbxF)
            clear hG6 hS6 y1 y2 y3
            obtain ⟨F2, n2, G2, L2, hB6, hn6, hl6, hL6⟩ := hS7
            go_wp2_with fail
            go_meet
            exact ⟨rfl, ⟨F2, G2, n2, S2, L2, hB6, hl6.symm, by omega, (by show _ ≤ _; have := hLk.out; omega), HT2.out⟩, hbx6⟩
        · as_aux_lemma =>
            obtain ⟨hb, hhb⟩ : ∃ hb, (endedE s nm).1 = hb := ⟨_, rfl⟩
            obtain ⟨S2, hS2⟩ : ∃ S2, (endedE s nm).2 = S2 := ⟨_, rfl⟩
            have HT2 : Hid (∀ a x, S2 a = some x → 0 ≤ x.times ∧ x.times ≤ ((k + 1 : Nat) : Int) + 1) := by
              show ∀ a x, _
              rw [← hS2]
              have h9 := times_ended hT.out nm
              intro a x hx
              have := h9 a x hx
              omega
            have Hp := Lib.hid (fun (wx : World) (hC : Chg (fun b => FL b ∨ F b) wY wx) (hS : LBs wo FL F g s2 n s L wx) => (show Calls Try.prog 9 #[.pointer (some ⟨g, 0, none⟩), .string nm] wx (LnPost wx FL g n (.bool hb) S2) from by
              have h9 := linEnded_any wx FL g n s hS.ln nm hmx
              rw [hhb, hS2] at h9
              exact h9))
            have Hr := Lib.hid (fun (wx : World) (FL2 : Nat → Prop) (n2 : Nat) (hC : Chg (fun b => FL b ∨ F b) wY wx) (hS : LBs wo FL2 F g s2 n2 S2 L wx) => (show Calls Try.prog 22 #[.pointer (some ⟨s2, 0, none⟩), .string nm] wx (RlPost wx F s2 L (.bool hb) S2) from by
              have h9 := refEnded_any wx F s2 L nm hS.rl
              rw [← hsl.out, hhb, hS2] at h9
              exact h9))
            have hbb : (hb == hb) = true := beq_self_eq_true _
            have y3 : ∀ wx, Chg (fun b => FL b ∨ F b) wY wx → wx.cell? ⟨gx, 3, none⟩ = some (.string nm) := fun wx h => (hbx.chg h (fun e => e.elim hbxL hbxF)).cell 3
            have hL0 := hB.ln
            clear hhb hS2
            go_wp2_with fail
            refine st_region _ (fun b => FL b ∨ F b) [3, 7] [] (fun i _ _ wx => if i = 7 then ∃ FL2 n2 F2 L2, LBs wo FL2 F2 g s2 n2 S2 L2 wx ∧ n2 ≤ n + 100 ∧ lsOf L2 = S2 ∧ L2.length ≤ L.length + 100 else ∃ FL2 n2, LBs wo FL2 F g s2 n2 S2 L wx ∧ n2 ≤ n + 100) (fun _ _ _ _ => True) (fun _ _ v => v = .bool hb) (fun wx => LBs wo FL F g s2 n s L wx) (by kernel_rfl) (okB_of_F _ (by kernel_rfl)) (fun b h => h.elim (fun h => hB.ln.lt h) (hB.rl.lt b)) (hB.non (Chg.refl _ _).drew) (fun wx ob h => h.non ((Chg.refl _ wx).alloc ob)) ?_
            repeat (first | (refine st_pass (by rfl) ?_; simp only [Act.put, List.setIfInBounds_toArray, List.set_cons_succ, List.set_cons_zero]) | (refine st_plain (fun b => FL b ∨ F b) (wY) rfl rfl (f := ?_) (by rfl) rfl rfl (fun w hC hG => ?_) ?_; rotate_left; (clear hG; first | (go_simp; done) | (go_simp; with_reducible rfl) | (simp [*, go_sem, ↓IntWalk.iteOmega]; done) | (simp [*, go_sem, ↓IntWalk.iteOmega]; with_reducible rfl)); simp only [Act.put, List.setIfInBounds_toArray, List.set_cons_succ, List.set_cons_zero]))
            refine st_major (fun b => FL b ∨ F b) (wY) rfl rfl (by rfl) rfl (⟨_, rfl⟩) (fun _ _ _ _ _ _ => trivial) (fun v wx ob h => h.imp fun F2 h => h.imp fun n2 h => ⟨h.1.non ((Chg.refl _ wx).alloc ob), h.2⟩) (fun w hC hG hS => settle_of (r2 := ?_) ?_ ?_) ?_
            rotate_left
            (first | (go_simp; done) | (go_simp; rfl))
            · refine settle_enter ((Hp.out _ hC hS).mono ?_)
              rintro e w6 ⟨rfl, F2, n2, hT6, hn6, hF6, hc6⟩
              exact ⟨_, rfl, rfl, hc6.mono fun b e => .inl e, ⟨F2, n2, hS.prog hT6 hF6 hc6, by omega⟩, trivial⟩
            rintro v rfl
            simp only [Act.put, List.setIfInBounds_toArray, List.set_cons_succ, List.set_cons_zero]
            repeat (first | (refine st_pass (by rfl) ?_; simp only [Act.put, List.setIfInBounds_toArray, List.set_cons_succ, List.set_cons_zero]) | (refine st_plain (fun b => FL b ∨ F b) (wY) rfl rfl (f := ?_) (by rfl) rfl rfl (fun w hC hG => ?_) ?_; rotate_left; (clear hG; first | (go_simp; done) | (go_simp; with_reducible rfl) | (simp [*, go_sem, ↓IntWalk.iteOmega]; done) | (simp [*, go_sem, ↓IntWalk.iteOmega]; with_reducible rfl)); simp only [Act.put, List.setIfInBounds_toArray, List.set_cons_succ, List.set_cons_zero]))
            refine st_major (fun b => FL b ∨ F b) (wY) rfl rfl (by rfl) rfl (⟨_, rfl⟩) (fun _ _ _ _ _ _ => trivial) (fun v wx ob h => h.imp fun F2 h => h.imp fun n2 h => h.imp fun F3 h => h.imp fun L3 h => ⟨h.1.non ((Chg.refl _ wx).alloc ob), h.2⟩) (fun w hC hG hS => settle_of (r2 := ?_) ?_ ?_) ?_
            rotate_left
            (first | (go_simp; done) | (go_simp; rfl))
            · have hS2 : ∃ FL2 n2, LBs wo FL2 F g s2 n2 S2 L _ ∧ n2 ≤ n + 100 := hS
              obtain ⟨F2, n2, hS2, hn2⟩ := hS2
              refine settle_enter ((Hr.out _ F2 n2 hC hS2).mono ?_)
              rintro e w6 ⟨rfl, L3, hT6, hl6, hi6, hc6⟩
              have hln : L3.length = L.length := by have := congrArg List.length hi6; simpa using this
              exact ⟨_, rfl, rfl, hc6.mono fun b e => .inr e, ⟨F2, n2, F, L3, hS2.ref hT6 (by rw [hi6]; exact hS2.nd) (fun b h => .inl h) hc6, hn2, hl6, by omega⟩, trivial⟩
            rintro v rfl
            simp only [Act.put, List.setIfInBounds_toArray, List.set_cons_succ, List.set_cons_zero]
            repeat (first | (refine st_pass (by rfl) ?_; simp only [Act.put, List.setIfInBounds_toArray, List.set_cons_succ, List.set_cons_zero]) | (refine st_plain (fun b => FL b ∨ F b) (wY) rfl rfl (f := ?_) (by rfl) rfl rfl (fun w hC hG => ?_) ?_; rotate_left; (clear hG; first | (go_simp; done) | (go_simp; with_reducible rfl) | (simp [*, go_sem, ↓IntWalk.iteOmega]; done) | (simp [*, go_sem, ↓IntWalk.iteOmega]; with_reducible rfl)); simp only [Act.put, List.setIfInBounds_toArray, List.set_cons_succ, List.set_cons_zero]))
            refine st_end (fun b => FL b ∨ F b) wY rfl rfl (fun w6 hC6 hS6 hG6 => ?_)
            have hS7 : ∃ FL2 n2 F2 L2, LBs wo FL2 F2 g s2 n2 S2 L2 w6 ∧ n2 ≤ n + 100 ∧ lsOf L2 = S2 ∧ L2.length ≤ L.length + 100 := hS6
            have hbx6 := hbx.chg hC6 (fun e => e.elim hbxL hbxF)
            clear hG6 hS6 y3
            obtain ⟨F2, n2, G2, L2, hB6, hn6, hl6, hL6⟩ := hS7
            go_wp2_with fail
            go_meet
            exact ⟨rfl, ⟨F2, G2, n2, S2, L2, hB6, hl6.symm, by omega, (by show _ ≤ _; have := hLk.out; omega), HT2.out⟩, hbx6⟩
        · as_aux_lemma =>
            obtain ⟨hb, hhb⟩ : ∃ hb, (againE s nm node ep).1 = hb := ⟨_, rfl⟩
            obtain ⟨S2, hS2⟩ : ∃ S2, (againE s nm node ep).2 = S2 := ⟨_, rfl⟩
            have HT2 : Hid (∀ a x, S2 a = some x → 0 ≤ x.times ∧ x.times ≤ ((k + 1 : Nat) : Int) + 1) := by
              show ∀ a x, _
              rw [← hS2]
              have h9 := times_again hT.out nm node ep
              intro a x hx
              have := h9 a x hx
              omega
            have Hp := Lib.hid (fun (wx : World) (hC : Chg (fun b => FL b ∨ F b) wY wx) (hS : LBs wo FL F g s2 n s L wx) => (show Calls Try.prog 10 #[.pointer (some ⟨g, 0, none⟩), .string nm, .int .i64 node, .int .i64 ep] wx (LnPost wx FL g n (.bool hb) S2) from by
              have h9 := linAgain_any wx FL g n s hS.ln (fun a x h => by have := hT.out a x h; omega) nm hmx node ep
              rw [hhb, hS2] at h9
              exact h9))
            have Hr := Lib.hid (fun (wx : World) (FL2 : Nat → Prop) (n2 : Nat) (hC : Chg (fun b => FL b ∨ F b) wY wx) (hS : LBs wo FL2 F g s2 n2 S2 L wx) => (show Calls Try.prog 23 #[.pointer (some ⟨s2, 0, none⟩), .string nm, .int .i64 node, .int .i64 ep] wx (RlPost wx F s2 L (.bool hb) S2) from by
              have h9 := refAgain_any wx F s2 L nm node ep hS.rl (fun x h => by have := times_list (k := (k : Int) + 1) hS.nd (by rw [← hsl.out]; exact hT.out) x h; omega)
              rw [← hsl.out, hhb, hS2] at h9
              exact h9))
            have hbb : (hb == hb) = true := beq_self_eq_true _
            have y1 : ∀ wx, Chg (fun b => FL b ∨ F b) wY wx → wx.cell? ⟨gx, 1, none⟩ = some (.int .i64 node) := fun wx h => (hbx.chg h (fun e => e.elim hbxL hbxF)).cell 1
            have y2 : ∀ wx, Chg (fun b => FL b ∨ F b) wY wx → wx.cell? ⟨gx, 2, none⟩ = some (.int .i64 ep) := fun wx h => (hbx.chg h (fun e => e.elim hbxL hbxF)).cell 2
            have y3 : ∀ wx, Chg (fun b => FL b ∨ F b) wY wx → wx.cell? ⟨gx, 3, none⟩ = some (.string nm) := fun wx h => (hbx.chg h (fun e => e.elim hbxL hbxF)).cell 3
            have hL0 := hB.ln
            clear hhb hS2
            go_wp2_with fail
            refine st_region _ (fun b => FL b ∨ F b) [7, 15] [] (fun i _ _ wx => if i = 15 then ∃ FL2 n2 F2 L2, LBs wo FL2 F2 g s2 n2 S2 L2 wx ∧ n2 ≤ n + 100 ∧ lsOf L2 = S2 ∧ L2.length ≤ L.length + 100 else ∃ FL2 n2, LBs wo FL2 F g s2 n2 S2 L wx ∧ n2 ≤ n + 100) (fun _ _ _ _ => True) (fun _ _ v => v = .bool hb) (fun wx => LBs wo FL F g s2 n s L wx) (by kernel_rfl) (okB_of_F _ (by kernel_rfl)) (fun b h => h.elim (fun h => hB.ln.lt h) (hB.rl.lt b)) (hB.non (Chg.refl _ _).drew) (fun wx ob h => h.non ((Chg.refl _ wx).alloc ob)) ?_
            repeat (first | (refine st_pass (by rfl) ?_; simp only [Act.put, List.setIfInBounds_toArray, List.set_cons_succ, List.set_cons_zero]) | (refine st_plain (fun b => FL b ∨ F b) (wY) rfl rfl (f := ?_) (by rfl) rfl rfl (fun w hC hG => ?_) ?_; rotate_left; (clear hG; first | (go_simp; done) | (go_simp; with_reducible rfl) | (simp [*, go_sem, ↓IntWalk.iteOmega]; done) | (simp [*, go_sem, ↓IntWalk.iteOmega]; with_reducible rfl)); simp only [Act.put, List.setIfInBounds_toArray, List.set_cons_succ, List.set_cons_zero]))
            refine st_major (fun b => FL b ∨ F b) (wY) rfl rfl (by rfl) rfl (⟨_, rfl⟩) (fun _ _ _ _ _ _ => trivial) (fun v wx ob h => h.imp fun F2 h => h.imp fun n2 h => ⟨h.1.non ((Chg.refl _ wx).alloc ob), h.2⟩) (fun w hC hG hS => settle_of (r2 := ?_) ?_ ?_) ?_
            rotate_left
            (first | (go_simp; done) | (go_simp; rfl))
            · refine settle_enter ((Hp.out _ hC hS).mono ?_)
              rintro e w6 ⟨rfl, F2, n2, hT6, hn6, hF6, hc6⟩
              exact ⟨_, rfl, rfl, hc6.mono fun b e => .inl e, ⟨F2, n2, hS.prog hT6 hF6 hc6, by omega⟩, trivial⟩
            rintro v rfl
            simp only [Act.put, List.setIfInBounds_toArray, List.set_cons_succ, List.set_cons_zero]
            repeat (first | (refine st_pass (by rfl) ?_; simp only [Act.put, List.setIfInBounds_toArray, List.set_cons_succ, List.set_cons_zero]) | (refine st_plain (fun b => FL b ∨ F b) (wY) rfl rfl (f := ?_) (by rfl) rfl rfl (fun w hC hG => ?_) ?_; rotate_left; (clear hG; first | (go_simp; done) | (go_simp; with_reducible rfl) | (simp [*, go_sem, ↓IntWalk.iteOmega]; done) | (simp [*, go_sem, ↓IntWalk.iteOmega]; with_reducible rfl)); simp only [Act.put, List.setIfInBounds_toArray, List.set_cons_succ, List.set_cons_zero]))
            refine st_major (fun b => FL b ∨ F b) (wY) rfl rfl (by rfl) rfl (⟨_, rfl⟩) (fun _ _ _ _ _ _ => trivial) (fun v wx ob h => h.imp fun F2 h => h.imp fun n2 h => h.imp fun F3 h => h.imp fun L3 h => ⟨h.1.non ((Chg.refl _ wx).alloc ob), h.2⟩) (fun w hC hG hS => settle_of (r2 := ?_) ?_ ?_) ?_
            rotate_left
            (first | (go_simp; done) | (go_simp; rfl))
            · have hS2 : ∃ FL2 n2, LBs wo FL2 F g s2 n2 S2 L _ ∧ n2 ≤ n + 100 := hS
              obtain ⟨F2, n2, hS2, hn2⟩ := hS2
              refine settle_enter ((Hr.out _ F2 n2 hC hS2).mono ?_)
              rintro e w6 ⟨rfl, L3, hT6, hl6, hi6, hc6⟩
              have hln : L3.length = L.length := by have := congrArg List.length hi6; simpa using this
              exact ⟨_, rfl, rfl, hc6.mono fun b e => .inr e, ⟨F2, n2, F, L3, hS2.ref hT6 (by rw [hi6]; exact hS2.nd) (fun b h => .inl h) hc6, hn2, hl6, by omega⟩, trivial⟩
            rintro v rfl
            simp only [Act.put, List.setIfInBounds_toArray, List.set_cons_succ, List.set_cons_zero]
            repeat (first | (refine st_pass (by rfl) ?_; simp only [Act.put, List.setIfInBounds_toArray, List.set_cons_succ, List.set_cons_zero]) | (refine st_plain (fun b => FL b ∨ F b) (wY) rfl rfl (f := ?_) (by rfl) rfl rfl (fun w hC hG => ?_) ?_; rotate_left; (clear hG; first | (go_simp; done) | (go_simp; with_reducible rfl) | (simp [*, go_sem, ↓IntWalk.iteOmega]; done) | (simp [*, go_sem, ↓IntWalk.iteOmega]; with_reducible rfl)); simp only [Act.put, List.setIfInBounds_toArray, List.set_cons_succ, List.set_cons_zero]))
            refine st_end (fun b => FL b ∨ F b) wY rfl rfl (fun w6 hC6 hS6 hG6 => ?_)
            have hS7 : ∃ FL2 n2 F2 L2, LBs wo FL2 F2 g s2 n2 S2 L2 w6 ∧ n2 ≤ n + 100 ∧ lsOf L2 = S2 ∧ L2.length ≤ L.length + 100 := hS6
            have hbx6 := hbx.chg hC6 (fun e => e.elim hbxL hbxF)
            clear hG6 hS6 y1 y2 y3
            obtain ⟨F2, n2, G2, L2, hB6, hn6, hl6, hL6⟩ := hS7
            go_wp2_with fail
            go_meet
            exact ⟨rfl, ⟨F2, G2, n2, S2, L2, hB6, hl6.symm, by omega, (by show _ ≤ _; have := hLk.out; omega), HT2.out⟩, hbx6⟩
        · as_aux_lemma =>
            go_wp2_with fail
            go_meet
            exact ⟨rfl, ⟨FL, F, n, s, L, hB, hsl, by omega, (by show _ ≤ _; have := hLk.out; omega), fun a x h => by have := hT.out a x h; omega⟩, hbx⟩
      case rest =>
        clear hB x0 x1 x2 x3 x4 x5 x6 hbx hbxL hbxF hbxl hCw hsl hnk hLk hT
        obtain ⟨rfl, hbb, hbx⟩ := hcut
        obtain ⟨FL, F, n, s, L, hB, hsl, hnk, hLk, hT⟩ := hbb
        as_aux_lemma =>
          have hmx : nm.size ≤ maxLen := by unfold maxLen; omega
          have hLl := hLk.out
          have q := eq_held
          have hFLlt : ∀ b, FL b → b < wc.heap.size := fun b h => hB.ln.lt h
          have hFlt : ∀ b, F b → b < wc.heap.size := hB.rl.lt
          have x1 : wc.cell? ⟨gx, 1, none⟩ = some (.int .i64 node) := hbx.cell 1
          have x3 : wc.cell? ⟨gx, 3, none⟩ = some (.string nm) := hbx.cell 3
          have x5 : wc.cell? ⟨gx, 5, none⟩ = some (.int .i64 vep) := hbx.cell 5
          have x6 : wc.cell? ⟨gx, 6, none⟩ = some (.slice Bn mm dm) := hbx.cell 6
          have hbxl := hbx.lt
          have hOr := linOrphans_any wc FL g n s hB.ln (by omega) vep Bn mm dm M (Hrm.out.non hB.chg) hmc
          go_wp2_with fail
          refine hOr.mono ?_
          clear hOr
          rintro e w5 ⟨A1, n1, c1, X1, rfl, hr1, hm1, ho1, hcK⟩
          have hos := hB.chg.size
          have hks := hcK.size
          replace hB := hB.non hcK
          replace hbx := hbx.non hcK
          clear x1 x3 x5 x6 hbxl
          have ho1l : ∀ b, (Value.slice A1 n1 c1).ownBlock = some b → ¬ FL b ∧ ¬ F b ∧ wo.heap.size ≤ b ∧ b < w5.heap.size := fun b hb => by
            have h1 := ho1.lt hb
            refine ⟨fun h => by have := hFLlt b h; omega, fun h => by have := hFlt b h; omega, by omega, h1.2⟩
          have x1 : w5.cell? ⟨gx, 1, none⟩ = some (.int .i64 node) := hbx.cell 1
          have x3 : w5.cell? ⟨gx, 3, none⟩ = some (.string nm) := hbx.cell 3
          have x5 : w5.cell? ⟨gx, 5, none⟩ = some (.int .i64 vep) := hbx.cell 5
          have x6 : w5.cell? ⟨gx, 6, none⟩ = some (.slice Bn mm dm) := hbx.cell 6
          have hbxl := hbx.lt
          have hHd := linHeld_any w5 FL g n s hB.ln nm hmx
          obtain ⟨ha, hb, hcc, hHA⟩ := held_agg s nm
          obtain ⟨hbo, hHB⟩ : ∃ z, heldB s nm = z := ⟨_, rfl⟩
          unfold HdPost at hHd
          rw [hHA, hHB] at hHd
          have HHA := Lib.hid hHA
          have HHB := Lib.hid hHB
          clear hHA hHB hcK
          go_wp2_with fail
          refine hHd.mono ?_
          clear hHd
          rintro e w6 ⟨rfl, hcK⟩
          obtain ⟨w7, hw7⟩ : ∃ wz, w6.alloc (.cells #[.string ha, .int .i64 hb, .int .i64 hcc] 55) = wz := ⟨_, rfl⟩
          have hcL : Chg Non w5 w7 := hw7 ▸ hcK.alloc _
          have hbH : Blk w7 w6.heap.size 55 #[.string ha, .int .i64 hb, .int .i64 hcc] := hw7 ▸ Blk.new _ _ _
          replace hB := hB.non hcL
          replace hbx := hbx.non hcL
          clear x1 x3 x5 x6 hbxl
          replace ho1 := ho1.non hcL
          have hl67 := hcL.size
          have x1 : w7.cell? ⟨gx, 1, none⟩ = some (.int .i64 node) := hbx.cell 1
          have x3 : w7.cell? ⟨gx, 3, none⟩ = some (.string nm) := hbx.cell 3
          have x5 : w7.cell? ⟨gx, 5, none⟩ = some (.int .i64 vep) := hbx.cell 5
          have x6 : w7.cell? ⟨gx, 6, none⟩ = some (.slice Bn mm dm) := hbx.cell 6
          have hbxl := hbx.lt
          obtain ⟨h1, hh1⟩ : ∃ x, w6.heap.size = x := ⟨_, rfl⟩
          rw [hh1] at hbH
          have hHr := refHeld_any w7 F s2 L hB.rl nm
          unfold HdPost at hHr
          rw [← hsl.out, HHA.out, HHB.out] at hHr
          clear hcK hcL
          go_wp2_with fail
          refine hHr.mono ?_
          clear hHr
          rintro e w8 ⟨rfl, hcK⟩
          obtain ⟨w9, hw9⟩ : ∃ wz, w8.alloc (.cells #[.string ha, .int .i64 hb, .int .i64 hcc] 55) = wz := ⟨_, rfl⟩
          have hcL : Chg Non w7 w9 := hw9 ▸ hcK.alloc _
          have hbI : Blk w9 w8.heap.size 55 #[.string ha, .int .i64 hb, .int .i64 hcc] := hw9 ▸ Blk.new _ _ _
          replace hB := hB.non hcL
          replace hbx := hbx.non hcL
          clear x1 x3 x5 x6 hbxl
          replace ho1 := ho1.non hcL
          replace hbH := hbH.non hcL
          have hl79 := hcL.size
          have x1 : w9.cell? ⟨gx, 1, none⟩ = some (.int .i64 node) := hbx.cell 1
          have x3 : w9.cell? ⟨gx, 3, none⟩ = some (.string nm) := hbx.cell 3
          have x5 : w9.cell? ⟨gx, 5, none⟩ = some (.int .i64 vep) := hbx.cell 5
          have x6 : w9.cell? ⟨gx, 6, none⟩ = some (.slice Bn mm dm) := hbx.cell 6
          have hbxl := hbx.lt
          obtain ⟨h2, hh2⟩ : ∃ x, w8.heap.size = x := ⟨_, rfl⟩
          rw [hh2] at hbI
          have hOf := linOf_any w9 FL g n s hB.ln (by omega) node
          clear hcK hcL
          go_wp2_with fail
          refine hOf.mono ?_
          clear hOf
          rintro e wq ⟨A2, n2, c2, X2, rfl, hr2, hm2, ho2, hcK⟩
          replace hB := hB.non hcK
          replace hbx := hbx.non hcK
          clear x1 x3 x5 x6 hbxl
          replace ho1 := ho1.non hcK
          replace hbH := hbH.non hcK
          replace hbI := hbI.non hcK
          have ho2l : ∀ b, (Value.slice A2 n2 c2).ownBlock = some b → ¬ FL b ∧ ¬ F b ∧ wo.heap.size ≤ b := fun b hb => by
            have h1 := (ho2.lt hb).1
            refine ⟨fun h => by have := hFLlt b h; omega, fun h => by have := hFlt b h; omega, by omega⟩
          have HB := Lib.hid (fun (wx : World) (h : Chg Non wq wx) => hB.non h)
          have Hx1 := Lib.hid (fun (wx : World) (h : Chg Non wq wx) => ho1.rds.non h)
          have Hx2 := Lib.hid (fun (wx : World) (h : Chg Non wq wx) => ho2.rds.non h)
          have hn1l := ho1.lenS2
          have hn2l := ho2.lenS2
          obtain ⟨tt, htt⟩ : ∃ z, timesR s nm = z := ⟨_, rfl⟩
          have Ho := Lib.hid (fun (wx : World) (h : Chg Non wq wx) => (show Calls Try.prog 26 #[.pointer (some ⟨s2, 0, none⟩), .agg #[.int .i64 vep, .slice Bn mm dm]] wx (fun e w2 => ∃ A c, e = .returned (.slice A n1 c) ∧ Rds w2 1 A n1 (sv X1) ∧ Chg Non wx w2) from by
            refine (refOrphans_any wx F s2 L (HB.out wx h).rl hB.nd (by omega) vep Bn mm dm M (Hrm.out.non (HB.out wx h).chg) hmc).mono ?_
            rintro e w2 ⟨A', n', c', X', rfl, hr', hm', ho', hc'⟩
            obtain rfl : X' = X1 := rises_eqS hr' hr1 fun z => by rw [hm' z, hm1 z, hsl.out]
            obtain rfl : n' = n1 := ho'.lenS2.trans hn1l.symm
            exact ⟨A', c', rfl, ho'.rds, hc'⟩))
          have Hf := Lib.hid (fun (wx : World) (h : Chg Non wq wx) => (show Calls Try.prog 27 #[.pointer (some ⟨s2, 0, none⟩), .int .i64 node] wx (fun e w2 => ∃ A c, e = .returned (.slice A n2 c) ∧ Rds w2 1 A n2 (sv X2) ∧ Chg Non wx w2) from by
            refine (refOf_any wx F s2 L (HB.out wx h).rl hB.nd (by omega) node).mono ?_
            rintro e w2 ⟨A', n', c', X', rfl, hr', hm', ho', hc'⟩
            obtain rfl : X' = X2 := rises_eqS hr' hr2 fun z => by rw [hm' z, hm2 z, hsl.out]
            obtain rfl : n' = n2 := ho'.lenS2.trans hn2l.symm
            exact ⟨A', c', rfl, ho'.rds, hc'⟩))
          have Ht := Lib.hid (fun (wx : World) (h : Chg Non wq wx) => (show Calls Try.prog 11 #[.pointer (some ⟨g, 0, none⟩), .string nm] wx (fun e w2 => e = .returned (.int .i64 tt) ∧ wx = w2) from htt ▸ linTimes_any wx FL g n s (HB.out wx h).ln nm hmx))
          have Hu := Lib.hid (fun (wx : World) (h : Chg Non wq wx) => (show Calls Try.prog 28 #[.pointer (some ⟨s2, 0, none⟩), .string nm] wx (fun e w2 => e = .returned (.int .i64 tt) ∧ wx = w2) from by have h9 := refTimes_any wx F s2 L nm (HB.out wx h).rl; rw [← hsl.out, htt] at h9; exact h9))
          have hss1 : n1 ≤ 9223372036854775807 := by obtain ⟨A', c', e', h1, h2, _⟩ := ho1.open_; unfold maxLen at h2; omega
          have hss2 : n2 ≤ 9223372036854775807 := by obtain ⟨A', c', e', h1, h2, _⟩ := ho2.open_; unfold maxLen at h2; omega
          have y1 : ∀ wx, Chg Non wq wx → wx.cell? ⟨gx, 1, none⟩ = some (.int .i64 node) := fun wx h => (hbx.non h).cell 1
          have y3 : ∀ wx, Chg Non wq wx → wx.cell? ⟨gx, 3, none⟩ = some (.string nm) := fun wx h => (hbx.non h).cell 3
          have y5 : ∀ wx, Chg Non wq wx → wx.cell? ⟨gx, 5, none⟩ = some (.int .i64 vep) := fun wx h => (hbx.non h).cell 5
          have y6 : ∀ wx, Chg Non wq wx → wx.cell? ⟨gx, 6, none⟩ = some (.slice Bn mm dm) := fun wx h => (hbx.non h).cell 6
          have p0 : ∀ wx, Chg Non wq wx → wx.cell? ⟨h1, 0, none⟩ = some (.string ha) := fun wx h => (hbH.non h).cell 0
          have p1 : ∀ wx, Chg Non wq wx → wx.cell? ⟨h1, 1, none⟩ = some (.int .i64 hb) := fun wx h => (hbH.non h).cell 1
          have p2 : ∀ wx, Chg Non wq wx → wx.cell? ⟨h1, 2, none⟩ = some (.int .i64 hcc) := fun wx h => (hbH.non h).cell 2
          have r0 : ∀ wx, Chg Non wq wx → wx.cell? ⟨h2, 0, none⟩ = some (.string ha) := fun wx h => (hbI.non h).cell 0
          have r1 : ∀ wx, Chg Non wq wx → wx.cell? ⟨h2, 1, none⟩ = some (.int .i64 hb) := fun wx h => (hbI.non h).cell 1
          have r2 : ∀ wx, Chg Non wq wx → wx.cell? ⟨h2, 2, none⟩ = some (.int .i64 hcc) := fun wx h => (hbI.non h).cell 2
          have hxl := hbx.lt
          have hHl := hbH.lt
          have hIl := hbI.lt
          have hnb : (hbo != hbo) = false := bne_self_eq_false _
          have hnt : (tt != tt) = false := bne_self_eq_false _
          clear htt hn1l hn2l hm1 hm2 hr1 hr2 hbx hbH hbI hcK hw7 hw9 hh1 hh2
          go_wp2_with fail
          refine st_region _ Non [7, 8, 26, 27, 34, 38] [] (fun _ _ _ _ => True) (fun i _ v wx => (i = 7 → ∃ A c, v = .slice A n1 c ∧ Rds wx 1 A n1 (sv X1)) ∧ (i = 26 → ∃ A c, v = .slice A n2 c ∧ Rds wx 1 A n2 (sv X2))) (fun i _ v => if i = 7 then ∃ A c, v = .slice A n1 c else if i = 8 then v = .bool true else if i = 26 then ∃ A c, v = .slice A n2 c else if i = 27 then v = .bool true else v = .int .i64 tt) (fun _ => True) (by kernel_rfl) (okB_of_F _ (by kernel_rfl)) (fun _ h => h.elim) trivial (fun _ _ _ => trivial) ?_
          repeat (first | (refine st_pass (by rfl) ?_; simp only [Act.put, List.setIfInBounds_toArray, List.set_cons_succ, List.set_cons_zero]) | (refine st_plain (Non) (wq) rfl rfl (f := ?_) (by rfl) rfl rfl (fun w hC hG => ?_) ?_; rotate_left; (clear hG; first | (go_simp; done) | (go_simp; with_reducible rfl) | (simp [*, go_sem, ↓IntWalk.iteOmega]; done) | (simp [*, go_sem, ↓IntWalk.iteOmega]; with_reducible rfl)); simp only [Act.put, List.setIfInBounds_toArray, List.set_cons_succ, List.set_cons_zero]))
          refine st_major (Non) (wq) rfl rfl (by rfl) rfl (⟨_, none, 0, rfl⟩) (fun v w1 w2 _ h1 h2 => ⟨fun e => by obtain ⟨A, c, e2, hr⟩ := h2.1 e; exact ⟨A, c, e2, hr.non h1⟩, fun e => by obtain ⟨A, c, e2, hr⟩ := h2.2 e; exact ⟨A, c, e2, hr.non h1⟩⟩) (fun _ _ _ _ => trivial) (fun w hC hG hS => settle_of (r2 := ?_) ?_ ?_) ?_
          rotate_left
          (first | (go_simp; done) | (go_simp; rfl))
          · refine settle_enter ((Ho.out _ hC).mono ?_)
            rintro e w6 ⟨A7, c7, rfl, hr7, hc7⟩
            exact ⟨_, rfl, ⟨A7, c7, rfl⟩, hc7, trivial, fun _ => ⟨A7, c7, rfl, hr7⟩, fun e => by cases e⟩
          rintro v hv
          obtain ⟨A7, c7, rfl⟩ : ∃ A c, v = .slice A n1 c := hv
          simp only [Act.put, List.setIfInBounds_toArray, List.set_cons_succ, List.set_cons_zero]
          repeat (first | (refine st_pass (by rfl) ?_; simp only [Act.put, List.setIfInBounds_toArray, List.set_cons_succ, List.set_cons_zero]) | (refine st_plain (Non) (wq) rfl rfl (f := ?_) (by rfl) rfl rfl (fun w hC hG => ?_) ?_; rotate_left; (clear hG; first | (go_simp; done) | (go_simp; with_reducible rfl) | (simp [*, go_sem, ↓IntWalk.iteOmega]; done) | (simp [*, go_sem, ↓IntWalk.iteOmega]; with_reducible rfl)); simp only [Act.put, List.setIfInBounds_toArray, List.set_cons_succ, List.set_cons_zero]))
          refine st_major (Non) (wq) rfl rfl (by rfl) rfl (⟨_, rfl⟩) (fun v w1 w2 _ h1 h2 => ⟨fun e => by obtain ⟨A, c, e2, hr⟩ := h2.1 e; exact ⟨A, c, e2, hr.non h1⟩, fun e => by obtain ⟨A, c, e2, hr⟩ := h2.2 e; exact ⟨A, c, e2, hr.non h1⟩⟩) (fun _ _ _ _ => trivial) (fun w hC hG hS => settle_of (r2 := ?_) ?_ ?_) ?_
          rotate_left
          (first | (go_simp; done) | (go_simp; rfl))
          · have hK : (True → ∃ A c, Value.slice A7 n1 c7 = .slice A n1 c ∧ Rds w 1 A n1 (sv X1)) := fun _ => (hG 7 rfl).1 (by first | exact trivial | rfl)
            obtain ⟨A8, c8, e8, hr8⟩ := hK trivial
            injection e8 with e9 e10 e11
            subst e9 e11
            refine settle_enter ((sameIDs_same w A1 n1 c1 A7 c7 X1 (Hx1.out w hC) hr8 hss1).mono ?_)
            rintro e w6 ⟨rfl, hc6⟩
            exact ⟨_, rfl, rfl, hc6, trivial, (fun e => by cases e), (fun e => by cases e)⟩
          rintro v hv
          obtain rfl : v = .bool true := hv
          simp only [Act.put, List.setIfInBounds_toArray, List.set_cons_succ, List.set_cons_zero]
          repeat (first | (refine st_pass (by rfl) ?_; simp only [Act.put, List.setIfInBounds_toArray, List.set_cons_succ, List.set_cons_zero]) | (refine st_plain (Non) (wq) rfl rfl (f := ?_) (by rfl) rfl rfl (fun w hC hG => ?_) ?_; rotate_left; (clear hG; first | (go_simp; done) | (go_simp; with_reducible rfl) | (simp [*, go_sem, ↓IntWalk.iteOmega]; done) | (simp [*, go_sem, ↓IntWalk.iteOmega]; with_reducible rfl)); simp only [Act.put, List.setIfInBounds_toArray, List.set_cons_succ, List.set_cons_zero]))
          refine st_major (Non) (wq) rfl rfl (by rfl) rfl (⟨_, none, 0, rfl⟩) (fun v w1 w2 _ h1 h2 => ⟨fun e => by obtain ⟨A, c, e2, hr⟩ := h2.1 e; exact ⟨A, c, e2, hr.non h1⟩, fun e => by obtain ⟨A, c, e2, hr⟩ := h2.2 e; exact ⟨A, c, e2, hr.non h1⟩⟩) (fun _ _ _ _ => trivial) (fun w hC hG hS => settle_of (r2 := ?_) ?_ ?_) ?_
          rotate_left
          (first | (go_simp; done) | (go_simp; rfl))
          · refine settle_enter ((Hf.out _ hC).mono ?_)
            rintro e w6 ⟨A9, c9, rfl, hr9, hc9⟩
            exact ⟨_, rfl, ⟨A9, c9, rfl⟩, hc9, trivial, (fun e => by cases e), fun _ => ⟨A9, c9, rfl, hr9⟩⟩
          rintro v hv
          obtain ⟨A9, c9, rfl⟩ : ∃ A c, v = .slice A n2 c := hv
          simp only [Act.put, List.setIfInBounds_toArray, List.set_cons_succ, List.set_cons_zero]
          repeat (first | (refine st_pass (by rfl) ?_; simp only [Act.put, List.setIfInBounds_toArray, List.set_cons_succ, List.set_cons_zero]) | (refine st_plain (Non) (wq) rfl rfl (f := ?_) (by rfl) rfl rfl (fun w hC hG => ?_) ?_; rotate_left; (clear hG; first | (go_simp; done) | (go_simp; with_reducible rfl) | (simp [*, go_sem, ↓IntWalk.iteOmega]; done) | (simp [*, go_sem, ↓IntWalk.iteOmega]; with_reducible rfl)); simp only [Act.put, List.setIfInBounds_toArray, List.set_cons_succ, List.set_cons_zero]))
          refine st_major (Non) (wq) rfl rfl (by rfl) rfl (⟨_, rfl⟩) (fun v w1 w2 _ h1 h2 => ⟨fun e => by obtain ⟨A, c, e2, hr⟩ := h2.1 e; exact ⟨A, c, e2, hr.non h1⟩, fun e => by obtain ⟨A, c, e2, hr⟩ := h2.2 e; exact ⟨A, c, e2, hr.non h1⟩⟩) (fun _ _ _ _ => trivial) (fun w hC hG hS => settle_of (r2 := ?_) ?_ ?_) ?_
          rotate_left
          (first | (go_simp; done) | (go_simp; rfl))
          · obtain ⟨A8, c8, e8, hr8⟩ := (hG 26 rfl).2 (by first | exact trivial | rfl)
            injection e8 with e9 e10 e11
            subst e9 e11
            refine settle_enter ((sameIDs_same w A2 n2 c2 A9 c9 X2 (Hx2.out w hC) hr8 hss2).mono ?_)
            rintro e w6 ⟨rfl, hc6⟩
            exact ⟨_, rfl, rfl, hc6, trivial, (fun e => by cases e), (fun e => by cases e)⟩
          rintro v hv
          obtain rfl : v = .bool true := hv
          simp only [Act.put, List.setIfInBounds_toArray, List.set_cons_succ, List.set_cons_zero]
          repeat (first | (refine st_pass (by rfl) ?_; simp only [Act.put, List.setIfInBounds_toArray, List.set_cons_succ, List.set_cons_zero]) | (refine st_plain (Non) (wq) rfl rfl (f := ?_) (by rfl) rfl rfl (fun w hC hG => ?_) ?_; rotate_left; (clear hG; first | (go_simp; done) | (go_simp; with_reducible rfl) | (simp [*, go_sem, ↓IntWalk.iteOmega]; done) | (simp [*, go_sem, ↓IntWalk.iteOmega]; with_reducible rfl)); simp only [Act.put, List.setIfInBounds_toArray, List.set_cons_succ, List.set_cons_zero]))
          refine st_major (Non) (wq) rfl rfl (by rfl) rfl (⟨_, rfl⟩) (fun v w1 w2 _ h1 h2 => ⟨fun e => by obtain ⟨A, c, e2, hr⟩ := h2.1 e; exact ⟨A, c, e2, hr.non h1⟩, fun e => by obtain ⟨A, c, e2, hr⟩ := h2.2 e; exact ⟨A, c, e2, hr.non h1⟩⟩) (fun _ _ _ _ => trivial) (fun w hC hG hS => settle_of (r2 := ?_) ?_ ?_) ?_
          rotate_left
          (first | (go_simp; done) | (go_simp; rfl))
          · refine settle_enter ((Ht.out _ hC).mono ?_)
            rintro e w6 ⟨rfl, rfl⟩
            exact ⟨_, rfl, rfl, Chg.refl _ _, trivial, (fun e => by cases e), (fun e => by cases e)⟩
          rintro v hv
          obtain rfl : v = .int .i64 tt := hv
          simp only [Act.put, List.setIfInBounds_toArray, List.set_cons_succ, List.set_cons_zero]
          repeat (first | (refine st_pass (by rfl) ?_; simp only [Act.put, List.setIfInBounds_toArray, List.set_cons_succ, List.set_cons_zero]) | (refine st_plain (Non) (wq) rfl rfl (f := ?_) (by rfl) rfl rfl (fun w hC hG => ?_) ?_; rotate_left; (clear hG; first | (go_simp; done) | (go_simp; with_reducible rfl) | (simp [*, go_sem, ↓IntWalk.iteOmega]; done) | (simp [*, go_sem, ↓IntWalk.iteOmega]; with_reducible rfl)); simp only [Act.put, List.setIfInBounds_toArray, List.set_cons_succ, List.set_cons_zero]))
          refine st_major (Non) (wq) rfl rfl (by rfl) rfl (⟨_, rfl⟩) (fun v w1 w2 _ h1 h2 => ⟨fun e => by obtain ⟨A, c, e2, hr⟩ := h2.1 e; exact ⟨A, c, e2, hr.non h1⟩, fun e => by obtain ⟨A, c, e2, hr⟩ := h2.2 e; exact ⟨A, c, e2, hr.non h1⟩⟩) (fun _ _ _ _ => trivial) (fun w hC hG hS => settle_of (r2 := ?_) ?_ ?_) ?_
          rotate_left
          (first | (go_simp; done) | (go_simp; rfl))
          · refine settle_enter ((Hu.out _ hC).mono ?_)
            rintro e w6 ⟨rfl, rfl⟩
            exact ⟨_, rfl, rfl, Chg.refl _ _, trivial, (fun e => by cases e), (fun e => by cases e)⟩
          rintro v hv
          obtain rfl : v = .int .i64 tt := hv
          simp only [Act.put, List.setIfInBounds_toArray, List.set_cons_succ, List.set_cons_zero]
          repeat (first | (refine st_pass (by rfl) ?_; simp only [Act.put, List.setIfInBounds_toArray, List.set_cons_succ, List.set_cons_zero]) | (refine st_plain (Non) (wq) rfl rfl (f := ?_) (by rfl) rfl rfl (fun w hC hG => ?_) ?_; rotate_left; (clear hG; first | (go_simp; done) | (go_simp; with_reducible rfl) | (simp [*, go_sem, ↓IntWalk.iteOmega]; done) | (simp [*, go_sem, ↓IntWalk.iteOmega]; with_reducible rfl)); simp only [Act.put, List.setIfInBounds_toArray, List.set_cons_succ, List.set_cons_zero]))
          refine st_end Non wq rfl rfl (fun w6 hC6 _ hG6 => ?_)
          replace hB := hB.non hC6
          replace ho2 := ho2.non hC6
          have hol1 : Hid (∃ xs, OwnR rkI w6 0 (.slice A1 n1 c1) n1 xs) := ⟨_, OwnR.mono (ho1.non hC6) (Nat.zero_le _)⟩
          clear hG6 y1 y3 y5 y6 p0 p1 p2 r0 r1 r2 HB Ho Hf Ht Hu Hx1 Hx2 ho1 hC6 hxl hHl hIl q
          go_wp2_with fail
          obtain ⟨wq, rfl⟩ : ∃ wq, wq = w6 := ⟨_, rfl⟩
          go_loopw [17] (fun i wr => ∃ j : Nat, j ≤ n1 ∧ i = .int .i64 j ∧ Hid (∃ xs, OwnR rkI wr 0 (.slice A1 n1 c1) n1 xs) ∧ Chg (fun b => (Value.slice A1 n1 c1).ownBlock = some b) wq wr) (fun i _ => n1 - (intOf i).toNat)
          case atStart => exact ⟨0, Nat.zero_le _, rfl, hol1, Chg.refl _ _⟩
          case round =>
            obtain ⟨j, hj, rfl, hl, hCl⟩ := hrel
            clear hol1
            by_cases hlt2 : j < n1
            · obtain ⟨xs, hx⟩ := hl.out
              obtain ⟨gy, cap, hv, hg1, hg2⟩ := World.ownsRow.form hx (by omega)
              injection hv with e1 e2 e3
              subst e1 e3
              have hlen : xs.length = n1 * 1 := hx.1
              have q1 : wr.cell? ⟨gy, j, none⟩ = xs[j]? := World.ownsRow.cellAt hx j (by show j < n1 * 1; omega)
              rw [List.getElem?_eq_getElem (by omega)] at q1
              have f1 : wr.frozen? ⟨gy, j, none⟩ = false := World.ownsRow.frozenAt hx j
              have hl2 : Hid (∃ xs, OwnR rkI (wr.setCell ⟨gy, j, none⟩ (.string ⟨#[103, 111, 110, 101]⟩)) 0 (.slice (some ⟨gy, 0, none⟩) n1 c1) n1 xs) := ⟨_, (World.ownsRow.stored hx j (.string ⟨#[103, 111, 110, 101]⟩)).1⟩
              have hC2 := hCl.setCell (p := ⟨gy, j, none⟩) (.inl rfl) (.string ⟨#[103, 111, 110, 101]⟩)
              clear hx hl hCl
              go_wp2_with fail
              go_roundw
              case rel => exact ⟨j + 1, by omega, by go_num, hl2, hC2⟩
              case measure => simp [intOf]; omega
            · clear hl
              have hB8 := hB.put hCl (fun b h e => (ho1l b e).1 h) (fun b h e => (ho1l b e).2.1 h) (fun b e => (ho1l b e).2.2.1)
              have hol2 : Hid (∃ xs, OwnR rkI wr 0 (.slice A2 n2 c2) n2 xs) := ⟨_, OwnR.mono (ho2.chg hCl (fun b h e => by have h1 := (ho1l b e).2.2.2; have h2 := (ho2.lt h).1; omega)) (Nat.zero_le _)⟩
              clear hCl hB ho2
              go_wp2_with fail
              obtain ⟨wO, rfl⟩ : ∃ wO, wO = wr := ⟨_, rfl⟩
              go_loopw [18] (fun i wr => ∃ j : Nat, j ≤ n2 ∧ i = .int .i64 j ∧ Hid (∃ xs, OwnR rkI wr 0 (.slice A2 n2 c2) n2 xs) ∧ Chg (fun b => (Value.slice A2 n2 c2).ownBlock = some b) wO wr) (fun i _ => n2 - (intOf i).toNat)
              case atStart => exact ⟨0, Nat.zero_le _, rfl, hol2, Chg.refl _ _⟩
              case round =>
                obtain ⟨j, hj, rfl, hl, hCl⟩ := hrel
                clear hol2
                by_cases hlt2 : j < n2
                · obtain ⟨xs, hx⟩ := hl.out
                  obtain ⟨gy, cap, hv, hg1, hg2⟩ := World.ownsRow.form hx (by omega)
                  injection hv with e1 e2 e3
                  subst e1 e3
                  have hlen : xs.length = n2 * 1 := hx.1
                  have q1 : wr.cell? ⟨gy, j, none⟩ = xs[j]? := World.ownsRow.cellAt hx j (by show j < n2 * 1; omega)
                  rw [List.getElem?_eq_getElem (by omega)] at q1
                  have f1 : wr.frozen? ⟨gy, j, none⟩ = false := World.ownsRow.frozenAt hx j
                  have hl2 : Hid (∃ xs, OwnR rkI (wr.setCell ⟨gy, j, none⟩ (.string ⟨#[103, 111, 110, 101]⟩)) 0 (.slice (some ⟨gy, 0, none⟩) n2 c2) n2 xs) := ⟨_, (World.ownsRow.stored hx j (.string ⟨#[103, 111, 110, 101]⟩)).1⟩
                  have hC2 := hCl.setCell (p := ⟨gy, j, none⟩) (.inl rfl) (.string ⟨#[103, 111, 110, 101]⟩)
                  clear hx hl hCl
                  go_wp2_with fail
                  go_roundw
                  case rel => exact ⟨j + 1, by omega, by go_num, hl2, hC2⟩
                  case measure => simp [intOf]; omega
                · clear hl
                  have hB9 := hB8.put hCl (fun b h e => (ho2l b e).1 h) (fun b h e => (ho2l b e).2.1 h) (fun b e => (ho2l b e).2.2)
                  clear hCl hB8
                  go_wp2_with fail
                  go_roundw
                  case rel => exact ⟨k + 1, by omega, by go_num, FL, F, n, s, L, hB9, hsl, hnk, hLk, hT⟩
                  case measure => simp [intOf]; omega
    · have hC0 := hB.chg
      clear hB
      go_wp2_with fail
      go_ret
      exact ⟨rfl, hC0⟩

set_option maxRecDepth 100000 in
set_option maxHeartbeats 4000000 in
theorem lineagePlays_walk (w : World) (A2 : Option Addr) (m c2 : Nat) (e2 : Rd Try.prog w 44 (Value.slice A2 m c2).cells.toList) :
    Calls Try.prog 5 #[.slice A2 m c2] w fun e w2 => e = .returned (.bool true) ∧ Chg Non w w2 := by
  obtain ⟨A', n', c', X, i1, i2, i3, i4, i5⟩ := Rd.acts e2
  simp only [Value.cells, List.cons.injEq, and_true, Value.slice.injEq] at i1
  obtain ⟨rfl, rfl, rfl⟩ := i1
  by_cases hn : m ≤ 200
  · exact lineagePlays_core w A2 m c2 X i4 i5 hn
  · clear i4 i5
    unfold maxLen at i3
    have k1 : 200 < m := by omega
    clear hn
    go_enter Try.func5, Try.ntmps5
    go_wp2_with fail
    refine (lin_alive _).mono ?_
    rintro e w1 ⟨rfl, hc1⟩
    go_wp2_with fail
    go_ret
    exact ⟨rfl, hc1⟩
end Go.Proofs.Ytbkjpeelabdkfaa
