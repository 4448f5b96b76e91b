/-
  gleanerlaw21.MovePlays: the walk.
-/
import Derived.Test.YtflaliomkfbagaaMpBoth
import Derived.Test.YtflaliomkfbagaaRegionM
import Derived.Deep.CutBlock
namespace Go.Proofs.Ytflaliomkfbagaa
open Go.ChangeShapes Go.WideShapes Go.ChangeAt Go.RowKit Go.Deep
set_option linter.unusedVariables false
set_option linter.unusedSimpArgs false

/-- A call, as it lies. -/
structure Ac where
  way : Int
  nd : Int
  ep : Int
  nm : ByteArray
  An : Option Addr
  nn : Nat
  cn : Nat
  Li : List ByteArray
  Bn : Option Addr
  mn : Nat
  dn : Nat
  Mi : List Int
  nt : Nt
  NA : Option Addr
  nk : Nat
  nc : Nat
  NB : Option Addr
  nb : Nat
  nbd : Nat
def cellA (a : Ac) : List Value := [.int .i64 a.way, .int .i64 a.nd, .int .i64 a.ep, .string a.nm, .slice a.An a.nn a.cn, .slice a.Bn a.mn a.dn, .int .i64 a.nt.kind, .int .i64 a.nt.node, .int .i64 a.nt.life, .int .i64 a.nt.epoch, .string a.nt.id, .int .i64 a.nt.fn, .slice a.NA a.nk a.nc, .int .i64 a.nt.err, .int .i64 a.nt.val, .int .i64 a.nt.vep, .slice a.NB a.nb a.nbd]
theorem cellA_len (a : Ac) : (cellA a).length = 17 := rfl
structure Ac.ok (w : World) (a : Ac) : Prop where
  cm : a.cn ≤ maxLen
  nc : a.nn ≤ a.cn
  rds : Rds w 1 a.An a.nn (sv a.Li)
  L : ∀ x ∈ a.Li, x.size ≤ maxLen
  nm : a.nm.size ≤ maxLen
  dm : a.dn ≤ maxLen
  md : a.mn ≤ a.dn
  rdm : Rds w 1 a.Bn a.mn (iv a.Mi)
  nt : NtAt w a.nt a.NA a.nk a.nc a.NB a.nb a.nbd
set_option maxRecDepth 100000 in
theorem Rd.act {w : World} {l : List Value} (h : Rd Try.prog w 85 l) (hl : l.length = 17) : ∃ a : Ac, l = cellA a ∧ a.ok w := by
  obtain ⟨_, hg⟩ := h.structG Try.underlying85
  match l, hl, hg with
  | [a, b, c, d, e, f, n0, n1, n2, n3, n4, n5, n6, n7, n8, n9, n10], _, hg =>
    obtain ⟨x0, h0, k0⟩ := (show Rd Try.prog w 3 [a] from hg 0 _ rfl).i64 Try.underlying3
    obtain ⟨x1, h1, k1⟩ := (show Rd Try.prog w 3 [b] from hg 1 _ rfl).i64 Try.underlying3
    obtain ⟨x2, h2, k2⟩ := (show Rd Try.prog w 3 [c] from hg 2 _ rfl).i64 Try.underlying3
    obtain ⟨x3, h3, k3⟩ := (show Rd Try.prog w 33 [d] from hg 3 _ rfl).string Try.underlying33
    obtain ⟨A, n, c4, L, h4, m1, m2, m3, m4⟩ := (show Rd Try.prog w 30 [e] from hg 4 _ rfl).ids
    obtain ⟨B, m, c5, M, h5, p1, p2, p3, p4⟩ := (show Rd Try.prog w 29 [f] from hg 5 _ rfl).ints Try.underlying29 (by kernel_rfl) Try.underlying3
    obtain ⟨nt, NA, nk, nc, NB, nb, nbd, h6, hnt⟩ := Rd.note (S := #[n0, n1, n2, n3, n4, n5, n6, n7, n8, n9, n10]) (show Rd Try.prog w 59 [n0, n1, n2, n3, n4, n5, n6, n7, n8, n9, n10] from hg 6 _ rfl)
    simp only [List.cons.injEq, and_true] at h0 h1 h2 h3 h4 h5
    simp only [NtC, Array.mk.injEq, List.cons.injEq, and_true] at h6
    obtain ⟨g0, g1, g2, g3, g4, g5, g6, g7, g8, g9, g10⟩ := h6
    subst h0 h1 h2 h3 h4 h5 g0 g1 g2 g3 g4 g5 g6 g7 g8 g9 g10
    exact ⟨⟨x0, x1, x2, x3, A, n, c4, L, B, m, c5, M, nt, NA, nk, nc, NB, nb, nbd⟩, rfl, ⟨m2, m1, m3, m4, k3, p2, p1, p3, hnt⟩⟩
set_option maxRecDepth 100000 in
theorem Rd.acts {w : World} {cs : List Value} (h : Rd Try.prog w 75 cs) :
    ∃ A n c, ∃ X : List Ac, cs = [.slice A n c] ∧ n ≤ c ∧ c ≤ maxLen ∧ Rds w 17 A n (X.flatMap cellA) ∧ ∀ a ∈ X, a.ok w :=
  h.rows Try.underlying75 (by kernel_rfl) cellA_len fun l hl hr => hr.act hl

set_option maxRecDepth 100000 in
set_option maxHeartbeats 16000000 in
theorem movePlays_core (wo : World) (node room : Int) (A2 : Option Addr) (m c2 : Nat) (X : List Ac) (hx : Rds wo 17 A2 m (X.flatMap cellA)) (hX : ∀ a ∈ X, a.ok wo) (hm : m ≤ 200) :
    Calls Try.prog 7 #[.int .i64 node, .int .i64 room, .slice A2 m c2] wo fun e w2 => e = .returned (.bool true) ∧ Chg Non wo w2 := by
  have Hx := Lib.hid hx
  have HX := Lib.hid hX
  clear hx hX
  go_enter Try.func7, Try.ntmps7
  go_wp2_with fail
  refine (mv_alive _).mono ?_
  rintro e w1 ⟨rfl, hc1⟩
  go_wp2_with fail
  refine (newGiver_any _ _).mono ?_
  rintro e w2 ⟨g, sm, om, FG, rfl, hG, hFG, hc2⟩
  go_wp2_with fail
  refine (newTaker2_any _ _ _).mono ?_
  rintro e w3 ⟨t, st, tm, FT, rfl, hT, hFT, hc3⟩
  obtain ⟨rg, hrg⟩ : ∃ rg, w3.heap.size = rg := ⟨_, rfl⟩
  obtain ⟨w4, hw4⟩ : ∃ w4, w3.alloc (.cells #[.int .i64 node, .slice none 0 0, .slice none 0 0, .int .i64 0] 79) = w4 := ⟨_, rfl⟩
  obtain ⟨rk, hrk⟩ : ∃ rk, w4.heap.size = rk := ⟨_, rfl⟩
  obtain ⟨w5, hw5⟩ : ∃ w5, w4.alloc (.cells #[.int .i64 node, .int .i64 room, .slice none 0 0, .slice none 0 0] 83) = w5 := ⟨_, rfl⟩
  have hc4 : Chg Non w3 w4 := hw4 ▸ (Chg.refl _ _).alloc _
  have hc5 : Chg Non w4 w5 := hw5 ▸ (Chg.refl _ _).alloc _
  have hz34 : rk = rg + 1 := by rw [← hrk, ← hw4, World.size_alloc, hrg]
  have h0 : LB wo ⟨g, sm, om, t, st, tm, rg, rk⟩ 0 w5 := by
    have hbg : Blk w4 rg 79 #[.int .i64 node, .slice none 0 0, .slice none 0 0, .int .i64 0] := hw4 ▸ hrg ▸ Blk.new _ _ _
    have hbk : Blk w5 rk 83 #[.int .i64 node, .int .i64 room, .slice none 0 0, .slice none 0 0] := hw5 ▸ hrk ▸ Blk.new _ _ _
    have hs1 := hc1.size
    have hs2 := hc2.size
    have hs3 := hc3.size
    have hGl : ∀ b, FG b → b < w2.heap.size := hG.lt
    have hTl : ∀ b, FT b → b < w3.heap.size := hT.lt
    have hnF : ∀ (q b : Nat), F2 q (.slice none 0 0) (.slice none 0 0) b → b = q := fun q b h => by
      rcases h with h | h | h
      · exact h
      · cases h
      · cases h
    refine ⟨⟨FG, FT, F2 rg (.slice none 0 0) (.slice none 0 0), F2 rk (.slice none 0 0) (.slice none 0 0), 0, 0, 0, 0, ⟨node, fun _ => false, fun _ => none, 0⟩, ⟨node, max 0 room, fun _ => false, fun _ => none⟩, ⟨node, [], [], 0⟩, ⟨node, room, [], []⟩⟩, ⟨((hG.non hc3).non hc4).non hc5, (hT.non hc4).non hc5, ⟨none, 0, 0, none, 0, 0, ⟨rfl, rfl, hbg.non hc5, OwnR.nil _ _ _, OwnR.nil _ _ _⟩, rfl⟩, ⟨none, 0, 0, none, 0, 0, ⟨rfl, rfl, hbk, OwnR.nil _ _ _, OwnR.nil _ _ _⟩, rfl⟩, fun b => ⟨fun h1 h2 => ?_, fun h1 h2 => ?_, fun h1 h2 => ?_, fun h1 h2 => ?_, fun h1 h2 => ?_, fun h1 h2 => ?_⟩, fun b hb => ?_, (((hc1.non hc2).non hc3).non hc4).non hc5⟩, ⟨⟨rfl, ⟨List.Pairwise.nil, by simp, fun a h => by cases h⟩, ⟨rfl, rfl, rfl, fun x => ⟨by simp, rfl⟩, List.Pairwise.nil⟩, Nat.zero_le _, Nat.zero_le _, Nat.le_refl _, Nat.le_refl _, Nat.le_refl _, Nat.le_refl _, Nat.le_refl _, Nat.le_refl _, ⟨Int.le_refl _, Int.le_refl _⟩⟩, rfl, rfl⟩⟩
    · have := hGl b h1; have := hFT b h2; omega
    · have := hGl b h1; have := hnF _ b h2; omega
    · have := hGl b h1; have := hnF _ b h2; omega
    · have := hTl b h1; have := hnF _ b h2; omega
    · have := hTl b h1; have := hnF _ b h2; omega
    · have := hnF _ b h1; have := hnF _ b h2; omega
    · rcases hb with hb | hb | hb | hb
      · have := hFG b hb; omega
      · have := hFT b hb; omega
      · have := hnF _ b hb; omega
      · have := hnF _ b hb; omega
  clear hG hFG hT hFT hc1 hc2 hc3 hc4 hc5 hz34
  go_wp2_with fail
  go_loopw [12] (fun i wr => ∃ k : Nat, k ≤ m ∧ i = .int .i64 k ∧ LB wo ⟨g, sm, om, t, st, tm, rg, rk⟩ k wr) (fun i _ => m - (intOf i).toNat)
  case atStart => exact ⟨0, Nat.zero_le _, rfl, h0⟩
  case round =>
    clear h0 hw4 hw5 hrg hrk
    obtain ⟨k, hk, rfl, hbb⟩ := hrel
    obtain ⟨wz, rfl⟩ : ∃ wz, wz = wr := ⟨_, rfl⟩
    obtain ⟨x, hB, hR⟩ := hbb
    by_cases hlt : k < m
    · skip
      as_aux_lemma =>
        obtain ⟨ad, a, rfl, ha, hc0, hcN⟩ := Hx.out.getN cellA_len (by decide) hlt
        have hao := HX.out a (List.mem_of_getElem? ha)
        have hC := hB.chg
        have d0 := hC.cell (hc0 _ rfl) id
        have d1 : wz.cell? ⟨(ad.add (k * 17)).block, (ad.add (k * 17)).off + 1, none⟩ = some (.int .i64 a.nd) := hC.cell (hcN 0 _ rfl) id
        have d2 : wz.cell? ⟨(ad.add (k * 17)).block, (ad.add (k * 17)).off + 2, none⟩ = some (.int .i64 a.ep) := hC.cell (hcN 1 _ rfl) id
        have d3 : wz.cell? ⟨(ad.add (k * 17)).block, (ad.add (k * 17)).off + 3, none⟩ = some (.string a.nm) := hC.cell (hcN 2 _ rfl) id
        have d4 : wz.cell? ⟨(ad.add (k * 17)).block, (ad.add (k * 17)).off + 4, none⟩ = some (.slice a.An a.nn a.cn) := hC.cell (hcN 3 _ rfl) id
        have d5 : wz.cell? ⟨(ad.add (k * 17)).block, (ad.add (k * 17)).off + 5, none⟩ = some (.slice a.Bn a.mn a.dn) := hC.cell (hcN 4 _ rfl) id
        have d6 : wz.cell? ⟨(ad.add (k * 17)).block, (ad.add (k * 17)).off + 6, none⟩ = some (.int .i64 a.nt.kind) := hC.cell (hcN 5 _ rfl) id
        have d7 : wz.cell? ⟨(ad.add (k * 17)).block, (ad.add (k * 17)).off + 7, none⟩ = some (.int .i64 a.nt.node) := hC.cell (hcN 6 _ rfl) id
        have d8 : wz.cell? ⟨(ad.add (k * 17)).block, (ad.add (k * 17)).off + 8, none⟩ = some (.int .i64 a.nt.life) := hC.cell (hcN 7 _ rfl) id
        have d9 : wz.cell? ⟨(ad.add (k * 17)).block, (ad.add (k * 17)).off + 9, none⟩ = some (.int .i64 a.nt.epoch) := hC.cell (hcN 8 _ rfl) id
        have d10 : wz.cell? ⟨(ad.add (k * 17)).block, (ad.add (k * 17)).off + 10, none⟩ = some (.string a.nt.id) := hC.cell (hcN 9 _ rfl) id
        have d11 : wz.cell? ⟨(ad.add (k * 17)).block, (ad.add (k * 17)).off + 11, none⟩ = some (.int .i64 a.nt.fn) := hC.cell (hcN 10 _ rfl) id
        have d12 : wz.cell? ⟨(ad.add (k * 17)).block, (ad.add (k * 17)).off + 12, none⟩ = some (.slice a.NA a.nk a.nc) := hC.cell (hcN 11 _ rfl) id
        have d13 : wz.cell? ⟨(ad.add (k * 17)).block, (ad.add (k * 17)).off + 13, none⟩ = some (.int .i64 a.nt.err) := hC.cell (hcN 12 _ rfl) id
        have d14 : wz.cell? ⟨(ad.add (k * 17)).block, (ad.add (k * 17)).off + 14, none⟩ = some (.int .i64 a.nt.val) := hC.cell (hcN 13 _ rfl) id
        have d15 : wz.cell? ⟨(ad.add (k * 17)).block, (ad.add (k * 17)).off + 15, none⟩ = some (.int .i64 a.nt.vep) := hC.cell (hcN 14 _ rfl) id
        have d16 : wz.cell? ⟨(ad.add (k * 17)).block, (ad.add (k * 17)).off + 16, none⟩ = some (.slice a.NB a.nb a.nbd) := hC.cell (hcN 15 _ rfl) id
        clear hc0 hcN ha
        obtain ⟨way, nd, ep, nm, An, nn, cn, Li, Bn, mn, dn, Mi, nt, NA, nk, nc, NB, nb, nbd⟩ := a
        simp only at d0 d1 d2 d3 d4 d5 d6 d7 d8 d9 d10 d11 d12 d13 d14 d15 d16
        have Hrn := Lib.hid hao.rds
        have Hrm := Lib.hid hao.rdm
        have Hnt := Lib.hid hao.nt
        have hnc : nn ≤ 9223372036854775807 := by have h1 := hao.nc; have h2 := hao.cm; unfold maxLen at h2; simp only at h1 h2; omega
        have hmc : mn ≤ 9223372036854775807 := by have h1 := hao.md; have h2 := hao.dm; unfold maxLen at h2; simp only at h1 h2; omega
        have HLz : Hid (∀ x ∈ Li, x.size ≤ 9223372036854775807) := fun x hx => hao.L x hx
        have hnmz : nm.size ≤ 9223372036854775807 := hao.nm
        obtain ⟨wA, hwA⟩ : ∃ wA, wz.alloc (.cells #[.int .i64 way, .int .i64 nd, .int .i64 ep, .string nm, .slice An nn cn, .slice Bn mn dn, .int .i64 nt.kind, .int .i64 nt.node, .int .i64 nt.life, .int .i64 nt.epoch, .string nt.id, .int .i64 nt.fn, .slice NA nk nc, .int .i64 nt.err, .int .i64 nt.val, .int .i64 nt.vep, .slice NB nb nbd] 85) = wA := ⟨_, rfl⟩
        have hbx : Blk wA wz.heap.size 85 #[.int .i64 way, .int .i64 nd, .int .i64 ep, .string nm, .slice An nn cn, .slice Bn mn dn, .int .i64 nt.kind, .int .i64 nt.node, .int .i64 nt.life, .int .i64 nt.epoch, .string nt.id, .int .i64 nt.fn, .slice NA nk nc, .int .i64 nt.err, .int .i64 nt.val, .int .i64 nt.vep, .slice NB nb nbd] := hwA ▸ Blk.new _ _ _
        have hCA : Chg Non wz wA := hwA ▸ (Chg.refl _ _).alloc _
        have hbl := World.block_lt_of_cell? wz _ d0
        rw [block_add] at hbl
        have hbxN : ¬ x.all wz.heap.size := fun h => by have := hB.lt _ h; omega
        replace hB := hB.non hCA
        obtain ⟨gx, hgx⟩ : ∃ x, wz.heap.size = x := ⟨_, rfl⟩
        rw [hgx] at hbx hbxN
        have x0 : wA.cell? ⟨gx, 0, none⟩ = some (.int .i64 way) := hbx.cell 0
        have x1 : wA.cell? ⟨gx, 1, none⟩ = some (.int .i64 nd) := hbx.cell 1
        have x2 : wA.cell? ⟨gx, 2, none⟩ = some (.int .i64 ep) := hbx.cell 2
        have x3 : wA.cell? ⟨gx, 3, none⟩ = some (.string nm) := hbx.cell 3
        have x4 : wA.cell? ⟨gx, 4, none⟩ = some (.slice An nn cn) := hbx.cell 4
        have x5 : wA.cell? ⟨gx, 5, none⟩ = some (.slice Bn mn dn) := hbx.cell 5
        have x6 : wA.cell? ⟨gx, 6, none⟩ = some (.int .i64 nt.kind) := hbx.cell 6
        have x7 : wA.cell? ⟨gx, 7, none⟩ = some (.int .i64 nt.node) := hbx.cell 7
        have x8 : wA.cell? ⟨gx, 8, none⟩ = some (.int .i64 nt.life) := hbx.cell 8
        have x9 : wA.cell? ⟨gx, 9, none⟩ = some (.int .i64 nt.epoch) := hbx.cell 9
        have x10 : wA.cell? ⟨gx, 10, none⟩ = some (.string nt.id) := hbx.cell 10
        have x11 : wA.cell? ⟨gx, 11, none⟩ = some (.int .i64 nt.fn) := hbx.cell 11
        have x12 : wA.cell? ⟨gx, 12, none⟩ = some (.slice NA nk nc) := hbx.cell 12
        have x13 : wA.cell? ⟨gx, 13, none⟩ = some (.int .i64 nt.err) := hbx.cell 13
        have x14 : wA.cell? ⟨gx, 14, none⟩ = some (.int .i64 nt.val) := hbx.cell 14
        have x15 : wA.cell? ⟨gx, 15, none⟩ = some (.int .i64 nt.vep) := hbx.cell 15
        have x16 : wA.cell? ⟨gx, 16, none⟩ = some (.slice NB nb nbd) := hbx.cell 16
        have hbxl := hbx.lt
        have HAn : Hid (∀ ad, An = some ad → 0 < nn → ad.block < wo.heap.size) := by
          intro ad e h0
          obtain ⟨ad2, y, e2, _, hcy⟩ := Hrn.out.getS h0
          rw [e] at e2
          obtain rfl := Option.some.inj e2
          have h1 := World.block_lt_of_cell? wo _ hcy
          rw [block_add] at h1
          exact h1
        have HBn : Hid (∀ ad, Bn = some ad → 0 < mn → ad.block < wo.heap.size) := by
          intro ad e h0
          obtain ⟨ad2, y, e2, _, hcy⟩ := Hrm.out.getI h0
          rw [e] at e2
          obtain rfl := Option.some.inj e2
          have h1 := World.block_lt_of_cell? wo _ hcy
          rw [block_add] at h1
          exact h1
        have hna := names_any wA An nn cn Li (Hrn.out.non hB.chg) hnc HLz.out
        have hCw := hB.chg
        clear hao hC hCA
        have hcase : (namesB Li = false) ∨ (namesB Li = true ∧ bigN nt nk nb = true) ∨ (namesB Li = true ∧ bigN nt nk nb = false ∧ 100 < nm.size) ∨ (namesB Li = true ∧ bigN nt nk nb = false ∧ nm.size ≤ 100 ∧ 50 < mn) ∨ (namesB Li = true ∧ bigN nt nk nb = false ∧ nm.size ≤ 100 ∧ mn ≤ 50) := by
          cases namesB Li with
          | false => exact .inl rfl
          | true =>
            cases bigN nt nk nb with
            | true => exact .inr (.inl ⟨rfl, rfl⟩)
            | false =>
              by_cases h3 : 100 < nm.size
              · exact .inr (.inr (.inl ⟨rfl, rfl, h3⟩))
              · by_cases h4 : 50 < mn
                · exact .inr (.inr (.inr (.inl ⟨rfl, rfl, by omega, h4⟩)))
                · exact .inr (.inr (.inr (.inr ⟨rfl, rfl, by omega, by omega⟩)))
        as_aux_lemma =>
          go_wp2_with fail
          refine hna.mono ?_
          clear hna
          rintro e w4 ⟨rfl, rfl⟩
          have hbg := big_any wA nt NA nk nc NB nb nbd (Hnt.out.non hCw)
          rcases hcase with hn1 | ⟨hn1, hn2⟩ | ⟨hn1, hn2, hn3⟩ | ⟨hn1, hn2, hn3, hn4⟩ | ⟨hn1, hn2, hn3, hn4⟩
          all_goals rw [hn1]
          rotate_right
          all_goals try (rw [hn2] at hbg)
          rotate_left
          iterate 4
            · as_aux_lemma =>
                clear hn1 hB hbx hbxN hR
                try clear hn2
                go_wp2_with fail
                refine hbg.mono ?_
                rintro e w5 ⟨rfl, hc5⟩
                have z3 := hc5.cell x3 id
                have z5 := hc5.cell x5 id
                have zl : gx < w5.heap.size := Nat.lt_of_lt_of_le hbxl hc5.size
                have hC5 := hCw.non hc5
                clear hbg x0 x1 x2 x3 x4 x5 x6 x7 x8 x9 x10 x11 x12 x13 x14 x15 x16 hbxl hc5
                go_wp2_with fail
                go_ret
                exact ⟨rfl, hC5⟩
          as_aux_lemma =>
            have hLz := namesB_true.1 hn1
            have hbz := bigN_no hn2
            have hLn : nn ≤ 100 := by have := Hrn.out.lenMap (f := Value.string); omega
            have HLz2 : Hid (∀ x ∈ Li, x.size ≤ 1000000) := fun x hx => by have := hLz.2 x hx; omega
            clear hn1 hn2 hLz
            go_wp2_with fail
            refine hbg.mono ?_
            clear hbg
            rintro e wY ⟨rfl, hc5⟩
            replace hB := hB.non hc5
            replace hbx := hbx.non hc5
            clear x0 x1 x2 x3 x4 x5 x6 x7 x8 x9 x10 x11 x12 x13 x14 x15 x16 hbxl hCw hwA d0 d1 d2 d3 d4 d5 d6 d7 d8 d9 d10 d11 d12 d13 d14 d15 d16
            have x0 : wY.cell? ⟨gx, 0, none⟩ = some (.int .i64 way) := hbx.cell 0
            have x1 : wY.cell? ⟨gx, 1, none⟩ = some (.int .i64 nd) := hbx.cell 1
            have x2 : wY.cell? ⟨gx, 2, none⟩ = some (.int .i64 ep) := hbx.cell 2
            have x3 : wY.cell? ⟨gx, 3, none⟩ = some (.string nm) := hbx.cell 3
            have x4 : wY.cell? ⟨gx, 4, none⟩ = some (.slice An nn cn) := hbx.cell 4
            have x5 : wY.cell? ⟨gx, 5, none⟩ = some (.slice Bn mn dn) := hbx.cell 5
            have x6 : wY.cell? ⟨gx, 6, none⟩ = some (.int .i64 nt.kind) := hbx.cell 6
            have x7 : wY.cell? ⟨gx, 7, none⟩ = some (.int .i64 nt.node) := hbx.cell 7
            have x8 : wY.cell? ⟨gx, 8, none⟩ = some (.int .i64 nt.life) := hbx.cell 8
            have x9 : wY.cell? ⟨gx, 9, none⟩ = some (.int .i64 nt.epoch) := hbx.cell 9
            have x10 : wY.cell? ⟨gx, 10, none⟩ = some (.string nt.id) := hbx.cell 10
            have x11 : wY.cell? ⟨gx, 11, none⟩ = some (.int .i64 nt.fn) := hbx.cell 11
            have x12 : wY.cell? ⟨gx, 12, none⟩ = some (.slice NA nk nc) := hbx.cell 12
            have x13 : wY.cell? ⟨gx, 13, none⟩ = some (.int .i64 nt.err) := hbx.cell 13
            have x14 : wY.cell? ⟨gx, 14, none⟩ = some (.int .i64 nt.val) := hbx.cell 14
            have x15 : wY.cell? ⟨gx, 15, none⟩ = some (.int .i64 nt.vep) := hbx.cell 15
            have x16 : wY.cell? ⟨gx, 16, none⟩ = some (.slice NB nb nbd) := hbx.cell 16
            have hbxl := hbx.lt
            have hCw := hB.chg
            clear hc5
            go_upto_block 2 with (fail)
            go_cut [16, 17, 18, 19, 20, 21, 22, 23, 24, 25, 26, 27, 28] from 89 to 211 (fun v _ _ _ _ _ _ _ _ _ _ _ _ wx => v = .bool true ∧ MB wo ⟨g, sm, om, t, st, tm, rg, rk⟩ (k + 1) wx)
            case first =>
              as_aux_lemma =>
              have hmx : nm.size ≤ maxLen := by unfold maxLen; omega
              have hkk : k ≤ 200 := by omega
              have hcase : way = 0 ∨ way = 1 ∨ way = 2 ∨ way = 3 ∨ way = 4 ∨ way = 5 ∨ ((way == 0) = false ∧ (way == 1) = false ∧ (way == 2) = false ∧ (way == 3) = false ∧ (way == 4) = false ∧ (way == 5) = false) := by
                simp only [beq_eq_false_iff_ne]
                omega
              rcases hcase with rfl | rfl | rfl | rfl | rfl | rfl | ⟨e0, e1, e2, e3, e4, e5⟩
              · as_aux_lemma =>
                  obtain ⟨hb, r2, hW⟩ := way_own (a := ⟨g, sm, om, t, st, tm, rg, rk⟩) (wo := wo) hR.out hkk An nn cn Li Hrn.out HAn.out hLn HLz2.out
                  have Hp := Lib.hid hW.p
                  have Hr := Lib.hid hW.r
                  have Hm := Lib.hid hW.m
                  have hbb : (hb == hb) = true := beq_self_eq_true _
                  have y4 : ∀ wx, Chg (fun b => x.FG b ∨ x.FR b) wY wx → wx.cell? ⟨gx, 4, none⟩ = some (.slice An nn cn) := fun wx h => (hbx.chg h (fun e => hbxN (e.elim .inl (fun e => .inr (.inr (.inl e)))))).cell 4
                  have hgxl : ∀ wx, Chg (fun b => x.FG b ∨ x.FR b) wY wx → gx < wx.heap.size := fun wx h => Nat.lt_of_lt_of_le hbxl h.size
                  clear hW x0 x1 x2 x3 x4 x5 x6 x7 x8 x9 x10 x11 x12 x13 x14 x15 x16
                  go_wp2_with fail
                  refine st_region _ (fun b => x.FG b ∨ x.FR b) [3, 7] [] (fun i _ _ wx => if i = 7 then ∃ n1 n2 F, MBs wo ⟨g, sm, om, t, st, tm, rg, rk⟩ ((x.setG n1 n2 (gvOf r2)).setR F r2) wx ∧ n1 ≤ 100000 ∧ n2 ≤ k + 1 else ∃ n1 n2, MBs wo ⟨g, sm, om, t, st, tm, rg, rk⟩ (x.setG n1 n2 (gvOf r2)) wx ∧ n1 ≤ 100000 ∧ n2 ≤ k + 1) (fun _ _ _ _ => True) (fun _ _ v => v = .int .i64 hb) (fun wx => MBs wo ⟨g, sm, om, t, st, tm, rg, rk⟩ x wx) (by kernel_rfl) (okB_of_F _ (by kernel_rfl)) (fun b h => hB.lt b (h.elim .inl (fun e => .inr (.inr (.inl e))))) (hB.non (Chg.refl _ _).drew) (fun wx ob h => h.non ((Chg.refl _ wx).alloc ob)) ?_
                  repeat (first | (refine st_pass (by rfl) ?_; simp only [Act.put, List.setIfInBounds_toArray, List.set_cons_succ, List.set_cons_zero]) | (refine st_plain (fun b => x.FG b ∨ x.FR b) (wY) rfl rfl (f := ?_) (by rfl) rfl rfl (fun w hC hG => ?_) ?_; rotate_left; (clear hG; first | (go_simp; done) | (go_simp; with_reducible rfl) | (simp [*, go_sem, ↓IntWalk.iteOmega]; done) | (simp [*, go_sem, ↓IntWalk.iteOmega]; with_reducible rfl)); simp only [Act.put, List.setIfInBounds_toArray, List.set_cons_succ, List.set_cons_zero]))
                  refine st_major (fun b => x.FG b ∨ x.FR b) (wY) rfl rfl (by rfl) rfl (⟨_, rfl⟩) (fun _ _ _ _ _ _ => trivial) (fun v wx ob h => h.imp fun n2 h => h.imp fun n3 h => ⟨h.1.non ((Chg.refl _ wx).alloc ob), h.2⟩) (fun w hC hG hS => settle_of (r2 := ?_) ?_ ?_) ?_
                  rotate_left
                  (first | (go_simp; done) | (go_simp; rfl))
                  · refine settle_enter ((Hp.out _ hS).mono ?_)
                    rintro e w6 ⟨rfl, n1, n2, h1, h2, h3, h4⟩
                    exact ⟨_, rfl, rfl, h4.mono fun b e => .inl e, ⟨n1, n2, h1, h2, h3⟩, trivial⟩
                  rintro v rfl
                  simp only [Act.put, List.setIfInBounds_toArray, List.set_cons_succ, List.set_cons_zero]
                  repeat (first | (refine st_pass (by rfl) ?_; simp only [Act.put, List.setIfInBounds_toArray, List.set_cons_succ, List.set_cons_zero]) | (refine st_plain (fun b => x.FG b ∨ x.FR b) (wY) rfl rfl (f := ?_) (by rfl) rfl rfl (fun w hC hG => ?_) ?_; rotate_left; (clear hG; first | (go_simp; done) | (go_simp; with_reducible rfl) | (simp [*, go_sem, ↓IntWalk.iteOmega]; done) | (simp [*, go_sem, ↓IntWalk.iteOmega]; with_reducible rfl)); simp only [Act.put, List.setIfInBounds_toArray, List.set_cons_succ, List.set_cons_zero]))
                  refine st_major (fun b => x.FG b ∨ x.FR b) (wY) rfl rfl (by rfl) rfl (⟨_, rfl⟩) (fun _ _ _ _ _ _ => trivial) (fun v wx ob h => h.imp fun n2 h => h.imp fun n3 h => h.imp fun F h => ⟨h.1.non ((Chg.refl _ wx).alloc ob), h.2⟩) (fun w hC hG hS => settle_of (r2 := ?_) ?_ ?_) ?_
                  rotate_left
                  (first | (go_simp; done) | (go_simp; rfl))
                  · have hS2 : ∃ n1 n2, MBs wo ⟨g, sm, om, t, st, tm, rg, rk⟩ (x.setG n1 n2 (gvOf r2)) _ ∧ n1 ≤ 100000 ∧ n2 ≤ k + 1 := hS
                    obtain ⟨n1, n2, hS2, h2, h3⟩ := hS2
                    refine settle_enter ((Hr.out _ n1 n2 hS2).mono ?_)
                    rintro e w6 ⟨rfl, F, h1, h4⟩
                    exact ⟨_, rfl, rfl, h4.mono fun b e => .inr e, ⟨n1, n2, F, h1, h2, h3⟩, trivial⟩
                  rintro v rfl
                  simp only [Act.put, List.setIfInBounds_toArray, List.set_cons_succ, List.set_cons_zero]
                  repeat (first | (refine st_pass (by rfl) ?_; simp only [Act.put, List.setIfInBounds_toArray, List.set_cons_succ, List.set_cons_zero]) | (refine st_plain (fun b => x.FG b ∨ x.FR b) (wY) rfl rfl (f := ?_) (by rfl) rfl rfl (fun w hC hG => ?_) ?_; rotate_left; (clear hG; first | (go_simp; done) | (go_simp; with_reducible rfl) | (simp [*, go_sem, ↓IntWalk.iteOmega]; done) | (simp [*, go_sem, ↓IntWalk.iteOmega]; with_reducible rfl)); simp only [Act.put, List.setIfInBounds_toArray, List.set_cons_succ, List.set_cons_zero]))
                  refine st_end (fun b => x.FG b ∨ x.FR b) wY rfl rfl (fun w6 hC6 hS6 hG6 => ?_)
                  have hS7 : ∃ n1 n2 F, MBs wo ⟨g, sm, om, t, st, tm, rg, rk⟩ ((x.setG n1 n2 (gvOf r2)).setR F r2) w6 ∧ n1 ≤ 100000 ∧ n2 ≤ k + 1 := hS6
                  clear hG6 hS6 y4 hgxl hB hbx
                  obtain ⟨n1, n2, F, hB6, h2, h3⟩ := hS7
                  go_wp2_with fail
                  go_meet
                  exact ⟨rfl, ⟨_, hB6, Hm.out n1 n2 F h2 h3⟩⟩
              · as_aux_lemma =>
                  obtain ⟨q, er, r2, hW⟩ := way_offer (a := ⟨g, sm, om, t, st, tm, rg, rk⟩) (wo := wo) hR.out hkk nm hmx nd ep
                  have hp : ∀ w, MBs wo ⟨g, sm, om, t, st, tm, rg, rk⟩ x w → Calls Try.prog 16 #[.pointer (some ⟨g, 0, none⟩), .string nm, .int .i64 nd, .int .i64 ep] w (fun e w2 => e = .returned (.tuple #[.agg #[.int .i64 q.kind, .int .i64 q.node, .int .i64 q.life, .int .i64 q.epoch, .string q.id, .int .i64 q.fn, .slice none 0 0, .int .i64 q.err, .int .i64 q.val, .int .i64 q.vep, .slice none 0 0], .int .i64 er]) ∧ ∃ n1 n2, MBs wo ⟨g, sm, om, t, st, tm, rg, rk⟩ (x.setG n1 n2 (gvOf r2)) w2 ∧ n1 ≤ 100000 ∧ n2 ≤ k + 1 ∧ Chg x.FG w w2) := hW.p
                  have hr : ∀ w n1 n2, MBs wo ⟨g, sm, om, t, st, tm, rg, rk⟩ (x.setG n1 n2 (gvOf r2)) w → Calls Try.prog 26 #[.pointer (some ⟨rg, 0, none⟩), .string nm, .int .i64 nd, .int .i64 ep] w (fun e w2 => e = .returned (.tuple #[.agg #[.int .i64 q.kind, .int .i64 q.node, .int .i64 q.life, .int .i64 q.epoch, .string q.id, .int .i64 q.fn, .slice none 0 0, .int .i64 q.err, .int .i64 q.val, .int .i64 q.vep, .slice none 0 0], .int .i64 er]) ∧ ∃ F, MBs wo ⟨g, sm, om, t, st, tm, rg, rk⟩ ((x.setG n1 n2 (gvOf r2)).setR F r2) w2 ∧ Chg x.FR w w2) := hW.r
                  have Hm := Lib.hid hW.m
                  clear hW
                  have hp1 := hp wY hB
                  clear hp
                  go_wp2_with fail
                  refine hp1.mono ?_
                  clear hp1
                  rintro e w5 ⟨rfl, n1, n2, hB5, h2, h3, hc5⟩
                  have hbx5 := hbx.chg hc5 (fun e => hbxN (.inl e))
                  clear x0 x1 x2 x3 x4 x5 x6 x7 x8 x9 x10 x11 x12 x13 x14 x15 x16
                  have z1 : w5.cell? ⟨gx, 1, none⟩ = some (.int .i64 nd) := hbx5.cell 1
                  have z2 : w5.cell? ⟨gx, 2, none⟩ = some (.int .i64 ep) := hbx5.cell 2
                  have z3 : w5.cell? ⟨gx, 3, none⟩ = some (.string nm) := hbx5.cell 3
                  have zl := hbx5.lt
                  have hr9 := fun w6 (hc6 : Chg Non w5 w6) => (show MBs wo ⟨g, sm, om, t, st, tm, rg, rk⟩ _ w6 from hB5.non hc6)
                  go_wp2_with fail
                  clear z1 z2 z3 zl hbx5 hbx
                  obtain ⟨w6, hw6⟩ : ∃ w6, w5.alloc (.cells #[.int .i64 q.kind, .int .i64 q.node, .int .i64 q.life, .int .i64 q.epoch, .string q.id, .int .i64 q.fn, .slice none 0 0, .int .i64 q.err, .int .i64 q.val, .int .i64 q.vep, .slice none 0 0] 59) = w6 := ⟨_, rfl⟩
                  have hc6 : Chg Non w5 w6 := hw6 ▸ (Chg.refl _ _).alloc _
                  have hb17 : Blk w6 w5.heap.size 59 #[.int .i64 q.kind, .int .i64 q.node, .int .i64 q.life, .int .i64 q.epoch, .string q.id, .int .i64 q.fn, .slice none 0 0, .int .i64 q.err, .int .i64 q.val, .int .i64 q.vep, .slice none 0 0] := hw6 ▸ Blk.new _ _ _
                  have hB6 := hB5.non hc6
                  have hr1 := hr w6 n1 n2 hB6
                  clear hr hr9
                  rw [hw6]
                  refine hr1.mono ?_
                  clear hr1
                  rintro e w7 ⟨rfl, F, hB7, hc7⟩
                  have h17 := hb17.chg hc7 (fun e => by have := hB5.lt _ (.inr (.inr (.inl e))); omega)
                  have hs57 : w5.heap.size < w7.heap.size := h17.lt
                  have p0 : w7.cell? ⟨w5.heap.size, 0, none⟩ = some (.int .i64 q.kind) := h17.cell 0
                  have p1 : w7.cell? ⟨w5.heap.size, 1, none⟩ = some (.int .i64 q.node) := h17.cell 1
                  have p2 : w7.cell? ⟨w5.heap.size, 2, none⟩ = some (.int .i64 q.life) := h17.cell 2
                  have p3 : w7.cell? ⟨w5.heap.size, 3, none⟩ = some (.int .i64 q.epoch) := h17.cell 3
                  have p4 : w7.cell? ⟨w5.heap.size, 4, none⟩ = some (.string q.id) := h17.cell 4
                  have p5 : w7.cell? ⟨w5.heap.size, 5, none⟩ = some (.int .i64 q.fn) := h17.cell 5
                  have p6 : w7.cell? ⟨w5.heap.size, 6, none⟩ = some (.slice none 0 0) := h17.cell 6
                  have p7 : w7.cell? ⟨w5.heap.size, 7, none⟩ = some (.int .i64 q.err) := h17.cell 7
                  have p8 : w7.cell? ⟨w5.heap.size, 8, none⟩ = some (.int .i64 q.val) := h17.cell 8
                  have p9 : w7.cell? ⟨w5.heap.size, 9, none⟩ = some (.int .i64 q.vep) := h17.cell 9
                  have p10 : w7.cell? ⟨w5.heap.size, 10, none⟩ = some (.slice none 0 0) := h17.cell 10
                  clear hw6 hb17
                  have hee : (er == er) = true := beq_self_eq_true _
                  go_wp2_with fail
                  refine (num_any er _).mono ?_
                  rintro e w9 ⟨rfl, rfl⟩
                  go_wp2_with fail
                  refine (same_nil _ q).mono ?_
                  rintro e w9 ⟨rfl, hc9⟩
                  clear p0 p1 p2 p3 p4 p5 p6 p7 p8 p9 p10 h17 hs57
                  go_wp2_with fail
                  go_meet
                  exact ⟨rfl, ⟨_, (hB7.non (((Chg.refl _ _).alloc _).non hc9)), Hm.out n1 n2 F h2 h3⟩⟩
              · as_aux_lemma =>
                  obtain ⟨hb, r2, hW⟩ := way_in (a := ⟨g, sm, om, t, st, tm, rg, rk⟩) (wo := wo) hR.out hkk nt NA nk nc NB nb nbd Hnt.out.ok.id
                  have Hp := Lib.hid hW.p
                  have Hr := Lib.hid hW.r
                  have Hm := Lib.hid hW.m
                  have hbb : (hb == hb) = true := beq_self_eq_true _
                  have y6 : ∀ wx, Chg (fun b => x.FG b ∨ x.FR b) wY wx → wx.cell? ⟨gx, 6, none⟩ = some (.int .i64 nt.kind) := fun wx h => (hbx.chg h (fun e => hbxN (e.elim .inl (fun e => .inr (.inr (.inl e)))))).cell 6
                  have y7 : ∀ wx, Chg (fun b => x.FG b ∨ x.FR b) wY wx → wx.cell? ⟨gx, 7, none⟩ = some (.int .i64 nt.node) := fun wx h => (hbx.chg h (fun e => hbxN (e.elim .inl (fun e => .inr (.inr (.inl e)))))).cell 7
                  have y8 : ∀ wx, Chg (fun b => x.FG b ∨ x.FR b) wY wx → wx.cell? ⟨gx, 8, none⟩ = some (.int .i64 nt.life) := fun wx h => (hbx.chg h (fun e => hbxN (e.elim .inl (fun e => .inr (.inr (.inl e)))))).cell 8
                  have y9 : ∀ wx, Chg (fun b => x.FG b ∨ x.FR b) wY wx → wx.cell? ⟨gx, 9, none⟩ = some (.int .i64 nt.epoch) := fun wx h => (hbx.chg h (fun e => hbxN (e.elim .inl (fun e => .inr (.inr (.inl e)))))).cell 9
                  have y10 : ∀ wx, Chg (fun b => x.FG b ∨ x.FR b) wY wx → wx.cell? ⟨gx, 10, none⟩ = some (.string nt.id) := fun wx h => (hbx.chg h (fun e => hbxN (e.elim .inl (fun e => .inr (.inr (.inl e)))))).cell 10
                  have y11 : ∀ wx, Chg (fun b => x.FG b ∨ x.FR b) wY wx → wx.cell? ⟨gx, 11, none⟩ = some (.int .i64 nt.fn) := fun wx h => (hbx.chg h (fun e => hbxN (e.elim .inl (fun e => .inr (.inr (.inl e)))))).cell 11
                  have y12 : ∀ wx, Chg (fun b => x.FG b ∨ x.FR b) wY wx → wx.cell? ⟨gx, 12, none⟩ = some (.slice NA nk nc) := fun wx h => (hbx.chg h (fun e => hbxN (e.elim .inl (fun e => .inr (.inr (.inl e)))))).cell 12
                  have y13 : ∀ wx, Chg (fun b => x.FG b ∨ x.FR b) wY wx → wx.cell? ⟨gx, 13, none⟩ = some (.int .i64 nt.err) := fun wx h => (hbx.chg h (fun e => hbxN (e.elim .inl (fun e => .inr (.inr (.inl e)))))).cell 13
                  have y14 : ∀ wx, Chg (fun b => x.FG b ∨ x.FR b) wY wx → wx.cell? ⟨gx, 14, none⟩ = some (.int .i64 nt.val) := fun wx h => (hbx.chg h (fun e => hbxN (e.elim .inl (fun e => .inr (.inr (.inl e)))))).cell 14
                  have y15 : ∀ wx, Chg (fun b => x.FG b ∨ x.FR b) wY wx → wx.cell? ⟨gx, 15, none⟩ = some (.int .i64 nt.vep) := fun wx h => (hbx.chg h (fun e => hbxN (e.elim .inl (fun e => .inr (.inr (.inl e)))))).cell 15
                  have y16 : ∀ wx, Chg (fun b => x.FG b ∨ x.FR b) wY wx → wx.cell? ⟨gx, 16, none⟩ = some (.slice NB nb nbd) := fun wx h => (hbx.chg h (fun e => hbxN (e.elim .inl (fun e => .inr (.inr (.inl e)))))).cell 16
                  have hgxl : ∀ wx, Chg (fun b => x.FG b ∨ x.FR b) wY wx → gx < wx.heap.size := fun wx h => Nat.lt_of_lt_of_le hbxl h.size
                  clear hW x0 x1 x2 x3 x4 x5 x6 x7 x8 x9 x10 x11 x12 x13 x14 x15 x16
                  go_wp2_with fail
                  refine st_region _ (fun b => x.FG b ∨ x.FR b) [3, 7] [] (fun i _ _ wx => if i = 7 then ∃ n1 n2 F, MBs wo ⟨g, sm, om, t, st, tm, rg, rk⟩ ((x.setG n1 n2 (gvOf r2)).setR F r2) wx ∧ n1 ≤ 100000 ∧ n2 ≤ k + 1 else ∃ n1 n2, MBs wo ⟨g, sm, om, t, st, tm, rg, rk⟩ (x.setG n1 n2 (gvOf r2)) wx ∧ n1 ≤ 100000 ∧ n2 ≤ k + 1) (fun _ _ _ _ => True) (fun _ _ v => v = .bool hb) (fun wx => MBs wo ⟨g, sm, om, t, st, tm, rg, rk⟩ x wx) (by kernel_rfl) (okB_of_F _ (by kernel_rfl)) (fun b h => hB.lt b (h.elim .inl (fun e => .inr (.inr (.inl e))))) (hB.non (Chg.refl _ _).drew) (fun wx ob h => h.non ((Chg.refl _ wx).alloc ob)) ?_
                  repeat (first | (refine st_pass (by rfl) ?_; simp only [Act.put, List.setIfInBounds_toArray, List.set_cons_succ, List.set_cons_zero]) | (refine st_plain (fun b => x.FG b ∨ x.FR b) (wY) rfl rfl (f := ?_) (by rfl) rfl rfl (fun w hC hG => ?_) ?_; rotate_left; (clear hG; first | (go_simp; done) | (go_simp; with_reducible rfl) | (simp [*, go_sem, ↓IntWalk.iteOmega]; done) | (simp [*, go_sem, ↓IntWalk.iteOmega]; with_reducible rfl)); simp only [Act.put, List.setIfInBounds_toArray, List.set_cons_succ, List.set_cons_zero]))
                  refine st_major (fun b => x.FG b ∨ x.FR b) (wY) rfl rfl (by rfl) rfl (⟨_, rfl⟩) (fun _ _ _ _ _ _ => trivial) (fun v wx ob h => h.imp fun n2 h => h.imp fun n3 h => ⟨h.1.non ((Chg.refl _ wx).alloc ob), h.2⟩) (fun w hC hG hS => settle_of (r2 := ?_) ?_ ?_) ?_
                  rotate_left
                  (first | (go_simp; done) | (go_simp; rfl))
                  · refine settle_enter ((Hp.out _ hS).mono ?_)
                    rintro e w6 ⟨rfl, n1, n2, h1, h2, h3, h4⟩
                    exact ⟨_, rfl, rfl, h4.mono fun b e => .inl e, ⟨n1, n2, h1, h2, h3⟩, trivial⟩
                  rintro v rfl
                  simp only [Act.put, List.setIfInBounds_toArray, List.set_cons_succ, List.set_cons_zero]
                  repeat (first | (refine st_pass (by rfl) ?_; simp only [Act.put, List.setIfInBounds_toArray, List.set_cons_succ, List.set_cons_zero]) | (refine st_plain (fun b => x.FG b ∨ x.FR b) (wY) rfl rfl (f := ?_) (by rfl) rfl rfl (fun w hC hG => ?_) ?_; rotate_left; (clear hG; first | (go_simp; done) | (go_simp; with_reducible rfl) | (simp [*, go_sem, ↓IntWalk.iteOmega]; done) | (simp [*, go_sem, ↓IntWalk.iteOmega]; with_reducible rfl)); simp only [Act.put, List.setIfInBounds_toArray, List.set_cons_succ, List.set_cons_zero]))
                  refine st_major (fun b => x.FG b ∨ x.FR b) (wY) rfl rfl (by rfl) rfl (⟨_, rfl⟩) (fun _ _ _ _ _ _ => trivial) (fun v wx ob h => h.imp fun n2 h => h.imp fun n3 h => h.imp fun F h => ⟨h.1.non ((Chg.refl _ wx).alloc ob), h.2⟩) (fun w hC hG hS => settle_of (r2 := ?_) ?_ ?_) ?_
                  rotate_left
                  (first | (go_simp; done) | (go_simp; rfl))
                  · have hS2 : ∃ n1 n2, MBs wo ⟨g, sm, om, t, st, tm, rg, rk⟩ (x.setG n1 n2 (gvOf r2)) _ ∧ n1 ≤ 100000 ∧ n2 ≤ k + 1 := hS
                    obtain ⟨n1, n2, hS2, h2, h3⟩ := hS2
                    refine settle_enter ((Hr.out _ n1 n2 hS2).mono ?_)
                    rintro e w6 ⟨rfl, F, h1, h4⟩
                    exact ⟨_, rfl, rfl, h4.mono fun b e => .inr e, ⟨n1, n2, F, h1, h2, h3⟩, trivial⟩
                  rintro v rfl
                  simp only [Act.put, List.setIfInBounds_toArray, List.set_cons_succ, List.set_cons_zero]
                  repeat (first | (refine st_pass (by rfl) ?_; simp only [Act.put, List.setIfInBounds_toArray, List.set_cons_succ, List.set_cons_zero]) | (refine st_plain (fun b => x.FG b ∨ x.FR b) (wY) rfl rfl (f := ?_) (by rfl) rfl rfl (fun w hC hG => ?_) ?_; rotate_left; (clear hG; first | (go_simp; done) | (go_simp; with_reducible rfl) | (simp [*, go_sem, ↓IntWalk.iteOmega]; done) | (simp [*, go_sem, ↓IntWalk.iteOmega]; with_reducible rfl)); simp only [Act.put, List.setIfInBounds_toArray, List.set_cons_succ, List.set_cons_zero]))
                  refine st_end (fun b => x.FG b ∨ x.FR b) wY rfl rfl (fun w6 hC6 hS6 hG6 => ?_)
                  have hS7 : ∃ n1 n2 F, MBs wo ⟨g, sm, om, t, st, tm, rg, rk⟩ ((x.setG n1 n2 (gvOf r2)).setR F r2) w6 ∧ n1 ≤ 100000 ∧ n2 ≤ k + 1 := hS6
                  clear hG6 hS6 y6 y7 y8 y9 y10 y11 y12 y13 y14 y15 y16 hgxl hB hbx
                  obtain ⟨n1, n2, F, hB6, h2, h3⟩ := hS7
                  go_wp2_with fail
                  go_meet
                  exact ⟨rfl, ⟨_, hB6, Hm.out n1 n2 F h2 h3⟩⟩
              · as_aux_lemma =>
                  obtain ⟨q, bo, hWp, hWr⟩ := way_again (a := ⟨g, sm, om, t, st, tm, rg, rk⟩) (wo := wo) hR.out nm hmx
                  have hp : ∀ w, MBs wo ⟨g, sm, om, t, st, tm, rg, rk⟩ x w → Calls Try.prog 15 #[.pointer (some ⟨g, 0, none⟩), .string nm] w (fun e w2 => e = .returned (.tuple #[.agg #[.int .i64 q.kind, .int .i64 q.node, .int .i64 q.life, .int .i64 q.epoch, .string q.id, .int .i64 q.fn, .slice none 0 0, .int .i64 q.err, .int .i64 q.val, .int .i64 q.vep, .slice none 0 0], .bool bo]) ∧ Chg Non w w2) := hWp
                  have hr : ∀ w, MBs wo ⟨g, sm, om, t, st, tm, rg, rk⟩ x w → Calls Try.prog 29 #[.pointer (some ⟨rg, 0, none⟩), .string nm] w (fun e w2 => e = .returned (.tuple #[.agg #[.int .i64 q.kind, .int .i64 q.node, .int .i64 q.life, .int .i64 q.epoch, .string q.id, .int .i64 q.fn, .slice none 0 0, .int .i64 q.err, .int .i64 q.val, .int .i64 q.vep, .slice none 0 0], .bool bo]) ∧ Chg Non w w2) := hWr
                  have hp1 := hp wY hB
                  clear hp
                  go_wp2_with fail
                  refine hp1.mono ?_
                  clear hp1
                  rintro e w5 ⟨rfl, hc5⟩
                  have hB5 := hB.non hc5
                  have hbx5 := hbx.non hc5
                  clear x0 x1 x2 x3 x4 x5 x6 x7 x8 x9 x10 x11 x12 x13 x14 x15 x16
                  have z3 : w5.cell? ⟨gx, 3, none⟩ = some (.string nm) := hbx5.cell 3
                  have zl := hbx5.lt
                  have hr9 := fun w6 (hc6 : Chg Non w5 w6) => (show MBs wo ⟨g, sm, om, t, st, tm, rg, rk⟩ _ w6 from hB5.non hc6)
                  go_wp2_with fail
                  clear z3 zl hbx5 hbx
                  obtain ⟨w6, hw6⟩ : ∃ w6, w5.alloc (.cells #[.int .i64 q.kind, .int .i64 q.node, .int .i64 q.life, .int .i64 q.epoch, .string q.id, .int .i64 q.fn, .slice none 0 0, .int .i64 q.err, .int .i64 q.val, .int .i64 q.vep, .slice none 0 0] 59) = w6 := ⟨_, rfl⟩
                  have hc6 : Chg Non w5 w6 := hw6 ▸ (Chg.refl _ _).alloc _
                  have hb17 : Blk w6 w5.heap.size 59 #[.int .i64 q.kind, .int .i64 q.node, .int .i64 q.life, .int .i64 q.epoch, .string q.id, .int .i64 q.fn, .slice none 0 0, .int .i64 q.err, .int .i64 q.val, .int .i64 q.vep, .slice none 0 0] := hw6 ▸ Blk.new _ _ _
                  have hB6 := hB5.non hc6
                  have hr1 := hr w6 hB6
                  clear hr hr9
                  rw [hw6]
                  refine hr1.mono ?_
                  clear hr1
                  rintro e w7 ⟨rfl, hc7⟩
                  have hB7 := hB6.non hc7
                  have h17 := hb17.non hc7
                  have hs57 : w5.heap.size < w7.heap.size := h17.lt
                  have p0 : w7.cell? ⟨w5.heap.size, 0, none⟩ = some (.int .i64 q.kind) := h17.cell 0
                  have p1 : w7.cell? ⟨w5.heap.size, 1, none⟩ = some (.int .i64 q.node) := h17.cell 1
                  have p2 : w7.cell? ⟨w5.heap.size, 2, none⟩ = some (.int .i64 q.life) := h17.cell 2
                  have p3 : w7.cell? ⟨w5.heap.size, 3, none⟩ = some (.int .i64 q.epoch) := h17.cell 3
                  have p4 : w7.cell? ⟨w5.heap.size, 4, none⟩ = some (.string q.id) := h17.cell 4
                  have p5 : w7.cell? ⟨w5.heap.size, 5, none⟩ = some (.int .i64 q.fn) := h17.cell 5
                  have p6 : w7.cell? ⟨w5.heap.size, 6, none⟩ = some (.slice none 0 0) := h17.cell 6
                  have p7 : w7.cell? ⟨w5.heap.size, 7, none⟩ = some (.int .i64 q.err) := h17.cell 7
                  have p8 : w7.cell? ⟨w5.heap.size, 8, none⟩ = some (.int .i64 q.val) := h17.cell 8
                  have p9 : w7.cell? ⟨w5.heap.size, 9, none⟩ = some (.int .i64 q.vep) := h17.cell 9
                  have p10 : w7.cell? ⟨w5.heap.size, 10, none⟩ = some (.slice none 0 0) := h17.cell 10
                  clear hw6 hb17
                  have hee : (bo == bo) = true := beq_self_eq_true _
                  go_wp2_with fail
                  refine (same_nil _ q).mono ?_
                  rintro e w9 ⟨rfl, hc9⟩
                  clear p0 p1 p2 p3 p4 p5 p6 p7 p8 p9 p10 h17 hs57
                  go_wp2_with fail
                  go_meet
                  exact ⟨rfl, ⟨_, (hB7.non (((Chg.refl _ _).alloc _).non hc9)), hR.out.mid.next⟩⟩
              · as_aux_lemma =>
                  obtain ⟨L, r2, hLl, hWp, hWr, hWm⟩ := way_back (a := ⟨g, sm, om, t, st, tm, rg, rk⟩) (wo := wo) hR.out hkk Bn mn dn Mi Hrm.out HBn.out (by omega)
                  have Hm := Lib.hid hWm
                  obtain ⟨ll, hll⟩ : ∃ ll, L.length = ll := ⟨_, rfl⟩
                  rw [hll] at hWp hWr
                  have hl63 : ll ≤ 9223372036854775807 := by omega
                  have Hp := Lib.hid hWp
                  have Hr := Lib.hid hWr
                  have keepR : ∀ {w1 w2 : World} {v : Value}, Chg (fun b => x.FG b ∨ x.FR b) w1 w2 → (∃ A c, v = .slice A ll c ∧ Rds w1 1 A ll (sv L) ∧ ∀ ad, A = some ad → 0 < ll → wY.heap.size ≤ ad.block) → (∃ A c, v = .slice A ll c ∧ Rds w2 1 A ll (sv L) ∧ ∀ ad, A = some ad → 0 < ll → wY.heap.size ≤ ad.block) := fun h1 h => by
                    obtain ⟨A, c, e, hr, hb⟩ := h
                    exact ⟨A, c, e, hr.chgN h1 (fun h0 ad e2 hT => by have h3 := hb ad e2 h0; have h4 := hB.lt _ (hT.elim .inl (fun e => .inr (.inr (.inl e)))); omega), hb⟩
                  have y5 : ∀ wx, Chg (fun b => x.FG b ∨ x.FR b) wY wx → wx.cell? ⟨gx, 5, none⟩ = some (.slice Bn mn dn) := fun wx h => (hbx.chg h (fun e => hbxN (e.elim .inl (fun e => .inr (.inr (.inl e)))))).cell 5
                  have hgxl : ∀ wx, Chg (fun b => x.FG b ∨ x.FR b) wY wx → gx < wx.heap.size := fun wx h => Nat.lt_of_lt_of_le hbxl h.size
                  clear hWp hWr hWm x0 x1 x2 x3 x4 x5 x6 x7 x8 x9 x10 x11 x12 x13 x14 x15 x16 hll hLl
                  go_wp2_with fail
                  refine st_region _ (fun b => x.FG b ∨ x.FR b) [3, 7, 8] [] (fun i _ _ wx => if i = 3 then ∃ n1 n2, MBs wo ⟨g, sm, om, t, st, tm, rg, rk⟩ (x.setG n1 n2 (gvOf r2)) wx ∧ n1 ≤ 100000 ∧ n2 ≤ k + 1 else ∃ n1 n2 F, MBs wo ⟨g, sm, om, t, st, tm, rg, rk⟩ ((x.setG n1 n2 (gvOf r2)).setR F r2) wx ∧ n1 ≤ 100000 ∧ n2 ≤ k + 1) (fun i _ v wx => (i = 3 → ∃ A c, v = .slice A ll c ∧ Rds wx 1 A ll (sv L) ∧ ∀ ad, A = some ad → 0 < ll → wY.heap.size ≤ ad.block) ∧ (i = 7 → ∃ A c, v = .slice A ll c ∧ Rds wx 1 A ll (sv L) ∧ ∀ ad, A = some ad → 0 < ll → wY.heap.size ≤ ad.block)) (fun i _ v => if i = 8 then v = .bool true else ∃ A c, v = .slice A ll c) (fun wx => MBs wo ⟨g, sm, om, t, st, tm, rg, rk⟩ x wx) (by kernel_rfl) (okB_of_F _ (by kernel_rfl)) (fun b h => hB.lt b (h.elim .inl (fun e => .inr (.inr (.inl e))))) (hB.non (Chg.refl _ _).drew) (fun wx ob h => h.non ((Chg.refl _ wx).alloc ob)) ?_
                  repeat (first | (refine st_pass (by rfl) ?_; simp only [Act.put, List.setIfInBounds_toArray, List.set_cons_succ, List.set_cons_zero]) | (refine st_plain (fun b => x.FG b ∨ x.FR b) (wY) rfl rfl (f := ?_) (by rfl) rfl rfl (fun w hC hG => ?_) ?_; rotate_left; (clear hG; first | (go_simp; done) | (go_simp; with_reducible rfl) | (simp [*, go_sem, ↓IntWalk.iteOmega]; done) | (simp [*, go_sem, ↓IntWalk.iteOmega]; with_reducible rfl)); simp only [Act.put, List.setIfInBounds_toArray, List.set_cons_succ, List.set_cons_zero]))
                  refine st_major (fun b => x.FG b ∨ x.FR b) (wY) rfl rfl (by rfl) rfl (⟨_, none, 0, rfl⟩) (fun v w1 w2 _ h1 h2 => ⟨fun e => keepR h1 (h2.1 e), fun e => keepR h1 (h2.2 e)⟩) (fun v wx ob h => h.imp fun n2 h => h.imp fun n3 h => ⟨h.1.non ((Chg.refl _ wx).alloc ob), h.2⟩) (fun w hC hG hS => settle_of (r2 := ?_) ?_ ?_) ?_
                  rotate_left
                  (first | (go_simp; done) | (go_simp; rfl))
                  · refine settle_enter ((Hp.out _ hS).mono ?_)
                    rintro e w6 ⟨A7, c7, rfl, ho, n1, n2, h1, h2, h3, h4⟩
                    have hsz := hC.size
                    obtain ⟨_, _, _, _, _, _, hob⟩ := ho.open_
                    refine ⟨_, rfl, ⟨A7, c7, rfl⟩, h4.mono fun b e => .inl e, ⟨n1, n2, h1, h2, h3⟩, fun _ => ⟨A7, c7, rfl, ho.rds, fun ad e h0 => ?_⟩, (fun e => by cases e)⟩
                    rcases ho.2 with ⟨e1, e2⟩ | ⟨g2, cap, cur, e1, hb, _⟩
                    · omega
                    · injection e1 with e1 _ _; subst e1; injection e with e; subst e; exact Nat.le_trans hsz hb
                  rintro v hv
                  obtain ⟨A7, c7, rfl⟩ : ∃ A c, v = .slice A ll c := hv
                  simp only [Act.put, List.setIfInBounds_toArray, List.set_cons_succ, List.set_cons_zero]
                  repeat (first | (refine st_pass (by rfl) ?_; simp only [Act.put, List.setIfInBounds_toArray, List.set_cons_succ, List.set_cons_zero]) | (refine st_plain (fun b => x.FG b ∨ x.FR b) (wY) rfl rfl (f := ?_) (by rfl) rfl rfl (fun w hC hG => ?_) ?_; rotate_left; (clear hG; first | (go_simp; done) | (go_simp; with_reducible rfl) | (simp [*, go_sem, ↓IntWalk.iteOmega]; done) | (simp [*, go_sem, ↓IntWalk.iteOmega]; with_reducible rfl)); simp only [Act.put, List.setIfInBounds_toArray, List.set_cons_succ, List.set_cons_zero]))
                  refine st_major (fun b => x.FG b ∨ x.FR b) (wY) rfl rfl (by rfl) rfl (⟨_, none, 0, rfl⟩) (fun v w1 w2 _ h1 h2 => ⟨fun e => keepR h1 (h2.1 e), fun e => keepR h1 (h2.2 e)⟩) (fun v wx ob h => h.imp fun n2 h => h.imp fun n3 h => h.imp fun F h => ⟨h.1.non ((Chg.refl _ wx).alloc ob), h.2⟩) (fun w hC hG hS => settle_of (r2 := ?_) ?_ ?_) ?_
                  rotate_left
                  (first | (go_simp; done) | (go_simp; rfl))
                  · have hS2 : ∃ n1 n2, MBs wo ⟨g, sm, om, t, st, tm, rg, rk⟩ (x.setG n1 n2 (gvOf r2)) _ ∧ n1 ≤ 100000 ∧ n2 ≤ k + 1 := hS
                    obtain ⟨n1, n2, hS2, h2, h3⟩ := hS2
                    refine settle_enter ((Hr.out _ n1 n2 hS2).mono ?_)
                    rintro e w6 ⟨A8, c8, rfl, ho, F, h1, h4⟩
                    have hsz := hC.size
                    refine ⟨_, rfl, ⟨A8, c8, rfl⟩, h4.mono fun b e => .inr e, ⟨n1, n2, F, h1, h2, h3⟩, (fun e => by cases e), fun _ => ⟨A8, c8, rfl, ho.rds, fun ad e h0 => ?_⟩⟩
                    rcases ho.2 with ⟨e1, e2⟩ | ⟨g2, cap, cur, e1, hb, _⟩
                    · omega
                    · injection e1 with e1 _ _; subst e1; injection e with e; subst e; exact Nat.le_trans hsz hb
                  rintro v hv
                  obtain ⟨A8, c8, rfl⟩ : ∃ A c, v = .slice A ll c := hv
                  simp only [Act.put, List.setIfInBounds_toArray, List.set_cons_succ, List.set_cons_zero]
                  repeat (first | (refine st_pass (by rfl) ?_; simp only [Act.put, List.setIfInBounds_toArray, List.set_cons_succ, List.set_cons_zero]) | (refine st_plain (fun b => x.FG b ∨ x.FR b) (wY) rfl rfl (f := ?_) (by rfl) rfl rfl (fun w hC hG => ?_) ?_; rotate_left; (clear hG; first | (go_simp; done) | (go_simp; with_reducible rfl) | (simp [*, go_sem, ↓IntWalk.iteOmega]; done) | (simp [*, go_sem, ↓IntWalk.iteOmega]; with_reducible rfl)); simp only [Act.put, List.setIfInBounds_toArray, List.set_cons_succ, List.set_cons_zero]))
                  refine st_major (fun b => x.FG b ∨ x.FR b) (wY) rfl rfl (by rfl) rfl (⟨_, rfl⟩) (fun v w1 w2 _ h1 h2 => ⟨fun e => keepR h1 (h2.1 e), fun e => keepR h1 (h2.2 e)⟩) (fun v wx ob h => h.imp fun n2 h => h.imp fun n3 h => h.imp fun F h => ⟨h.1.non ((Chg.refl _ wx).alloc ob), h.2⟩) (fun w hC hG hS => settle_of (r2 := ?_) ?_ ?_) ?_
                  rotate_left
                  (first | (go_simp; done) | (go_simp; rfl))
                  · have hS2 : ∃ n1 n2 F, MBs wo ⟨g, sm, om, t, st, tm, rg, rk⟩ ((x.setG n1 n2 (gvOf r2)).setR F r2) _ ∧ n1 ≤ 100000 ∧ n2 ≤ k + 1 := hS
                    obtain ⟨n1, n2, F, hS2, h2, h3⟩ := hS2
                    obtain ⟨A9, c9, e9, hr9, _⟩ := (hG 3 rfl).1 (by first | exact trivial | rfl)
                    injection e9 with e9 _ e11
                    subst e9 e11
                    obtain ⟨A10, c10, e10, hr10, _⟩ := (hG 7 rfl).2 (by first | exact trivial | rfl)
                    injection e10 with e10 _ e12
                    subst e10 e12
                    refine settle_enter ((sameIDs_same _ A7 ll c7 A8 c8 L hr9 hr10 hl63).mono ?_)
                    rintro e w6 ⟨rfl, hc6⟩
                    exact ⟨_, rfl, rfl, hc6.of_non, ⟨n1, n2, F, hS2.non hc6, h2, h3⟩, (fun e => by cases e), (fun e => by cases e)⟩
                  rintro v hv
                  obtain rfl : v = .bool true := hv
                  simp only [Act.put, List.setIfInBounds_toArray, List.set_cons_succ, List.set_cons_zero]
                  repeat (first | (refine st_pass (by rfl) ?_; simp only [Act.put, List.setIfInBounds_toArray, List.set_cons_succ, List.set_cons_zero]) | (refine st_plain (fun b => x.FG b ∨ x.FR b) (wY) rfl rfl (f := ?_) (by rfl) rfl rfl (fun w hC hG => ?_) ?_; rotate_left; (clear hG; first | (go_simp; done) | (go_simp; with_reducible rfl) | (simp [*, go_sem, ↓IntWalk.iteOmega]; done) | (simp [*, go_sem, ↓IntWalk.iteOmega]; with_reducible rfl)); simp only [Act.put, List.setIfInBounds_toArray, List.set_cons_succ, List.set_cons_zero]))
                  refine st_end (fun b => x.FG b ∨ x.FR b) wY rfl rfl (fun w6 hC6 hS6 hG6 => ?_)
                  have hS7 : ∃ n1 n2 F, MBs wo ⟨g, sm, om, t, st, tm, rg, rk⟩ ((x.setG n1 n2 (gvOf r2)).setR F r2) w6 ∧ n1 ≤ 100000 ∧ n2 ≤ k + 1 := hS6
                  clear hG6 hS6 y5 hgxl hB hbx keepR
                  obtain ⟨n1, n2, F, hB6, h2, h3⟩ := hS7
                  go_wp2_with fail
                  go_meet
                  exact ⟨rfl, ⟨_, hB6, Hm.out n1 n2 F h2 h3⟩⟩
              · as_aux_lemma =>
                  obtain ⟨q, bo, ts2, s2, hW⟩ := way_tkIn (a := ⟨g, sm, om, t, st, tm, rg, rk⟩) (wo := wo) hR.out hkk nt NA nk nc NB nb nbd Hnt.out (by omega) (by omega)
                  have hp : ∀ w, MBs wo ⟨g, sm, om, t, st, tm, rg, rk⟩ x w → Calls Try.prog 17 #[.pointer (some ⟨t, 0, none⟩), .agg #[.int .i64 nt.kind, .int .i64 nt.node, .int .i64 nt.life, .int .i64 nt.epoch, .string nt.id, .int .i64 nt.fn, .slice NA nk nc, .int .i64 nt.err, .int .i64 nt.val, .int .i64 nt.vep, .slice NB nb nbd]] w (fun e w2 => e = .returned (.tuple #[.agg #[.int .i64 q.kind, .int .i64 q.node, .int .i64 q.life, .int .i64 q.epoch, .string q.id, .int .i64 q.fn, .slice none 0 0, .int .i64 q.err, .int .i64 q.val, .int .i64 q.vep, .slice none 0 0], .bool bo]) ∧ ∃ n1 n2, MBs wo ⟨g, sm, om, t, st, tm, rg, rk⟩ (x.setT n1 n2 ts2) w2 ∧ n1 ≤ 100000 ∧ n2 ≤ k + 1 ∧ Chg x.FT w w2) := hW.p
                  have hr : ∀ w n1 n2, MBs wo ⟨g, sm, om, t, st, tm, rg, rk⟩ (x.setT n1 n2 ts2) w → Calls Try.prog 31 #[.pointer (some ⟨rk, 0, none⟩), .agg #[.int .i64 nt.kind, .int .i64 nt.node, .int .i64 nt.life, .int .i64 nt.epoch, .string nt.id, .int .i64 nt.fn, .slice NA nk nc, .int .i64 nt.err, .int .i64 nt.val, .int .i64 nt.vep, .slice NB nb nbd]] w (fun e w2 => e = .returned (.tuple #[.agg #[.int .i64 q.kind, .int .i64 q.node, .int .i64 q.life, .int .i64 q.epoch, .string q.id, .int .i64 q.fn, .slice none 0 0, .int .i64 q.err, .int .i64 q.val, .int .i64 q.vep, .slice none 0 0], .bool bo]) ∧ ∃ F, MBs wo ⟨g, sm, om, t, st, tm, rg, rk⟩ ((x.setT n1 n2 ts2).setS F s2) w2 ∧ Chg x.FS w w2) := hW.r
                  have Hm := Lib.hid hW.m
                  clear hW
                  have hp1 := hp wY hB
                  clear hp
                  go_wp2_with fail
                  refine hp1.mono ?_
                  clear hp1
                  rintro e w5 ⟨rfl, n1, n2, hB5, h2, h3, hc5⟩
                  have hbx5 := hbx.chg hc5 (fun e => hbxN (.inr (.inl e)))
                  clear x0 x1 x2 x3 x4 x5 x6 x7 x8 x9 x10 x11 x12 x13 x14 x15 x16
                  have z6 : w5.cell? ⟨gx, 6, none⟩ = some (.int .i64 nt.kind) := hbx5.cell 6
                  have z7 : w5.cell? ⟨gx, 7, none⟩ = some (.int .i64 nt.node) := hbx5.cell 7
                  have z8 : w5.cell? ⟨gx, 8, none⟩ = some (.int .i64 nt.life) := hbx5.cell 8
                  have z9 : w5.cell? ⟨gx, 9, none⟩ = some (.int .i64 nt.epoch) := hbx5.cell 9
                  have z10 : w5.cell? ⟨gx, 10, none⟩ = some (.string nt.id) := hbx5.cell 10
                  have z11 : w5.cell? ⟨gx, 11, none⟩ = some (.int .i64 nt.fn) := hbx5.cell 11
                  have z12 : w5.cell? ⟨gx, 12, none⟩ = some (.slice NA nk nc) := hbx5.cell 12
                  have z13 : w5.cell? ⟨gx, 13, none⟩ = some (.int .i64 nt.err) := hbx5.cell 13
                  have z14 : w5.cell? ⟨gx, 14, none⟩ = some (.int .i64 nt.val) := hbx5.cell 14
                  have z15 : w5.cell? ⟨gx, 15, none⟩ = some (.int .i64 nt.vep) := hbx5.cell 15
                  have z16 : w5.cell? ⟨gx, 16, none⟩ = some (.slice NB nb nbd) := hbx5.cell 16
                  have zl := hbx5.lt
                  have hr9 := fun w6 (hc6 : Chg Non w5 w6) => (show MBs wo ⟨g, sm, om, t, st, tm, rg, rk⟩ _ w6 from hB5.non hc6)
                  go_wp2_with fail
                  clear z6 z7 z8 z9 z10 z11 z12 z13 z14 z15 z16 zl hbx5 hbx
                  obtain ⟨w6, hw6⟩ : ∃ w6, w5.alloc (.cells #[.int .i64 q.kind, .int .i64 q.node, .int .i64 q.life, .int .i64 q.epoch, .string q.id, .int .i64 q.fn, .slice none 0 0, .int .i64 q.err, .int .i64 q.val, .int .i64 q.vep, .slice none 0 0] 59) = w6 := ⟨_, rfl⟩
                  have hc6 : Chg Non w5 w6 := hw6 ▸ (Chg.refl _ _).alloc _
                  have hb17 : Blk w6 w5.heap.size 59 #[.int .i64 q.kind, .int .i64 q.node, .int .i64 q.life, .int .i64 q.epoch, .string q.id, .int .i64 q.fn, .slice none 0 0, .int .i64 q.err, .int .i64 q.val, .int .i64 q.vep, .slice none 0 0] := hw6 ▸ Blk.new _ _ _
                  have hB6 := hB5.non hc6
                  have hr1 := hr w6 n1 n2 hB6
                  clear hr hr9
                  rw [hw6]
                  refine hr1.mono ?_
                  clear hr1
                  rintro e w7 ⟨rfl, F, hB7, hc7⟩
                  have h17 := hb17.chg hc7 (fun e => by have := hB5.lt _ (.inr (.inr (.inr e))); omega)
                  have hs57 : w5.heap.size < w7.heap.size := h17.lt
                  have p0 : w7.cell? ⟨w5.heap.size, 0, none⟩ = some (.int .i64 q.kind) := h17.cell 0
                  have p1 : w7.cell? ⟨w5.heap.size, 1, none⟩ = some (.int .i64 q.node) := h17.cell 1
                  have p2 : w7.cell? ⟨w5.heap.size, 2, none⟩ = some (.int .i64 q.life) := h17.cell 2
                  have p3 : w7.cell? ⟨w5.heap.size, 3, none⟩ = some (.int .i64 q.epoch) := h17.cell 3
                  have p4 : w7.cell? ⟨w5.heap.size, 4, none⟩ = some (.string q.id) := h17.cell 4
                  have p5 : w7.cell? ⟨w5.heap.size, 5, none⟩ = some (.int .i64 q.fn) := h17.cell 5
                  have p6 : w7.cell? ⟨w5.heap.size, 6, none⟩ = some (.slice none 0 0) := h17.cell 6
                  have p7 : w7.cell? ⟨w5.heap.size, 7, none⟩ = some (.int .i64 q.err) := h17.cell 7
                  have p8 : w7.cell? ⟨w5.heap.size, 8, none⟩ = some (.int .i64 q.val) := h17.cell 8
                  have p9 : w7.cell? ⟨w5.heap.size, 9, none⟩ = some (.int .i64 q.vep) := h17.cell 9
                  have p10 : w7.cell? ⟨w5.heap.size, 10, none⟩ = some (.slice none 0 0) := h17.cell 10
                  clear hw6 hb17
                  have hee : (bo == bo) = true := beq_self_eq_true _
                  go_wp2_with fail
                  refine (same_nil _ q).mono ?_
                  rintro e w9 ⟨rfl, hc9⟩
                  clear p0 p1 p2 p3 p4 p5 p6 p7 p8 p9 p10 h17 hs57
                  go_wp2_with fail
                  go_meet
                  exact ⟨rfl, ⟨_, (hB7.non (((Chg.refl _ _).alloc _).non hc9)), Hm.out n1 n2 F h2 h3⟩⟩
              · as_aux_lemma =>
                  obtain ⟨hb, ts2, s2, hW⟩ := way_done (a := ⟨g, sm, om, t, st, tm, rg, rk⟩) (wo := wo) hR.out hkk nm hmx
                  have Hp := Lib.hid hW.p
                  have Hr := Lib.hid hW.r
                  have Hm := Lib.hid hW.m
                  have hbb : (hb == hb) = true := beq_self_eq_true _
                  have y3 : ∀ wx, Chg (fun b => x.FT b ∨ x.FS b) wY wx → wx.cell? ⟨gx, 3, none⟩ = some (.string nm) := fun wx h => (hbx.chg h (fun e => hbxN (e.elim (fun e => .inr (.inl e)) (fun e => .inr (.inr (.inr e)))))).cell 3
                  have hgxl : ∀ wx, Chg (fun b => x.FT b ∨ x.FS b) wY wx → gx < wx.heap.size := fun wx h => Nat.lt_of_lt_of_le hbxl h.size
                  clear hW x0 x1 x2 x3 x4 x5 x6 x7 x8 x9 x10 x11 x12 x13 x14 x15 x16
                  go_wp2_with fail
                  refine st_region _ (fun b => x.FT b ∨ x.FS b) [3, 7] [] (fun i _ _ wx => if i = 7 then ∃ n1 n2 F, MBs wo ⟨g, sm, om, t, st, tm, rg, rk⟩ ((x.setT n1 n2 ts2).setS F s2) wx ∧ n1 ≤ 100000 ∧ n2 ≤ k + 1 else ∃ n1 n2, MBs wo ⟨g, sm, om, t, st, tm, rg, rk⟩ (x.setT n1 n2 ts2) wx ∧ n1 ≤ 100000 ∧ n2 ≤ k + 1) (fun _ _ _ _ => True) (fun _ _ v => v = .bool hb) (fun wx => MBs wo ⟨g, sm, om, t, st, tm, rg, rk⟩ x wx) (by kernel_rfl) (okB_of_F _ (by kernel_rfl)) (fun b h => hB.lt b (h.elim (fun e => .inr (.inl e)) (fun e => .inr (.inr (.inr e))))) (hB.non (Chg.refl _ _).drew) (fun wx ob h => h.non ((Chg.refl _ wx).alloc ob)) ?_
                  repeat (first | (refine st_pass (by rfl) ?_; simp only [Act.put, List.setIfInBounds_toArray, List.set_cons_succ, List.set_cons_zero]) | (refine st_plain (fun b => x.FT b ∨ x.FS b) (wY) rfl rfl (f := ?_) (by rfl) rfl rfl (fun w hC hG => ?_) ?_; rotate_left; (clear hG; first | (go_simp; done) | (go_simp; with_reducible rfl) | (simp [*, go_sem, ↓IntWalk.iteOmega]; done) | (simp [*, go_sem, ↓IntWalk.iteOmega]; with_reducible rfl)); simp only [Act.put, List.setIfInBounds_toArray, List.set_cons_succ, List.set_cons_zero]))
                  refine st_major (fun b => x.FT b ∨ x.FS b) (wY) rfl rfl (by rfl) rfl (⟨_, rfl⟩) (fun _ _ _ _ _ _ => trivial) (fun v wx ob h => h.imp fun n2 h => h.imp fun n3 h => ⟨h.1.non ((Chg.refl _ wx).alloc ob), h.2⟩) (fun w hC hG hS => settle_of (r2 := ?_) ?_ ?_) ?_
                  rotate_left
                  (first | (go_simp; done) | (go_simp; rfl))
                  · refine settle_enter ((Hp.out _ hS).mono ?_)
                    rintro e w6 ⟨rfl, n1, n2, h1, h2, h3, h4⟩
                    exact ⟨_, rfl, rfl, h4.mono fun b e => .inl e, ⟨n1, n2, h1, h2, h3⟩, trivial⟩
                  rintro v rfl
                  simp only [Act.put, List.setIfInBounds_toArray, List.set_cons_succ, List.set_cons_zero]
                  repeat (first | (refine st_pass (by rfl) ?_; simp only [Act.put, List.setIfInBounds_toArray, List.set_cons_succ, List.set_cons_zero]) | (refine st_plain (fun b => x.FT b ∨ x.FS b) (wY) rfl rfl (f := ?_) (by rfl) rfl rfl (fun w hC hG => ?_) ?_; rotate_left; (clear hG; first | (go_simp; done) | (go_simp; with_reducible rfl) | (simp [*, go_sem, ↓IntWalk.iteOmega]; done) | (simp [*, go_sem, ↓IntWalk.iteOmega]; with_reducible rfl)); simp only [Act.put, List.setIfInBounds_toArray, List.set_cons_succ, List.set_cons_zero]))
                  refine st_major (fun b => x.FT b ∨ x.FS b) (wY) rfl rfl (by rfl) rfl (⟨_, rfl⟩) (fun _ _ _ _ _ _ => trivial) (fun v wx ob h => h.imp fun n2 h => h.imp fun n3 h => h.imp fun F h => ⟨h.1.non ((Chg.refl _ wx).alloc ob), h.2⟩) (fun w hC hG hS => settle_of (r2 := ?_) ?_ ?_) ?_
                  rotate_left
                  (first | (go_simp; done) | (go_simp; rfl))
                  · have hS2 : ∃ n1 n2, MBs wo ⟨g, sm, om, t, st, tm, rg, rk⟩ (x.setT n1 n2 ts2) _ ∧ n1 ≤ 100000 ∧ n2 ≤ k + 1 := hS
                    obtain ⟨n1, n2, hS2, h2, h3⟩ := hS2
                    refine settle_enter ((Hr.out _ n1 n2 hS2).mono ?_)
                    rintro e w6 ⟨rfl, F, h1, h4⟩
                    exact ⟨_, rfl, rfl, h4.mono fun b e => .inr e, ⟨n1, n2, F, h1, h2, h3⟩, trivial⟩
                  rintro v rfl
                  simp only [Act.put, List.setIfInBounds_toArray, List.set_cons_succ, List.set_cons_zero]
                  repeat (first | (refine st_pass (by rfl) ?_; simp only [Act.put, List.setIfInBounds_toArray, List.set_cons_succ, List.set_cons_zero]) | (refine st_plain (fun b => x.FT b ∨ x.FS b) (wY) rfl rfl (f := ?_) (by rfl) rfl rfl (fun w hC hG => ?_) ?_; rotate_left; (clear hG; first | (go_simp; done) | (go_simp; with_reducible rfl) | (simp [*, go_sem, ↓IntWalk.iteOmega]; done) | (simp [*, go_sem, ↓IntWalk.iteOmega]; with_reducible rfl)); simp only [Act.put, List.setIfInBounds_toArray, List.set_cons_succ, List.set_cons_zero]))
                  refine st_end (fun b => x.FT b ∨ x.FS b) wY rfl rfl (fun w6 hC6 hS6 hG6 => ?_)
                  have hS7 : ∃ n1 n2 F, MBs wo ⟨g, sm, om, t, st, tm, rg, rk⟩ ((x.setT n1 n2 ts2).setS F s2) w6 ∧ n1 ≤ 100000 ∧ n2 ≤ k + 1 := hS6
                  clear hG6 hS6 y3 hgxl hB hbx
                  obtain ⟨n1, n2, F, hB6, h2, h3⟩ := hS7
                  go_wp2_with fail
                  go_meet
                  exact ⟨rfl, ⟨_, hB6, Hm.out n1 n2 F h2 h3⟩⟩
            case rest =>
              clear hB x0 x1 x2 x3 x4 x5 x6 x7 x8 x9 x10 x11 x12 x13 x14 x15 x16 hbx hbxN hbxl hCw hR
              obtain ⟨rfl, hbb⟩ := hcut
              obtain ⟨x, hB, hM⟩ := hbb
              as_aux_lemma =>
                have hm := hM.out
                have hlt0 := hB.lt
                obtain ⟨n1, hn1⟩ : ∃ n, x.ns = n := ⟨_, rfl⟩
                obtain ⟨n2, hn2⟩ : ∃ n, x.mt = n := ⟨_, rfl⟩
                obtain ⟨p1, hp1⟩ : ∃ p, x.sg.has = p := ⟨_, rfl⟩
                obtain ⟨p2, hp2⟩ : ∃ p, x.ts.has = p := ⟨_, rfl⟩
                have hnb1 : n1 ≤ 100000 := by rw [← hn1]; exact hm.ns
                have hnb2 : n2 ≤ 100000 := by rw [← hn2]; exact hm.mt
                have u0 : wc.cell? ⟨g, 0, none⟩ = some (.map (some sm)) := hB.gv.hb.cell 0
                have ug : g < wc.heap.size := hB.gv.hb.lt
                have hH1 := setHas_any wc sm n1 p1 (by rw [← hn1, ← hp1]; exact hB.gv.hs) (by omega)
                go_wp2_with fail
                refine hH1.mono ?_
                clear hH1
                rintro e w5 ⟨A1, c1, X1, rfl, hr1, hm1, hx1, ho1, hcK⟩
                have Hx1 : Hid (n1 = X1.length) := hx1
                clear hx1
                have hos := hB.chg.size
                have hks := hcK.size
                have hB5 := hB.non hcK
                have v0 : w5.cell? ⟨t, 0, none⟩ = some (.map (some st)) := hB5.tk.hb.cell 0
                have vt : t < w5.heap.size := hB5.tk.hb.lt
                have hH2 := setHas_any w5 st n2 p2 (by rw [← hn2, ← hp2]; exact hB5.tk.hs) (by omega)
                clear u0 ug
                go_wp2_with fail
                refine hH2.mono ?_
                clear hH2
                rintro e w6 ⟨A3, c3, X2, rfl, hr2, hm2, hx2, ho2, hcK2⟩
                have hx1 := Hx1.out
                clear Hx1
                have hks2 := hcK2.size
                have hB6 := hB5.non hcK2
                have ho16 := ho1.non hcK2
                have hX1 : X1 = x.r.H := rises_eqS hr1 hm.okr.rise fun z => by rw [hm1, ← hp1, hm.sg]; exact hasL_true
                have hX2 : X2 = x.s.H := rises_eqS hr2 hm.tr.rise fun z => by rw [hm2, ← hp2, hm.tr.has]; exact hasL_true
                obtain ⟨A5, n5, c5, A6, n6, c6, hat, _, hn5, _⟩ := hB6.rg.open_
                obtain ⟨A7, n7, c7, A8, n8, c8, hbt, _, hn7, _⟩ := hB6.rk.open_
                obtain rfl : n5 = n1 := by rw [hn5, hx1, hX1]
                obtain rfl : n7 = n2 := by rw [hn7, hx2, hX2]
                have hRest : Hid (Rest x (k + 1)) := ⟨hm, by rw [hn1, hn5], by rw [hn2, hn7]⟩
                have e1 : w6.cell? ⟨rg, 1, none⟩ = some (.slice A5 n5 c5) := hat.hb.cell 1
                have e2 : w6.cell? ⟨rk, 2, none⟩ = some (.slice A7 n7 c7) := hbt.hb.cell 2
                have l1 : rg < w6.heap.size := hat.hb.lt
                have l2 : rk < w6.heap.size := hbt.hb.lt
                have s1 := sameIDs_same w6 A1 n5 c1 A5 c5 X1 ho16.rds (by rw [hX1]; exact hat.hH.rds) (by omega)
                have S2 := Lib.hid (fun (wx : World) (h : Chg Non w6 wx) => sameIDs_same wx A3 n7 c3 A7 c7 X2 (ho2.rds.non h) (by rw [hX2]; exact hbt.hH.rds.non h) (by omega))
                have ho1l : ∀ b, (Value.slice A1 n5 c1).ownBlock = some b → ¬ x.all b ∧ wo.heap.size ≤ b ∧ b < w5.heap.size := fun b hb => by
                  have h1 := ho1.lt hb
                  exact ⟨fun h => by have := hlt0 b h; omega, by omega, h1.2⟩
                have ho2b : ∀ b, (Value.slice A3 n7 c3).ownBlock = some b → w5.heap.size ≤ b := fun b hb => (ho2.lt hb).1
                have ho2l : ∀ b, (Value.slice A3 n7 c3).ownBlock = some b → ¬ x.all b ∧ wo.heap.size ≤ b := fun b hb => by
                  have h1 := ho2b b hb
                  exact ⟨fun h => by have := hlt0 b h; omega, by omega⟩
                have Ho1l := Lib.hid ho1l
                have Ho2b := Lib.hid ho2b
                have Ho2l := Lib.hid ho2l
                have Hlt0 := Lib.hid hlt0
                have HB6 := Lib.hid hB6
                have Ho16 := Lib.hid ho16
                have Ho2 := Lib.hid ho2
                clear ho1l ho2b ho2l hlt0 hB6 ho16 ho2 hos hks hks2
                clear v0 vt hB hB5 hat hbt hr1 hr2 hm1 hm2 hX1 hX2 hn1 hn2 hn5 hn7 hx1 hx2 hp1 hp2 hm ho1 hcK hcK2
                go_wp2_with fail
                refine s1.mono ?_
                rintro e w7 ⟨rfl, hc7⟩
                have e27 := hc7.cell e2 id
                have l27 : rk < w7.heap.size := Nat.lt_of_lt_of_le l2 hc7.size
                have s2 := S2.out w7 hc7
                clear s1 e1 e2 l1 l2 S2
                go_wp2_with fail
                refine s2.mono ?_
                rintro e wq ⟨rfl, hc8⟩
                have hB := (HB6.out.non hc7).non hc8
                have ho2 := (Ho2.out.non hc7).non hc8
                have ho1l := Ho1l.out
                have ho2l := Ho2l.out
                have ho2b := Ho2b.out
                have hol1 : Hid (∃ xs, OwnR rkI wq 0 (.slice A1 n5 c1) n5 xs) := ⟨_, OwnR.mono ((Ho16.out.non hc7).non hc8) (Nat.zero_le _)⟩
                clear s2 e27 l27 hc7 hc8
                go_wp2_with fail
                go_loopw [31] (fun i wr => ∃ j : Nat, j ≤ n5 ∧ i = .int .i64 j ∧ Hid (∃ xs, OwnR rkI wr 0 (.slice A1 n5 c1) n5 xs) ∧ Chg (fun b => (Value.slice A1 n5 c1).ownBlock = some b) wq wr) (fun i _ => n5 - (intOf i).toNat)
                case atStart => exact ⟨0, Nat.zero_le _, rfl, hol1, Chg.refl _ _⟩
                case round =>
                  obtain ⟨j, hj, rfl, hl, hCl⟩ := hrel
                  clear hol1
                  by_cases hlt2 : j < n5
                  · obtain ⟨xs, hx⟩ := hl.out
                    obtain ⟨gy, cap, hv, hg1, hg2⟩ := World.ownsRow.form hx (by omega)
                    injection hv with e1 e2 e3
                    subst e1 e3
                    have hlen : xs.length = n5 * 1 := hx.1
                    have q1 : wr.cell? ⟨gy, j, none⟩ = xs[j]? := World.ownsRow.cellAt hx j (by show j < n5 * 1; omega)
                    rw [List.getElem?_eq_getElem (by omega)] at q1
                    have f1 : wr.frozen? ⟨gy, j, none⟩ = false := World.ownsRow.frozenAt hx j
                    have hl2 : Hid (∃ xs, OwnR rkI (wr.setCell ⟨gy, j, none⟩ (.string ⟨#[103, 111, 110, 101]⟩)) 0 (.slice (some ⟨gy, 0, none⟩) n5 c1) n5 xs) := ⟨_, (World.ownsRow.stored hx j (.string ⟨#[103, 111, 110, 101]⟩)).1⟩
                    have hC2 := hCl.setCell (p := ⟨gy, j, none⟩) (.inl rfl) (.string ⟨#[103, 111, 110, 101]⟩)
                    clear hx hl hCl
                    go_wp2_with fail
                    go_roundw
                    case rel => exact ⟨j + 1, by omega, by go_num, hl2, hC2⟩
                    case measure => simp [intOf]; omega
                  · clear hl
                    have hB8 := hB.put hCl (fun b h e => (ho1l b e).1 h) (fun b e => (ho1l b e).2.1)
                    have hol2 : Hid (∃ xs, OwnR rkI wr 0 (.slice A3 n7 c3) n7 xs) := ⟨_, OwnR.mono (ho2.chg hCl (fun b h e => by have h1 := (ho1l b e).2.2; have h2 := ho2b b h; omega)) (Nat.zero_le _)⟩
                    clear hCl hB ho2
                    go_wp2_with fail
                    obtain ⟨wO, rfl⟩ : ∃ wO, wO = wr := ⟨_, rfl⟩
                    go_loopw [32] (fun i wr => ∃ j : Nat, j ≤ n7 ∧ i = .int .i64 j ∧ Hid (∃ xs, OwnR rkI wr 0 (.slice A3 n7 c3) n7 xs) ∧ Chg (fun b => (Value.slice A3 n7 c3).ownBlock = some b) wO wr) (fun i _ => n7 - (intOf i).toNat)
                    case atStart => exact ⟨0, Nat.zero_le _, rfl, hol2, Chg.refl _ _⟩
                    case round =>
                      obtain ⟨j, hj, rfl, hl, hCl⟩ := hrel
                      clear hol2
                      by_cases hlt2 : j < n7
                      · obtain ⟨xs, hx⟩ := hl.out
                        obtain ⟨gy, cap, hv, hg1, hg2⟩ := World.ownsRow.form hx (by omega)
                        injection hv with e1 e2 e3
                        subst e1 e3
                        have hlen : xs.length = n7 * 1 := hx.1
                        have q1 : wr.cell? ⟨gy, j, none⟩ = xs[j]? := World.ownsRow.cellAt hx j (by show j < n7 * 1; omega)
                        rw [List.getElem?_eq_getElem (by omega)] at q1
                        have f1 : wr.frozen? ⟨gy, j, none⟩ = false := World.ownsRow.frozenAt hx j
                        have hl2 : Hid (∃ xs, OwnR rkI (wr.setCell ⟨gy, j, none⟩ (.string ⟨#[103, 111, 110, 101]⟩)) 0 (.slice (some ⟨gy, 0, none⟩) n7 c3) n7 xs) := ⟨_, (World.ownsRow.stored hx j (.string ⟨#[103, 111, 110, 101]⟩)).1⟩
                        have hC2 := hCl.setCell (p := ⟨gy, j, none⟩) (.inl rfl) (.string ⟨#[103, 111, 110, 101]⟩)
                        clear hx hl hCl
                        go_wp2_with fail
                        go_roundw
                        case rel => exact ⟨j + 1, by omega, by go_num, hl2, hC2⟩
                        case measure => simp [intOf]; omega
                      · clear hl
                        have hB9 := hB8.put hCl (fun b h e => (ho2l b e).1 h) (fun b e => (ho2l b e).2)
                        clear hCl hB8
                        go_wp2_with fail
                        go_roundw
                        case rel => exact ⟨k + 1, by omega, by go_num, x, hB9, hRest⟩
                        case measure => simp [intOf]; omega
    · have hC0 := hB.chg
      clear hB
      go_wp2_with fail
      go_ret
      exact ⟨rfl, hC0⟩

set_option maxRecDepth 100000 in
set_option maxHeartbeats 4000000 in
theorem movePlays_walk (w : World) (node room : Int) (A2 : Option Addr) (m c2 : Nat) (e2 : Rd Try.prog w 75 (Value.slice A2 m c2).cells.toList) :
    Calls Try.prog 7 #[.int .i64 node, .int .i64 room, .slice A2 m c2] w fun e w2 => e = .returned (.bool true) ∧ Chg Non w w2 := by
  obtain ⟨A', n', c', X, i1, i2, i3, i4, i5⟩ := Rd.acts e2
  simp only [Value.cells, List.cons.injEq, and_true, Value.slice.injEq] at i1
  obtain ⟨rfl, rfl, rfl⟩ := i1
  by_cases hn : m ≤ 200
  · exact movePlays_core w node room A2 m c2 X i4 i5 hn
  · clear i4 i5
    unfold maxLen at i3
    have k1 : 200 < m := by omega
    clear hn
    go_enter Try.func7, Try.ntmps7
    go_wp2_with fail
    refine (mv_alive _).mono ?_
    rintro e w1 ⟨rfl, hc1⟩
    go_wp2_with fail
    go_ret
    exact ⟨rfl, hc1⟩
end Go.Proofs.Ytflaliomkfbagaa
