/-
  note.Read.
-/
import Derived.Test.YtclpmadecibofaaNoteReadP
namespace Go.Proofs.Ytclpmadecibofaa
open Go.RowKit
set_option linter.unusedVariables false
set_option linter.unusedSimpArgs false

/-- What Read answers. -/
def ReadPost (w : World) (L : List UInt8) (e : Ending) (w2 : World) : Prop :=
  ∃ A k c B m d, e = .returned (.tuple #[.agg (NtC (rdN L) A k c B m d), .int .i64 (rdE L)]) ∧ NtOwn w2 w.heap.size (rdN L) A k c B m d ∧ Chg Non w w2

theorem ReadPost.zero {w w2 : World} {L : List UInt8} (H : Hid (rdB L = false)) (hc : Chg Non w w2) : ReadPost w L (.returned (.tuple #[.agg #[.int .i64 0, .int .i64 0, .int .i64 0, .int .i64 0, .string ⟨#[]⟩, .int .i64 0, .slice none 0 0, .int .i64 0, .int .i64 0, .int .i64 0, .slice none 0 0], .int .i64 4])) w2 := by
  have h1 : rdN L = Nt.zero := by unfold rdN; rw [H.out]; rfl
  have h2 : rdE L = 4 := by simp [rdE, H.out]
  exact ⟨none, 0, 0, none, 0, 0, by rw [h1, h2] <;> rfl, by rw [h1]; exact ⟨zero_ok, OwnR.nil _ _ _, OwnR.nil _ _ _⟩, hc⟩
theorem NtOwn.base {w : World} {base b2 : Nat} {n : Nt} {A : Option Addr} {k c : Nat} {B : Option Addr} {m d : Nat} (h : NtOwn w base n A k c B m d) (hb : b2 ≤ base) : NtOwn w b2 n A k c B m d :=
  ⟨h.ok, OwnR.mono h.args hb, OwnR.mono h.mems hb⟩
theorem ReadPost.one {w w2 : World} {L : List UInt8} {o : Nt} {A : Option Addr} {k c : Nat} {B : Option Addr} {m d : Nat} (H : rdB L = true ∧ (readRaw L).1 = o) (h : NtOwn w2 w.heap.size o A k c B m d) (hc : Chg Non w w2) :
    ReadPost w L (.returned (.tuple #[.agg #[.int .i64 o.kind, .int .i64 o.node, .int .i64 o.life, .int .i64 o.epoch, .string o.id, .int .i64 o.fn, .slice A k c, .int .i64 o.err, .int .i64 o.val, .int .i64 o.vep, .slice B m d], .int .i64 0])) w2 := by
  have h1 : rdN L = o := by unfold rdN; rw [H.1]; exact H.2
  have h2 : rdE L = 0 := by simp [rdE, H.1]
  exact ⟨A, k, c, B, m, d, by rw [h1, h2] <;> rfl, by rw [h1]; exact h, hc⟩
/-- The rounds of Read. -/
def RelR (w6 : World) (rb bb g nb n8 : Nat) (A8 : Option Addr) (kd : Int) (R : List UInt8) (bad : Bool) (i : Value) (wr : World) : Prop :=
  ∃ q : Nat, q ≤ n8 ∧ i = .int .i64 q ∧ ∃ A k c B m d, Blk wr nb 31 (NtC (((partsL kd).take q).foldl getP (Nt.ofKind kd, R, bad)).1 A k c B m d) ∧ NtOwn wr w6.heap.size (((partsL kd).take q).foldl getP (Nt.ofKind kd, R, bad)).1 A k c B m d ∧
    CurP (fun b => b < bb) wr g (((partsL kd).take q).foldl getP (Nt.ofKind kd, R, bad)).2.1 (((partsL kd).take q).foldl getP (Nt.ofKind kd, R, bad)).2.2 ∧ Blk wr bb 65 #[.pointer (some ⟨g, 0, none⟩)] ∧ Blk wr rb 31 (NtC Nt.zero none 0 0 none 0 0) ∧
    Rds wr 1 A8 n8 (iv (partsL kd)) ∧ Chg (fun b => b = g ∨ b = nb ∨ w6.heap.size ≤ b) w6 wr

set_option maxRecDepth 100000 in
set_option maxHeartbeats 4000000 in
theorem read_any (w : World) (A : Option Addr) (n c : Nat) (L : List UInt8) (hr : Rds w 1 A n (bv L)) (hL : L.length ≤ 1000000) :
    Calls Try.prog 17 #[.slice A n c] w (ReadPost w L) := by
  obtain ⟨w1, hw1⟩ : ∃ w1, w.alloc (.cells #[.int .i64 0, .int .i64 0, .int .i64 0, .int .i64 0, .string ⟨#[]⟩, .int .i64 0, .slice none 0 0, .int .i64 0, .int .i64 0, .int .i64 0, .slice none 0 0] 31) = w1 := ⟨_, rfl⟩
  have hC1 : Chg Non w w1 := hw1 ▸ (Chg.refl _ _).alloc _
  have hS1 : Blk w1 w.heap.size 31 (NtC Nt.zero none 0 0 none 0 0) := hw1 ▸ Blk.new _ _ _
  have hr1 := hr.non hC1
  have hs1 : w.heap.size < w1.heap.size := hS1.lt
  have hcnil := run_string_rds (P := Try.prog) (w := w1) Try.underlying34 Try.underlying5 Try.underlying9 hr1 c
  have Hr := Lib.hid hr
  clear hr
  go_enter Try.func17, Try.ntmps17
  go_wp2_with fail
  refine (new_fresh A n c L w1 hr1 (by omega)).mono ?_
  rintro e w2 ⟨g, rfl, hg, hcur, hc2⟩
  have hC2 := hC1.non hc2
  have hS2 := hS1.non hc2
  have hs2 := hcur.lt
  clear hw1 hC1 hS1 hc2 hr1 hcnil
  go_wp2_with fail
  obtain ⟨w3, hw3⟩ : ∃ w9, w2.alloc (.cells #[.pointer (some ⟨g, 0, none⟩)] 65) = w9 := ⟨_, rfl⟩
  have hc3 : Chg Non w2 w3 := hw3 ▸ (Chg.refl _ _).alloc _
  have hB3 : Blk w3 w2.heap.size 65 #[.pointer (some ⟨g, 0, none⟩)] := hw3 ▸ Blk.new _ _ _
  have hS3 := hS2.non hc3
  have hC3 := hC2.non hc3
  have hcur3 : CurP (fun b => b < w2.heap.size) w3 g L false := (hcur.old.non hc3).mono (fun b h => h.2)
  rw [hw3]
  clear hw3 hc3 hS2 hC2 hcur
  refine (int_any g L false w3 hcur3).mono ?_
  rintro e w4 ⟨rfl, hcur4, hc4⟩
  have hlen := cInt_len L false
  have hkind := cInt_i64 L false
  have Hraw : Hid (readRaw L = (partsL (cInt L false).1).foldl getP (Nt.ofKind (cInt L false).1, (cInt L false).2)) := rfl
  obtain ⟨⟨kd, R, bad⟩, hq⟩ : ∃ q, cInt L false = q := ⟨_, rfl⟩
  rw [hq] at hcur4 hlen hkind Hraw ⊢
  simp only at hcur4 hlen hkind ⊢
  have hS4 := hS3.chg hc4 (fun e => by have e : w.heap.size = g := e; omega)
  have hB4 := hB3.chg hc4 (fun e => by have e : w2.heap.size = g := e; omega)
  have hC4 : Chg Non w w4 := hC3.trans2 hc4 (fun b e => .inr (by have e : b = g := e; omega))
  have Hq := Lib.hid hq
  clear hq hc4 hS3 hB3 hC3 hcur3
  go_wp2_with fail
  obtain ⟨w5, hw5⟩ : ∃ w9, w4.alloc (.cells #[.int .i64 kd, .int .i64 0, .int .i64 0, .int .i64 0, .string ⟨#[]⟩, .int .i64 0, .slice none 0 0, .int .i64 0, .int .i64 0, .int .i64 0, .slice none 0 0] 31) = w9 := ⟨_, rfl⟩
  have hc5 : Chg Non w4 w5 := hw5 ▸ (Chg.refl _ _).alloc _
  have hN5 : Blk w5 w4.heap.size 31 (NtC (Nt.ofKind kd) none 0 0 none 0 0) := hw5 ▸ Blk.new _ _ _
  have hS5 := hS4.non hc5
  have hB5 := hB4.non hc5
  have hC5 := hC4.non hc5
  have hcur5 := hcur4.non hc5
  have hl4 := hB4.lt
  rw [hw5]
  clear hw5 hc5 hS4 hB4 hC4 hcur4
  refine (parts_new w5 kd hkind).mono ?_
  rintro e w6 ⟨A8, n8, c8, rfl, hr8, hn8, _, hc8, hA8⟩
  have hN6 := hN5.non hc8
  have hS6 := hS5.non hc8
  have hB6 := hB5.non hc8
  have hC6 := hC5.non hc8
  have hcur6 := hcur5.non hc8
  have hn4 := parts_len kd
  have Hn8 := Lib.hid hn8
  have h84 : n8 ≤ 4 := by omega
  have hl5 := hN6.lt
  have hl45 := hN5.lt
  have hA9 : 0 < n8 → ∀ ad, A8 = some ad → ad.block < w6.heap.size := fun h0 ad e => by
    obtain ⟨a2, u, e2, _, hcl⟩ := hr8.at_ h0
    rw [e] at e2
    cases e2
    have := World.block_lt_of_cell? w6 _ hcl
    rwa [block_add] at this
  clear hn8 hn4 hN5 hS5 hB5 hC5 hcur5 hc8
  have hown6 : NtOwn w6 w6.heap.size (Nt.ofKind kd) none 0 0 none 0 0 := ⟨ofKind_ok hkind, OwnR.nil _ _ _, OwnR.nil _ _ _⟩
  go_wp2_with fail
  go_loopw [21] (RelR w6 w.heap.size w2.heap.size g w4.heap.size n8 A8 kd R bad) (fun i _ => n8 - (intOf i).toNat)
  case atStart => exact ⟨0, Nat.zero_le _, rfl, none, 0, 0, none, 0, 0, hN6, hown6, hcur6, hB6, hS6, hr8, Chg.refl _ _⟩
  case round =>
    clear hN6 hown6 hcur6 hB6 hS6 hr8
    obtain ⟨q, hq, rfl, A1, k1, c1, B1, m1, d1, hNr, hownr, hcurr, hBr, hSr, hpr, hCr⟩ := hrel
    have hle := fold_le (Nt.ofKind kd, R, bad) ((partsL kd).take q)
    have hqq : ((partsL kd).take q).length ≤ 4 := Nat.le_trans (List.length_take_le _ _) (by omega)
    by_cases hlt : q < n8
    · obtain ⟨ad, p, rfl, hp, hcell⟩ := hpr.getI hlt
      have hp7 := parts_in (List.mem_of_getElem? hp)
      have Hst := Lib.hid (fold_step (s := (Nt.ofKind kd, R, bad)) hp)
      obtain ⟨⟨o, R4, bad4⟩, hs⟩ : ∃ q2, ((partsL kd).take q).foldl getP (Nt.ofKind kd, R, bad) = q2 := ⟨_, rfl⟩
      rw [hs] at hNr hownr hcurr hle
      simp only at hNr hownr hcurr hle
      have Hs := Lib.hid hs
      have x0 := hBr.cell 0
      simp only [List.getElem?_toArray, List.getElem?_cons_zero] at x0
      clear hs hp
      go_wp2_with fail
      refine (get_any wr w2.heap.size w6.heap.size g w4.heap.size o R4 bad4 A1 k1 c1 B1 m1 d1 hNr hownr hcurr hs2 (by omega) (by omega) hCr.size (by omega) (by have : (Nt.ofKind kd).args.length = 0 := rfl; omega) (by have : (Nt.ofKind kd).mems.length = 0 := rfl; omega) p hp7).mono ?_
      rintro e w9 ⟨A9, k9, c9, B9, m9, d9, rfl, hN9, hown9, hcur9, hc9⟩
      have hB9 := hBr.chg hc9 (by rintro (e | e | e) <;> omega)
      have hS9 := hSr.chg hc9 (by rintro (e | e | e) <;> omega)
      have hp9 := hpr.chg hc9 (fun a e => by cases e; have h1 := hA8 _ rfl; have h2 := hA9 (by omega) _ rfl; rintro (e | e | e) <;> omega)
      have hC9 : Chg (fun b => b = g ∨ b = w4.heap.size ∨ w6.heap.size ≤ b) w6 w9 := hCr.trans hc9
      have hrel : RelR w6 w.heap.size w2.heap.size g w4.heap.size n8 (some ad) kd R bad (.int .i64 ((q + 1 : Nat) : Int)) w9 := by
        refine ⟨q + 1, by omega, rfl, A9, k9, c9, B9, m9, d9, ?_, ?_, ?_, hB9, hS9, hp9, hC9⟩
        all_goals rw [Hst.out, Hs.out]; first | exact hN9 | exact hown9 | exact hcur9
      have Hrel := Lib.hid hrel
      clear hrel hC9 hp9 hS9 hB9 hcur9 hown9 hN9 hc9 x0
      go_wp2_with fail
      go_roundw
      case rel => exact Hrel.out
      case measure => simp [intOf]; omega
    · obtain rfl : q = n8 := by omega
      rw [List.take_of_length_le (by have := Hn8.out; omega)] at hNr hownr hcurr hle
      rw [← Hraw.out] at hNr hownr hcurr hle
      obtain ⟨⟨o, R4, bad4⟩, hs⟩ : ∃ q2, readRaw L = q2 := ⟨_, rfl⟩
      rw [hs] at hNr hownr hcurr hle
      simp only at hNr hownr hcurr hle
      have hCx : Chg Non w wr := hC6.trans2 hCr (fun b e => by rcases e with e | e | e <;> exact .inr (by omega))
      have Hs := Lib.hid hs
      have y0 := hNr.cell 0
      have y1 := hNr.cell 1
      have y2 := hNr.cell 2
      have y3 := hNr.cell 3
      have y4 := hNr.cell 4
      have y5 := hNr.cell 5
      have y6 := hNr.cell 6
      have y7 := hNr.cell 7
      have y8 := hNr.cell 8
      have y9 := hNr.cell 9
      have y10 := hNr.cell 10
      simp only [NtC, List.getElem?_toArray, List.getElem?_cons_zero, List.getElem?_cons_succ] at y0 y1 y2 y3 y4 y5 y6 y7 y8 y9 y10
      have hp4 := parts_len kd
      clear hs hcurr hBr hpr hC6 hCr
      go_wp2_with fail
      clear y0 y1 y2 y3 y4 y5 y6 y7 y8 y9 y10
      refine (pack_any wr o A1 k1 c1 B1 m1 d1 hownr.at_ (by have := hownr.lenA; have : (Nt.ofKind kd).args.length = 0 := rfl; omega) (by have := hownr.lenB; have : (Nt.ofKind kd).mems.length = 0 := rfl; omega)).mono ?_
      rintro e w9 ⟨v, rfl, hv, hc9⟩
      have hS := hSr.non hc9
      have hN := hNr.non hc9
      have hown := hownr.non hc9
      have hC := hCx.non hc9
      have hwl := hS.lt
      have hrL := Hr.out.non hC
      obtain ⟨A2, n2, c2, rfl, hn2, _, _, hr2⟩ := hv.open_
      have q1 := run_string_rds Try.underlying34 Try.underlying5 Try.underlying9 hr2 c2
      have q2 := run_string_rds Try.underlying34 Try.underlying5 Try.underlying9 hrL c
      clear hSr hNr hownr hCx hc9 hv hrL hr2 hle
      cases hmay : o.clear.may with
      | false =>
        have H1 : Hid (rdB L = false) := by show _ = _; unfold rdB; rw [Hs.out, hmay]; rfl
        have He : o.packErr = 1 := by unfold Nt.packErr; rw [hmay]; rfl
        rw [He]
        clear He hmay q1 q2
        have z0 := hS.cell 0
        have z1 := hS.cell 1
        have z2 := hS.cell 2
        have z3 := hS.cell 3
        have z4 := hS.cell 4
        have z5 := hS.cell 5
        have z6 := hS.cell 6
        have z7 := hS.cell 7
        have z8 := hS.cell 8
        have z9 := hS.cell 9
        have z10 := hS.cell 10
        simp only [NtC, List.getElem?_toArray, List.getElem?_cons_zero, List.getElem?_cons_succ] at z0 z1 z2 z3 z4 z5 z6 z7 z8 z9 z10
        have f0 := hS.frozen 0
        have f1 := hS.frozen 1
        have f2 := hS.frozen 2
        have f3 := hS.frozen 3
        have f4 := hS.frozen 4
        have f5 := hS.frozen 5
        have f6 := hS.frozen 6
        have f7 := hS.frozen 7
        have f8 := hS.frozen 8
        have f9 := hS.frozen 9
        have f10 := hS.frozen 10
        go_wp2_with fail
        clear z0 z1 z2 z3 z4 z5 z6 z7 z8 z9 z10 f0 f1 f2 f3 f4 f5 f6 f7 f8 f9 f10
        have hbE := hS.put11 (.int .i64 0) (.int .i64 0) (.int .i64 0) (.int .i64 0) (.string ⟨#[]⟩) (.int .i64 0) (.slice none 0 0) (.int .i64 0) (.int .i64 0) (.int .i64 0) (.slice none 0 0)
        have hE := chg11 w9 w.heap.size (.int .i64 0) (.int .i64 0) (.int .i64 0) (.int .i64 0) (.string ⟨#[]⟩) (.int .i64 0) (.slice none 0 0) (.int .i64 0) (.int .i64 0) (.int .i64 0) (.slice none 0 0)
        have r0 := hbE.cell 0
        have r1 := hbE.cell 1
        have r2 := hbE.cell 2
        have r3 := hbE.cell 3
        have r4 := hbE.cell 4
        have r5 := hbE.cell 5
        have r6 := hbE.cell 6
        have r7 := hbE.cell 7
        have r8 := hbE.cell 8
        have r9 := hbE.cell 9
        have r10 := hbE.cell 10
        simp only [List.getElem?_toArray, List.getElem?_cons_zero, List.getElem?_cons_succ] at r0 r1 r2 r3 r4 r5 r6 r7 r8 r9 r10
        have hCE := hC.trans2 hE (fun b e => .inr (by have e : b = w.heap.size := e; omega))
        exact bodyPost_ret (v := .tuple #[.agg #[.int .i64 0, .int .i64 0, .int .i64 0, .int .i64 0, .string ⟨#[]⟩, .int .i64 0, .slice none 0 0, .int .i64 0, .int .i64 0, .int .i64 0, .slice none 0 0], .int .i64 4]) (by simp [results, Try.results17, go_sem, r0, r1, r2, r3, r4, r5, r6, r7, r8, r9, r10]) rfl (ReadPost.zero H1 hCE)
      | true =>
        have He : o.packErr = 0 := by unfold Nt.packErr; rw [hmay]; rfl
        rw [He]
        by_cases hb : o.pack = L
        · have H1 : Hid (rdB L = true) := by show _ = _; unfold rdB; rw [Hs.out, hmay]; simp [hb]
          have H1 := Lib.hid (show rdB L = true ∧ (readRaw L).1 = o from ⟨H1.out, by rw [Hs.out]⟩)
          rw [hb] at q1
          clear He hmay hb hn2
          have z0 := hS.cell 0
          have z1 := hS.cell 1
          have z2 := hS.cell 2
          have z3 := hS.cell 3
          have z4 := hS.cell 4
          have z5 := hS.cell 5
          have z6 := hS.cell 6
          have z7 := hS.cell 7
          have z8 := hS.cell 8
          have z9 := hS.cell 9
          have z10 := hS.cell 10
          simp only [NtC, List.getElem?_toArray, List.getElem?_cons_zero, List.getElem?_cons_succ] at z0 z1 z2 z3 z4 z5 z6 z7 z8 z9 z10
          have f0 := hS.frozen 0
          have f1 := hS.frozen 1
          have f2 := hS.frozen 2
          have f3 := hS.frozen 3
          have f4 := hS.frozen 4
          have f5 := hS.frozen 5
          have f6 := hS.frozen 6
          have f7 := hS.frozen 7
          have f8 := hS.frozen 8
          have f9 := hS.frozen 9
          have f10 := hS.frozen 10
          have y0 := hN.cell 0
          have y1 := hN.cell 1
          have y2 := hN.cell 2
          have y3 := hN.cell 3
          have y4 := hN.cell 4
          have y5 := hN.cell 5
          have y6 := hN.cell 6
          have y7 := hN.cell 7
          have y8 := hN.cell 8
          have y9 := hN.cell 9
          have y10 := hN.cell 10
          simp only [NtC, List.getElem?_toArray, List.getElem?_cons_zero, List.getElem?_cons_succ] at y0 y1 y2 y3 y4 y5 y6 y7 y8 y9 y10
          go_wp2_with fail
          clear z0 z1 z2 z3 z4 z5 z6 z7 z8 z9 z10 f0 f1 f2 f3 f4 f5 f6 f7 f8 f9 f10 y0 y1 y2 y3 y4 y5 y6 y7 y8 y9 y10
          have hbE := hS.put11 (.int .i64 o.kind) (.int .i64 o.node) (.int .i64 o.life) (.int .i64 o.epoch) (.string o.id) (.int .i64 o.fn) (.slice A1 k1 c1) (.int .i64 o.err) (.int .i64 o.val) (.int .i64 o.vep) (.slice B1 m1 d1)
          have hE := chg11 w9 w.heap.size (.int .i64 o.kind) (.int .i64 o.node) (.int .i64 o.life) (.int .i64 o.epoch) (.string o.id) (.int .i64 o.fn) (.slice A1 k1 c1) (.int .i64 o.err) (.int .i64 o.val) (.int .i64 o.vep) (.slice B1 m1 d1)
          have r0 := hbE.cell 0
          have r1 := hbE.cell 1
          have r2 := hbE.cell 2
          have r3 := hbE.cell 3
          have r4 := hbE.cell 4
          have r5 := hbE.cell 5
          have r6 := hbE.cell 6
          have r7 := hbE.cell 7
          have r8 := hbE.cell 8
          have r9 := hbE.cell 9
          have r10 := hbE.cell 10
          simp only [List.getElem?_toArray, List.getElem?_cons_zero, List.getElem?_cons_succ] at r0 r1 r2 r3 r4 r5 r6 r7 r8 r9 r10
          have hCE := hC.trans2 hE (fun b e => .inr (by have e : b = w.heap.size := e; omega))
          have hown9 := hown.side hS hE
          exact bodyPost_ret (v := .tuple #[.agg #[.int .i64 o.kind, .int .i64 o.node, .int .i64 o.life, .int .i64 o.epoch, .string o.id, .int .i64 o.fn, .slice A1 k1 c1, .int .i64 o.err, .int .i64 o.val, .int .i64 o.vep, .slice B1 m1 d1], .int .i64 0]) (by simp [results, Try.results17, go_sem, r0, r1, r2, r3, r4, r5, r6, r7, r8, r9, r10]) rfl (ReadPost.one H1.out (hown9.base (by have := hC.size; omega)) hCE)
        · have H1 : Hid (rdB L = false) := by show _ = _; unfold rdB; rw [Hs.out, hmay]; simp [hb]
          have hne : (o.pack == L) = false := beq_eq_false_iff_ne.2 hb
          clear He hmay hb hn2
          have z0 := hS.cell 0
          have z1 := hS.cell 1
          have z2 := hS.cell 2
          have z3 := hS.cell 3
          have z4 := hS.cell 4
          have z5 := hS.cell 5
          have z6 := hS.cell 6
          have z7 := hS.cell 7
          have z8 := hS.cell 8
          have z9 := hS.cell 9
          have z10 := hS.cell 10
          simp only [NtC, List.getElem?_toArray, List.getElem?_cons_zero, List.getElem?_cons_succ] at z0 z1 z2 z3 z4 z5 z6 z7 z8 z9 z10
          have f0 := hS.frozen 0
          have f1 := hS.frozen 1
          have f2 := hS.frozen 2
          have f3 := hS.frozen 3
          have f4 := hS.frozen 4
          have f5 := hS.frozen 5
          have f6 := hS.frozen 6
          have f7 := hS.frozen 7
          have f8 := hS.frozen 8
          have f9 := hS.frozen 9
          have f10 := hS.frozen 10
          go_wp2_with fail
          clear z0 z1 z2 z3 z4 z5 z6 z7 z8 z9 z10 f0 f1 f2 f3 f4 f5 f6 f7 f8 f9 f10
          have hbE := hS.put11 (.int .i64 0) (.int .i64 0) (.int .i64 0) (.int .i64 0) (.string ⟨#[]⟩) (.int .i64 0) (.slice none 0 0) (.int .i64 0) (.int .i64 0) (.int .i64 0) (.slice none 0 0)
          have hE := chg11 w9 w.heap.size (.int .i64 0) (.int .i64 0) (.int .i64 0) (.int .i64 0) (.string ⟨#[]⟩) (.int .i64 0) (.slice none 0 0) (.int .i64 0) (.int .i64 0) (.int .i64 0) (.slice none 0 0)
          have r0 := hbE.cell 0
          have r1 := hbE.cell 1
          have r2 := hbE.cell 2
          have r3 := hbE.cell 3
          have r4 := hbE.cell 4
          have r5 := hbE.cell 5
          have r6 := hbE.cell 6
          have r7 := hbE.cell 7
          have r8 := hbE.cell 8
          have r9 := hbE.cell 9
          have r10 := hbE.cell 10
          simp only [List.getElem?_toArray, List.getElem?_cons_zero, List.getElem?_cons_succ] at r0 r1 r2 r3 r4 r5 r6 r7 r8 r9 r10
          have hCE := hC.trans2 hE (fun b e => .inr (by have e : b = w.heap.size := e; omega))
          exact bodyPost_ret (v := .tuple #[.agg #[.int .i64 0, .int .i64 0, .int .i64 0, .int .i64 0, .string ⟨#[]⟩, .int .i64 0, .slice none 0 0, .int .i64 0, .int .i64 0, .int .i64 0, .slice none 0 0], .int .i64 4]) (by simp [results, Try.results17, go_sem, r0, r1, r2, r3, r4, r5, r6, r7, r8, r9, r10]) rfl (ReadPost.zero H1 hCE)
end Go.Proofs.Ytclpmadecibofaa
