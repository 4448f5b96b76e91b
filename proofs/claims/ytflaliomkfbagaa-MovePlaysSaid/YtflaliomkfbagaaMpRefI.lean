/-
  gleanerref14.Giver: Again, In.
-/
import Derived.Test.YtflaliomkfbagaaMpRefG
namespace Go.Proofs.Ytflaliomkfbagaa
section
open Go.RowKit
set_option linter.unusedVariables false
set_option linter.unusedSimpArgs false

set_option maxRecDepth 100000 in
set_option maxHeartbeats 4000000 in
theorem refAgain_any (w : World) (F : Nat → Prop) (g : Nat) (r : RgS) (h : Rg w F g r) (a : ByteArray) :
    Calls Try.prog 29 #[.pointer (some ⟨g, 0, none⟩), .string a] w fun e w2 => e = .returned (againV (gvOf r) a) ∧ Chg Non w w2 := by
  obtain ⟨w1, hw1⟩ : ∃ w1, w.alloc (.cells #[.int .i64 0, .int .i64 0, .int .i64 0, .int .i64 0, .string ⟨#[]⟩, .int .i64 0, .slice none 0 0, .int .i64 0, .int .i64 0, .int .i64 0, .slice none 0 0] 59) = w1 := ⟨_, rfl⟩
  have hc1 : Chg Non w w1 := hw1 ▸ (Chg.refl _ _).alloc _
  have hbR : Blk w1 w.heap.size 59 #[.int .i64 0, .int .i64 0, .int .i64 0, .int .i64 0, .string ⟨#[]⟩, .int .i64 0, .slice none 0 0, .int .i64 0, .int .i64 0, .int .i64 0, .slice none 0 0] := hw1 ▸ Blk.new _ _ _
  have h1 := h.non hc1
  have hpl := refPlace_any w1 F g r a h1
  cases hk : pO r.O a with
  | none =>
    have HA : Hid (againV (gvOf r) a = .tuple #[noneV, .bool false]) := by show againV _ _ = _; unfold againV; show (match offO r.O a with | some o => _ | none => _) = _; rw [off_none hk]
    rw [iO_none hk] at hpl
    clear hk hbR h1 h
    go_enter Try.func29, Try.ntmps29
    go_wp2_with fail
    refine hpl.mono ?_
    rintro e w9 ⟨rfl, rfl⟩
    subst hw1
    go_wp2_with fail
    exact bodyPost_ret (v := .tuple #[noneV, .bool false]) (by simp [results, Try.results29, go_sem, noneV, NtC, Nt.zero]) rfl ⟨by rw [HA.out], (Chg.refl _ _).alloc _⟩
  | some k =>
    obtain ⟨x, hx, hxa, hxo⟩ := off_some hk
    have HA : Hid (againV (gvOf r) a = .tuple #[offV x.o a, .bool true]) := by show againV _ _ = _; unfold againV; show (match offO r.O a with | some o => _ | none => _) = _; rw [hxo]
    rw [iO_some hk] at hpl
    obtain ⟨A1, n1, c1, A2, n2, c2, hat, hF, hn1, hn2⟩ := h1.open_
    have hkl := (List.getElem?_eq_some_iff.1 hx).1
    have hkn : k < n2 := by omega
    obtain ⟨gb, cc, hv, hcc, hcm, _⟩ := hat.hO.form (by omega)
    injection hv with e1 e2 e3
    subst e1 e3
    have k2 : w1.cell? ⟨g, 2, none⟩ = some (.slice (some ⟨gb, 0, none⟩) n2 c2) := hat.hb.cell 2
    have hgl := hat.hb.lt
    have q0 : w1.cell? ⟨gb, k * 4, none⟩ = some (.string a) := by rw [← hxa]; exact hat.hO.cellN cellRg_len hx (j := 0) rfl
    have q1 : w1.cell? ⟨gb, k * 4 + 1, none⟩ = some (.int .i64 x.o.to) := hat.hO.cellN cellRg_len hx (j := 1) rfl
    have q2 : w1.cell? ⟨gb, k * 4 + 2, none⟩ = some (.int .i64 x.o.epoch) := hat.hO.cellN cellRg_len hx (j := 2) rfl
    have q3 : w1.cell? ⟨gb, k * 4 + 3, none⟩ = some (.int .i64 x.o.num) := hat.hO.cellN cellRg_len hx (j := 3) rfl
    have hgbl := World.block_lt_of_cell? w1 _ q3
    have HbR := Lib.hid hbR
    have hn2m : n2 ≤ 9223372036854775807 := by unfold maxLen at hcm; omega
    have hNt := refNote_any w1 ⟨a, x.o⟩
    obtain ⟨o, ho⟩ : ∃ o, x.o = o := ⟨_, rfl⟩
    rw [ho] at q1 q2 q3 hNt HA
    clear hk hbR h1 h hat hx hxa hxo hF hn1 hn2 hkl ho
    go_enter Try.func29, Try.ntmps29
    go_wp2_with fail
    refine hpl.mono ?_
    rintro e w9 ⟨rfl, rfl⟩
    clear hpl
    go_wp2_with fail
    refine hNt.mono ?_
    rintro e w8 ⟨rfl, hc8⟩
    have hR8 := HbR.out.non hc8
    have hcg := hc1.non hc8
    clear hNt q0 q1 q2 q3 k2 hgl hgbl hw1 hc1
    unfold offV offN Nt.zero NtC
    dsimp only
    have zd0 := hR8.cell 0
    have zd1 := hR8.cell 1
    have zd2 := hR8.cell 2
    have zd3 := hR8.cell 3
    have zd4 := hR8.cell 4
    have zd5 := hR8.cell 5
    have zd6 := hR8.cell 6
    have zd7 := hR8.cell 7
    have zd8 := hR8.cell 8
    have zd9 := hR8.cell 9
    have zd10 := hR8.cell 10
    simp only [List.getElem?_toArray, List.getElem?_cons_zero, List.getElem?_cons_succ] at zd0 zd1 zd2 zd3 zd4 zd5 zd6 zd7 zd8 zd9 zd10
    have f0 := hR8.frozen 0
    have f1 := hR8.frozen 1
    have f2 := hR8.frozen 2
    have f3 := hR8.frozen 3
    have f4 := hR8.frozen 4
    have f5 := hR8.frozen 5
    have f6 := hR8.frozen 6
    have f7 := hR8.frozen 7
    have f8 := hR8.frozen 8
    have f9 := hR8.frozen 9
    have f10 := hR8.frozen 10
    have rl := hR8.lt
    have hb4 := (((((((((((hR8.put 0 (.int .i64 4)).put 1 (.int .i64 0)).put 2 (.int .i64 o.num)).put 3 (.int .i64 o.epoch)).put 4 (.string a)).put 5 (.int .i64 0)).put 6 (.slice none 0 0)).put 7 (.int .i64 0)).put 8 (.int .i64 0)).put 9 (.int .i64 0)).put 10 (.slice none 0 0))
    simp only [List.setIfInBounds_toArray, List.set_cons_succ, List.set_cons_zero] at hb4
    have r0 := hb4.cell 0
    have r1 := hb4.cell 1
    have r2 := hb4.cell 2
    have r3 := hb4.cell 3
    have r4 := hb4.cell 4
    have r5 := hb4.cell 5
    have r6 := hb4.cell 6
    have r7 := hb4.cell 7
    have r8 := hb4.cell 8
    have r9 := hb4.cell 9
    have r10 := hb4.cell 10
    simp only [List.getElem?_toArray, List.getElem?_cons_zero, List.getElem?_cons_succ] at r0 r1 r2 r3 r4 r5 r6 r7 r8 r9 r10
    have hD4 := ((((((((((((Chg.refl (fun b => b = w.heap.size) w8).set1 0 (.int .i64 4)).set1 1 (.int .i64 0)).set1 2 (.int .i64 o.num)).set1 3 (.int .i64 o.epoch)).set1 4 (.string a)).set1 5 (.int .i64 0)).set1 6 (.slice none 0 0)).set1 7 (.int .i64 0)).set1 8 (.int .i64 0)).set1 9 (.int .i64 0)).set1 10 (.slice none 0 0))
    obtain ⟨w10, hw10⟩ : ∃ w10, (((((((((((w8.setCell ⟨w.heap.size, 0, none⟩ (.int .i64 4)).setCell ⟨w.heap.size, 1, none⟩ (.int .i64 0)).setCell ⟨w.heap.size, 2, none⟩ (.int .i64 o.num)).setCell ⟨w.heap.size, 3, none⟩ (.int .i64 o.epoch)).setCell ⟨w.heap.size, 4, none⟩ (.string a)).setCell ⟨w.heap.size, 5, none⟩ (.int .i64 0)).setCell ⟨w.heap.size, 6, none⟩ (.slice none 0 0)).setCell ⟨w.heap.size, 7, none⟩ (.int .i64 0)).setCell ⟨w.heap.size, 8, none⟩ (.int .i64 0)).setCell ⟨w.heap.size, 9, none⟩ (.int .i64 0)).setCell ⟨w.heap.size, 10, none⟩ (.slice none 0 0)) = w10 := ⟨_, rfl⟩
    rw [hw10] at hb4 hD4 r0 r1 r2 r3 r4 r5 r6 r7 r8 r9 r10
    have hC4 := hcg.trans2 hD4 (fun b e => .inr (by rw [show b = w.heap.size from e]; exact Nat.le_refl _))
    have HD4 := Lib.hid hD4
    have HC4 := Lib.hid hC4
    clear hb4 hD4 hC4
    clear hR8 hcg
    go_wp2_with fail
    exact bodyPost_ret (v := .tuple #[.agg #[.int .i64 4, .int .i64 0, .int .i64 o.num, .int .i64 o.epoch, .string a, .int .i64 0, .slice none 0 0, .int .i64 0, .int .i64 0, .int .i64 0, .slice none 0 0], .bool true]) (by simp [results, Try.results29, go_sem, r0, r1, r2, r3, r4, r5, r6, r7, r8, r9, r10]) rfl ⟨by rw [HA.out] <;> rfl, HC4.out⟩

def RInPost (w : World) (F : Nat → Prop) (g : Nat) (r : RgS) (n : Nt) (e : Ending) (w2 : World) : Prop :=
  ∃ r2, RgPost w F g (.bool (inOk (gvOf r) n)) r2 e w2 ∧ ((inOk (gvOf r) n = false ∧ r2 = r) ∨ (inOk (gvOf r) n = true ∧ ∃ k, pO r.O n.id = some k ∧ r2 = inR r k n))
theorem RInPost.no {w w2 : World} {F : Nat → Prop} {g : Nat} {r : RgS} {n : Nt} (h : Rg w F g r) (hc : Chg Non w w2) (hi : inOk (gvOf r) n = false) : RInPost w F g r n (.returned (.bool false)) w2 :=
  ⟨r, by rw [hi]; exact RgPost.stay h hc, .inl ⟨hi, rfl⟩⟩

set_option maxRecDepth 100000 in
set_option maxHeartbeats 8000000 in
theorem refIn_no (w : World) (F : Nat → Prop) (g : Nat) (r : RgS) (h : Rg w F g r) (n : Nt) (A : Option Addr) (k c : Nat) (B : Option Addr) (m d : Nat) (hi : inOk (gvOf r) n = false) :
    Calls Try.prog 28 #[.pointer (some ⟨g, 0, none⟩), .agg (NtC n A k c B m d)] w (RInPost w F g r n) := by
  have Hno : Hid (∀ w2, Chg Non w w2 → RInPost w F g r n (.returned (.bool false)) w2) := fun w2 hc => RInPost.no h hc hi
  obtain ⟨w1, hw1⟩ : ∃ w1, w.alloc (.cells (NtC n A k c B m d) 59) = w1 := ⟨_, rfl⟩
  have hc1 : Chg Non w w1 := hw1 ▸ (Chg.refl _ _).alloc _
  have hbN : Blk w1 w.heap.size 59 (NtC n A k c B m d) := hw1 ▸ Blk.new _ _ _
  have h1 := h.non hc1
  have hpl := refPlace_any w1 F g r n.id h1
  have n0 : w1.cell? ⟨w.heap.size, 0, none⟩ = some (.int .i64 n.kind) := hbN.cell 0
  have n1 : w1.cell? ⟨w.heap.size, 1, none⟩ = some (.int .i64 n.node) := hbN.cell 1
  have n2 : w1.cell? ⟨w.heap.size, 2, none⟩ = some (.int .i64 n.life) := hbN.cell 2
  have n3 : w1.cell? ⟨w.heap.size, 3, none⟩ = some (.int .i64 n.epoch) := hbN.cell 3
  have n4 : w1.cell? ⟨w.heap.size, 4, none⟩ = some (.string n.id) := hbN.cell 4
  have nl := hbN.lt
  have Hc1 := Lib.hid hc1
  by_cases h5 : n.kind = 5 ∨ n.kind = 6
  · have hkk : (n.kind != 5) = false ∨ ((n.kind != 5) = true ∧ (n.kind != 6) = false) := by
      rcases h5 with e | e
      · exact .inl (by rw [e]; rfl)
      · exact .inr ⟨by rw [e]; rfl, by rw [e]; rfl⟩
    cases hk : pO r.O n.id with
    | none =>
      rw [iO_none hk] at hpl
      clear hk h1 h hbN hi h5 hc1
      rcases hkk with hkk | ⟨hkk, hk6⟩
      all_goals
        go_enter Try.func28, Try.ntmps28
        go_wp2_with fail
        refine hpl.mono ?_
        rintro e w9 ⟨rfl, rfl⟩
        go_wp2_with fail
        go_ret
        exact Hno.out _ Hc1.out
    | some p =>
      obtain ⟨x, hx, hxa, hxo⟩ := off_some hk
      rw [iO_some hk] at hpl
      have hi2 : (x.o.to == n.node && x.o.epoch == n.epoch && x.o.num == n.life) = false := by
        have h9 := hi
        unfold inOk at h9
        rw [show (gvOf r).off n.id = offO r.O n.id from rfl, hxo] at h9
        dsimp only at h9
        rw [show (n.kind == 5 || n.kind == 6) = true by rcases h5 with e | e <;> rw [e] <;> rfl, Bool.true_and] at h9
        exact h9
      obtain ⟨A1, n1', c1, A2, n2', c2, hat, hF, hn1, hn2⟩ := h1.open_
      have hkl := (List.getElem?_eq_some_iff.1 hx).1
      have hkn : p < n2' := by omega
      obtain ⟨gb, cc, hv, hcc, hcm, _⟩ := hat.hO.form (by omega)
      injection hv with e1 e2 e3
      subst e1 e3
      have k2 : w1.cell? ⟨g, 2, none⟩ = some (.slice (some ⟨gb, 0, none⟩) n2' c2) := hat.hb.cell 2
      have hgl := hat.hb.lt
      have q0 : w1.cell? ⟨gb, p * 4, none⟩ = some (.string n.id) := by rw [← hxa]; exact hat.hO.cellN cellRg_len hx (j := 0) rfl
      have q1 : w1.cell? ⟨gb, p * 4 + 1, none⟩ = some (.int .i64 x.o.to) := hat.hO.cellN cellRg_len hx (j := 1) rfl
      have q2 : w1.cell? ⟨gb, p * 4 + 2, none⟩ = some (.int .i64 x.o.epoch) := hat.hO.cellN cellRg_len hx (j := 2) rfl
      have q3 : w1.cell? ⟨gb, p * 4 + 3, none⟩ = some (.int .i64 x.o.num) := hat.hO.cellN cellRg_len hx (j := 3) rfl
      have hgbl := World.block_lt_of_cell? w1 _ q3
      have hn2m : n2' ≤ 9223372036854775807 := by unfold maxLen at hcm; omega
      obtain ⟨o, ho⟩ : ∃ o, x.o = o := ⟨_, rfl⟩
      rw [ho] at q1 q2 q3 hi2
      have hcase : (o.epoch != n.epoch) = true ∨ ((o.epoch != n.epoch) = false ∧ (o.num != n.life) = true) ∨ ((o.epoch != n.epoch) = false ∧ (o.num != n.life) = false ∧ (o.to != n.node) = true) := by
        unfold bne
        cases h6 : o.epoch == n.epoch with
        | false => exact .inl rfl
        | true =>
          cases h7 : o.num == n.life with
          | false => exact .inr (.inl ⟨rfl, rfl⟩)
          | true =>
            cases h8 : o.to == n.node with
            | false => exact .inr (.inr ⟨rfl, rfl, rfl⟩)
            | true => rw [h6, h7, h8] at hi2; cases hi2
      obtain ⟨ep, hep⟩ : ∃ ep, n.epoch = ep := ⟨_, rfl⟩
      obtain ⟨lf, hlf⟩ : ∃ lf, n.life = lf := ⟨_, rfl⟩
      obtain ⟨nd, hnd⟩ : ∃ nd, n.node = nd := ⟨_, rfl⟩
      obtain ⟨kd, hkd⟩ : ∃ kd, n.kind = kd := ⟨_, rfl⟩
      rw [hep] at hcase n3
      rw [hlf] at hcase n2
      rw [hnd] at hcase n1
      rw [hkd] at hkk n0
      clear hk h1 h hbN hi h5 hc1 hat hx hxa hxo hF hn1 hn2 hkl ho hi2 hep hlf hnd hkd
      rcases hkk with hkk | ⟨hkk, hk6⟩
      all_goals
        rcases hcase with t1 | ⟨t1, t2⟩ | ⟨t1, t2, t3⟩
        all_goals
          go_enter Try.func28, Try.ntmps28
          go_wp2_with fail
          refine hpl.mono ?_
          rintro e w9 ⟨rfl, rfl⟩
          go_wp2_with fail
          go_ret
          exact Hno.out _ (Hc1.out.alloc _)
  · have hkk : (n.kind != 5) = true ∧ (n.kind != 6) = true := by
      rw [not_or] at h5
      exact ⟨bne_iff_ne.2 h5.1, bne_iff_ne.2 h5.2⟩
    obtain ⟨hk5, hk6⟩ := hkk
    generalize iO r.O n.id = z at hpl
    clear h1 h hbN hi h5 hc1
    go_enter Try.func28, Try.ntmps28
    go_wp2_with fail
    refine hpl.mono ?_
    rintro e w9 ⟨rfl, rfl⟩
    go_wp2_with fail
    go_ret
    exact Hno.out _ Hc1.out

set_option maxRecDepth 100000 in
set_option maxHeartbeats 8000000 in
theorem refIn_yes (w : World) (F : Nat → Prop) (g : Nat) (r : RgS) (h : Rg w F g r) (n : Nt) (A : Option Addr) (k c : Nat) (B : Option Addr) (m d : Nat) (hi : inOk (gvOf r) n = true) (hl : r.O.length ≤ 1000000) (hH : r.H.length ≤ 1000000) :
    Calls Try.prog 28 #[.pointer (some ⟨g, 0, none⟩), .agg (NtC n A k c B m d)] w (RInPost w F g r n) := by
  obtain ⟨w1, hw1⟩ : ∃ w1, w.alloc (.cells (NtC n A k c B m d) 59) = w1 := ⟨_, rfl⟩
  have hc1 : Chg Non w w1 := hw1 ▸ (Chg.refl _ _).alloc _
  have hbN : Blk w1 w.heap.size 59 (NtC n A k c B m d) := hw1 ▸ Blk.new _ _ _
  have h1 := h.non hc1
  have hpl := refPlace_any w1 F g r n.id h1
  have hFlt := h.lt
  cases hk : pO r.O n.id with
  | none =>
    unfold inOk at hi
    rw [show (gvOf r).off n.id = offO r.O n.id from rfl, off_none hk] at hi
    cases hi
  | some p =>
    obtain ⟨x, hx, hxa, hxo⟩ := off_some hk
    rw [iO_some hk] at hpl
    have hi2 : (n.kind == 5 || n.kind == 6) = true ∧ x.o.to = n.node ∧ x.o.epoch = n.epoch ∧ x.o.num = n.life := by
      have h9 := hi
      unfold inOk at h9
      rw [show (gvOf r).off n.id = offO r.O n.id from rfl, hxo] at h9
      dsimp only at h9
      simp only [Bool.and_eq_true, beq_iff_eq] at h9
      exact ⟨h9.1, h9.2.1.1, h9.2.1.2, h9.2.2⟩
    obtain ⟨A1, n1', c1, A2, n2', c2, hat, hF, hn1, hn2⟩ := h1.open_
    have hkl := (List.getElem?_eq_some_iff.1 hx).1
    have hkn : p < n2' := by omega
    obtain ⟨gb, cc, hv, hcc, hcm, _⟩ := hat.hO.form (by omega)
    injection hv with e1 e2 e3
    subst e1 e3
    have k2 : w1.cell? ⟨g, 2, none⟩ = some (.slice (some ⟨gb, 0, none⟩) n2' c2) := hat.hb.cell 2
    have hgl := hat.hb.lt
    have q0 : w1.cell? ⟨gb, p * 4, none⟩ = some (.string n.id) := by rw [← hxa]; exact hat.hO.cellN cellRg_len hx (j := 0) rfl
    have q1 : w1.cell? ⟨gb, p * 4 + 1, none⟩ = some (.int .i64 x.o.to) := hat.hO.cellN cellRg_len hx (j := 1) rfl
    have q2 : w1.cell? ⟨gb, p * 4 + 2, none⟩ = some (.int .i64 x.o.epoch) := hat.hO.cellN cellRg_len hx (j := 2) rfl
    have q3 : w1.cell? ⟨gb, p * 4 + 3, none⟩ = some (.int .i64 x.o.num) := hat.hO.cellN cellRg_len hx (j := 3) rfl
    have hgbl := World.block_lt_of_cell? w1 _ q3
    have hn2m : n2' ≤ 9223372036854775807 := by unfold maxLen at hcm; omega
    rw [hi2.2.1] at q1
    rw [hi2.2.2.1] at q2
    rw [hi2.2.2.2] at q3
    have n0 : w1.cell? ⟨w.heap.size, 0, none⟩ = some (.int .i64 n.kind) := hbN.cell 0
    have n1 : w1.cell? ⟨w.heap.size, 1, none⟩ = some (.int .i64 n.node) := hbN.cell 1
    have n2 : w1.cell? ⟨w.heap.size, 2, none⟩ = some (.int .i64 n.life) := hbN.cell 2
    have n3 : w1.cell? ⟨w.heap.size, 3, none⟩ = some (.int .i64 n.epoch) := hbN.cell 3
    have n4 : w1.cell? ⟨w.heap.size, 4, none⟩ = some (.string n.id) := hbN.cell 4
    have nl := hbN.lt
    have hkk : Hid (n.kind = 5) ∨ Hid (n.kind = 6) := by
      have := hi2.1
      simp only [Bool.or_eq_true, beq_iff_eq] at this
      exact this
    have Hres : Hid (∀ v w2 r2, v = Value.bool true → RgPost w F g v r2 (.returned v) w2 → r2 = inR r p n → RInPost w F g r n (.returned v) w2) := fun v w2 r2 e1 e2 e3 => by
      subst e1
      exact ⟨r2, by rw [hi]; exact e2, .inr ⟨hi, p, hk, e3⟩⟩
    obtain ⟨nm, hnm⟩ : ∃ nm, n.id = nm := ⟨_, rfl⟩
    obtain ⟨ep, hep⟩ : ∃ ep, n.epoch = ep := ⟨_, rfl⟩
    obtain ⟨lf, hlf⟩ : ∃ lf, n.life = lf := ⟨_, rfl⟩
    obtain ⟨nd, hnd⟩ : ∃ nd, n.node = nd := ⟨_, rfl⟩
    obtain ⟨kd, hkd⟩ : ∃ kd, n.kind = kd := ⟨_, rfl⟩
    have Hnm := Lib.hid hnm
    have Hkd := Lib.hid hkd
    rw [hkd] at n0 hkk
    rw [hnd] at n1 q1
    rw [hlf] at n2 q3
    rw [hep] at n3 q2
    rw [hnm] at n4 q0 hpl
    obtain ⟨w2, hw2⟩ : ∃ w2, w1.alloc (.cells #[.string nm, .int .i64 nd, .int .i64 ep, .int .i64 lf] 113) = w2 := ⟨_, rfl⟩
    have hc2 : Chg Non w1 w2 := hw2 ▸ (Chg.refl _ _).alloc _
    have hbO : Blk w2 w1.heap.size 113 #[.string nm, .int .i64 nd, .int .i64 ep, .int .i64 lf] := hw2 ▸ Blk.new _ _ _
    have o0 : w2.cell? ⟨w1.heap.size, 0, none⟩ = some (.string nm) := hbO.cell 0
    have o1 : w2.cell? ⟨w1.heap.size, 1, none⟩ = some (.int .i64 nd) := hbO.cell 1
    have o2 : w2.cell? ⟨w1.heap.size, 2, none⟩ = some (.int .i64 ep) := hbO.cell 2
    have o3 : w2.cell? ⟨w1.heap.size, 3, none⟩ = some (.int .i64 lf) := hbO.cell 3
    have ol := hbO.lt
    have m0 := hc2.cell n0 id
    have m1 := hc2.cell n1 id
    have m2 := hc2.cell n2 id
    have m3 := hc2.cell n3 id
    have hdr := refDrop_any w2 F g r p (h1.non hc2) hkl hl
    have Hc12 := Lib.hid (hc1.non hc2)
    have Hc1 := Lib.hid hc1
    have HFlt := Lib.hid hFlt
    have HH := Lib.hid hH
    clear hk h1 h hbN hi hi2 hat hx hxa hxo hF hn1 hn2 hkl hnm hep hlf hnd hkd hc1 hc2 hbO hFlt hl hH
    rcases hkk with hkk | hkk
    · obtain rfl := hkk.out
      go_enter Try.func28, Try.ntmps28
      go_wp2_with fail
      refine hpl.mono ?_
      rintro e w9 ⟨rfl, rfl⟩
      go_wp2_with fail
      refine hdr.mono ?_
      rintro e w6 ⟨rfl, F3, hRg, hF3, hc6⟩
      have m06 := hc6.cell m0 (fun e => by have := HFlt.out _ e; simp at this)
      have ml6 := World.block_lt_of_cell? w6 _ m06
      clear hpl hdr n0 n1 n2 n3 n4 q0 q1 q2 q3 o0 o1 o2 o3 m0 m1 m2 m3 k2 hgl hgbl nl ol hw1 hw2
      go_wp2_with fail
      go_ret
      refine Hres.out _ _ (dropR r p) rfl ⟨rfl, F3, hRg, fun b hb => (hF3 b hb).imp id (fun h => Nat.le_trans Hc12.out.size h), (Hc12.out.of_non).trans hc6⟩ ?_
      unfold dropR inR
      rw [Hkd.out]
      rfl
    · obtain rfl := hkk.out
      go_enter Try.func28, Try.ntmps28
      go_wp2_with fail
      refine hpl.mono ?_
      rintro e w9 ⟨rfl, rfl⟩
      go_wp2_with fail
      refine hdr.mono ?_
      rintro e w6 ⟨rfl, F3, hRg, hF3, hc6⟩
      have m06 := hc6.cell m0 (fun e => by have := HFlt.out _ e; simp at this)
      have o06 := hc6.cell o0 (fun e => by have h1 := HFlt.out _ e; have h2 := Hc1.out.size; simp at h1; omega)
      have ml6 := World.block_lt_of_cell? w6 _ m06
      have ol6 := World.block_lt_of_cell? w6 _ o06
      obtain ⟨A3, n3', c3, A4, n4', c4, hat, hF, hn3, hn4⟩ := hRg.open_
      have Hat := Lib.hid hat
      have k61 : w6.cell? ⟨g, 1, none⟩ = some (.slice A3 n3' c3) := hat.hb.cell 1
      have hgl6 := hat.hb.lt
      have hn3l : n3' ≤ 1000000 := by rw [hn3]; exact HH.out
      have kk : ∀ wx, Chg Non w6 wx → wx.cell? ⟨g, 1, none⟩ = some (.slice A3 n3' c3) := fun wx h => h.cell k61 id
      have ka : ∀ wx, Chg Non w6 wx → wx.cell? ⟨w1.heap.size, 0, none⟩ = some (.string nm) := fun wx h => h.cell o06 id
      have hglx : ∀ wx, Chg Non w6 wx → g < wx.heap.size := fun wx h => Nat.lt_of_lt_of_le hgl6 h.size
      clear hpl hdr n0 n1 n2 n3 n4 q0 q1 q2 q3 o0 o1 o2 o3 m0 m1 m2 m3 k2 hgl hgbl nl ol hw1 hw2 hn3 hn4 hat
      go_wp2_with fail
      refine st_region_tail 8 10 Non [7] [] (fun _ _ v w2 => ∃ m, OwnR rkI w2 0 v m (sv (riseS nm r.H)) ∧ ∀ b, v.ownBlock = some b → (Value.slice A3 n3' c3).ownBlock = some b ∨ w6.heap.size ≤ b) (fun _ _ _ _ => True) (fun _ _ v => ∃ A n c, v = .slice A n c) (fun _ => True) (by kernel_rfl) (by kernel_rfl) (by kernel_rfl) (fun _ h => h.elim) trivial (fun _ _ h => h) ?_
      repeat (first | (refine st_pass (by rfl) ?_; simp only [Act.put, List.setIfInBounds_toArray, List.set_cons_succ, List.set_cons_zero]) | (refine st_plain (Non) (w6) rfl rfl (f := ?_) (by rfl) rfl rfl (fun w hC hG => ?_) ?_; rotate_left; (clear hG; first | (go_simp; done) | (go_simp; with_reducible rfl) | (simp [*, go_sem, ↓IntWalk.iteOmega]; done) | (simp [*, go_sem, ↓IntWalk.iteOmega]; with_reducible rfl)); simp only [Act.put, List.setIfInBounds_toArray, List.set_cons_succ, List.set_cons_zero]))
      refine st_major (Non) (w6) rfl rfl (by rfl) rfl (⟨.slice none 0 0, none, 0, 0, rfl⟩) (fun _ _ _ _ _ _ => trivial) (fun v wx ob h => h.imp fun m h => ⟨h.1.alloc ob, h.2⟩) (fun w hC hG hS => settle_of (r2 := ?_) ?_ ?_) ?_
      rotate_left
      (first | (go_simp; done) | (go_simp; rfl))
      · refine settle_enter ((putS_any w 0 (Value.slice A3 n3' c3) n3' r.H nm (Hat.out.hH.non hC) (Nat.zero_le _) (by omega)).mono ?_)
        rintro e w6 ⟨v6, m6, rfl, o6, c6, hv6⟩
        obtain ⟨A6, d6, rfl, _⟩ := o6.open_
        exact ⟨_, rfl, ⟨_, _, _, rfl⟩, c6, ⟨m6, o6, fun b hb => (hv6 b hb).imp id (fun h => Nat.le_trans hC.size h)⟩, trivial⟩
      rintro v4 ⟨A8, m8, dB, rfl⟩
      simp only [Act.put, List.setIfInBounds_toArray, List.set_cons_succ, List.set_cons_zero]
      repeat (first | (refine st_pass (by rfl) ?_; simp only [Act.put, List.setIfInBounds_toArray, List.set_cons_succ, List.set_cons_zero]) | (refine st_plain (Non) (w6) rfl rfl (f := ?_) (by rfl) rfl rfl (fun w hC hG => ?_) ?_; rotate_left; (clear hG; first | (go_simp; done) | (go_simp; with_reducible rfl) | (simp [*, go_sem, ↓IntWalk.iteOmega]; done) | (simp [*, go_sem, ↓IntWalk.iteOmega]; with_reducible rfl)); simp only [Act.put, List.setIfInBounds_toArray, List.set_cons_succ, List.set_cons_zero]))
      refine st_tail Non w6 rfl rfl rfl (fun wP cP hS7 _ => ?_)
      simp only [List.drop_succ_cons, List.drop_zero]
      obtain ⟨m7, oP, hvP⟩ : ∃ m, OwnR rkI wP 0 (.slice A8 m8 dB) m (sv (riseS nm r.H)) ∧ ∀ b, (Value.slice A8 m8 dB).ownBlock = some b → (Value.slice A3 n3' c3).ownBlock = some b ∨ w6.heap.size ≤ b := hS7
      obtain rfl : m8 = m7 := by obtain ⟨_, _, e, _⟩ := oP.open_; injection e
      have hswP := Lib.hid (Hat.out.swapH (R := riseS nm r.H) cP (fun _ e => e.elim) oP oP.lenS2 hvP)
      have kP := Hat.out.hb.non cP
      have fP := kP.frozen 1
      have cellP : wP.cell? ⟨g, 1, none⟩ = some (Value.slice A3 n3' c3) := kP.cell 1
      have hglP := kP.lt
      clear kP oP hvP k61 hgl6 kk ka hglx m06 o06 ml6 ol6 cP
      go_wp2_with fail
      go_ret
      obtain ⟨F4, h2, h3, h4⟩ := hswP.out.ref
      rw [← hF.out] at h3 h4
      refine Hres.out _ _ _ rfl ⟨rfl, F4, h2, fun b hb => ?_, ((Hc12.out.of_non).trans hc6).trans2 h4 (fun b e => (hF3 b e).imp id (fun h => Nat.le_trans Hc12.out.size h))⟩ ?_
      · have hz := hc6.size
        have hz2 := Hc12.out.size
        rcases h3 b hb with h | h
        · exact (hF3 b h).imp id (fun h => Nat.le_trans hz2 h)
        · exact .inr (by omega)
      · unfold dropR inR
        rw [Hkd.out, Hnm.out]
        rfl
end

section
open Go.RowKit
set_option linter.unusedVariables false
set_option linter.unusedSimpArgs false

def RBkPost (w : World) (F : Nat → Prop) (g : Nat) (r : RgS) (I : List Int) (e : Ending) (w2 : World) : Prop :=
  ∃ A m c F3, e = .returned (.slice A m c) ∧ OwnR rkI w2 w.heap.size (.slice A m c) m (sv (backO I r 0)) ∧ Rg w2 F3 g (backR I r 0) ∧ (∀ b, F3 b → F b ∨ w.heap.size ≤ b) ∧ (∀ b, (Value.slice A m c).ownBlock = some b → ¬ F3 b) ∧ Chg F w w2

set_option maxRecDepth 100000 in
set_option maxHeartbeats 8000000 in
theorem refBack_any (w : World) (F : Nat → Prop) (g : Nat) (r : RgS) (h : Rg w F g r) (hl : r.O.length ≤ 400000) (hH : r.H.length ≤ 400000) (A : Option Addr) (q c : Nat) (I : List Int) (hr : Rds w 1 A q (iv I)) (hA : ∀ ad, A = some ad → 0 < q → ¬ F ad.block) (hq : q ≤ 1000000) :
    Calls Try.prog 30 #[.pointer (some ⟨g, 0, none⟩), .slice A q c] w (RBkPost w F g r I) := by
  have Hr := Lib.hid hr
  have HA := Lib.hid hA
  have htop := backR_top I r
  obtain ⟨A1, n1, c1, A2, n2, c2, hat, hF, hn1, hn2⟩ := h.open_
  have k2 : w.cell? ⟨g, 2, none⟩ = some (.slice A2 n2 c2) := hat.hb.cell 2
  have hgl := hat.hb.lt
  have Hfl : Hid (∀ b, F b → b < w.heap.size) := h.lt
  have hH0 : Rg w F g (backR I r n2) := by rw [hn2, htop.1]; exact h
  have hO0 : OwnR rkI w w.heap.size (.slice none 0 0) 0 (sv (backO I r n2)) := by rw [hn2, htop.2]; exact OwnR.nil _ _ _
  have Hn2 : Hid (n2 = r.O.length) := hn2
  have Hbd : Hid (∀ k, k ≤ n2 → (backR I r k).H.length ≤ 800000 ∧ (backR I r k).O.length ≤ 400000 ∧ (backO I r k).length ≤ 400000) := fun k hk => by
    have h1 := bkIds_len I r.O k
    have h2 := putAll_len r.H (bkIds I r.O k)
    have h3 := putAll_len [] (bkIds I r.O k)
    have h4 : (r.O.take k ++ (r.O.drop k).filter fun x => !bk I x).length ≤ r.O.length := by
      rw [List.length_append, List.length_take]
      have := List.length_filter_le (fun x => !bk I x) (r.O.drop k)
      rw [List.length_drop] at this
      omega
    exact ⟨by show (putAllS _ _).length ≤ _; omega, by show (_ ++ _ : List Oe).length ≤ _; omega, by show (putAllS _ _).length ≤ _; simp at h3; omega⟩
  have hn2l : n2 ≤ 400000 := by omega
  have hwr : IntKind.i64.wrap ((n2 : Int) - 1) = (n2 : Int) - 1 := by rw [IntKind.wrap_i64]; omega
  clear hr hA htop hat hF hn1 hn2 hl hH h
  go_enter Try.func30, Try.ntmps30
  go_wp2_with fail
  clear k2 hgl
  go_loopw [5, 6] (fun v i wr => ∃ (k n : Nat) (A5 : Option Addr) (c5 : Nat) (F3 : Nat → Prop), k ≤ n2 ∧ i = .int .i64 ((k : Int) - 1) ∧ v = .slice A5 n c5 ∧ OwnR rkI wr w.heap.size (.slice A5 n c5) n (sv (backO I r k)) ∧ Rg wr F3 g (backR I r k) ∧ (∀ b, F3 b → F b ∨ w.heap.size ≤ b) ∧ (∀ b, (Value.slice A5 n c5).ownBlock = some b → ¬ F3 b) ∧ Chg F w wr) (fun _ i _ => (intOf i + 1).toNat)
  case atStart => exact ⟨n2, 0, none, 0, F, Nat.le_refl _, rfl, rfl, hO0, hH0, fun b h => .inl h, (fun b h => by cases h), Chg.refl _ _⟩
  case round =>
    clear hH0 hO0
    obtain ⟨k, n, A5, c5, F3, hk, rfl, rfl, hown, hRg, hF3, hdis, hC⟩ := hrel
    cases k with
    | zero =>
      clear hwr
      go_wp2_with fail
      go_ret
      exact ⟨A5, n, c5, F3, rfl, hown, hRg, hF3, hdis, hC⟩
    | succ k =>
      have ei : (((k + 1 : Nat) : Int) - 1) = (k : Int) := by omega
      rw [ei]
      have hb0 : (0 : Int) ≤ (k : Int) := by omega
      have hkO : k < r.O.length := by have := Hn2.out; omega
      obtain ⟨x, hx⟩ : ∃ x, r.O[k]? = some x := ⟨_, List.getElem?_eq_getElem hkO⟩
      have hget := backR_get (I := I) hx
      have hst1 := fun h => backR_no (I := I) hx h
      have hst2 := fun h => backR_yes (I := I) hx h
      obtain ⟨hb1, hb2, hb3⟩ := Hbd.out (k + 1) hk
      have hn3 : n = (backO I r (k + 1)).length := hown.lenS2
      generalize hR2 : backR I r (k + 1) = R2 at hRg hget hst1 hst2 hb1 hb2
      generalize hO2 : backO I r (k + 1) = O2 at hown hst1 hst2 hb3 hn3
      obtain ⟨A1, n1, c1, A2, n3, c2, hat, hF, hn1, hn4⟩ := hRg.open_
      have hkl := (List.getElem?_eq_some_iff.1 hget).1
      have hkn : k < n3 := by omega
      obtain ⟨gb, cc, hv, hcc, hcm, _⟩ := hat.hO.form (by omega)
      injection hv with e1 e2 e3
      subst e1 e3
      have k2 : wr.cell? ⟨g, 2, none⟩ = some (.slice (some ⟨gb, 0, none⟩) n3 c2) := hat.hb.cell 2
      have hgl := hat.hb.lt
      have q0 : wr.cell? ⟨gb, k * 4, none⟩ = some (.string x.id) := hat.hO.cellN cellRg_len hget (j := 0) rfl
      have q1 : wr.cell? ⟨gb, k * 4 + 1, none⟩ = some (.int .i64 x.o.to) := hat.hO.cellN cellRg_len hget (j := 1) rfl
      have hgbl := World.block_lt_of_cell? wr _ q0
      have hn3m : n3 ≤ 9223372036854775807 := by unfold maxLen at hcm; omega
      have hIn := refIn_any wr A q c I x.o.to (Hr.out.chgN hC (fun h ad e => HA.out ad e h)) (by omega)
      have hbk : bk I x = inI I x.o.to := rfl
      rw [← hbk] at hIn
      have hwr2 : IntKind.i64.wrap ((k : Int) - 1) = (k : Int) - 1 := by rw [IntKind.wrap_i64]; omega
      have HRg := Lib.hid hRg
      have Hat := Lib.hid hat
      have Hown := Lib.hid hown
      have Hget := Lib.hid hget
      have hnl : n ≤ 400000 := by omega
      clear hn3
      have Hn1 : Hid (n1 = R2.H.length) := hn1
      have hn1l : n1 ≤ 800000 := by omega
      clear hx hRg hat hown hget hn1 hn4 hwr
      cases hb : bk I x with
      | false =>
        obtain ⟨e1, e2⟩ := hst1 hb
        have He1 := Lib.hid e1
        have He2 := Lib.hid e2
        rw [hb] at hIn
        clear hb hst1 hst2 e1 e2 hbk
        go_wp2_with fail
        refine hIn.mono ?_
        rintro e w9 ⟨rfl, rfl⟩
        go_wp2_with fail
        go_roundw
        case rel => exact ⟨k, n, A5, c5, F3, by omega, by go_num, rfl, by rw [He2.out]; exact Hown.out, by rw [He1.out]; exact HRg.out, hF3, hdis, hC⟩
        case measure => simp [intOf]
      | true =>
        obtain ⟨e1, e2⟩ := hst2 hb
        have He1 := Lib.hid e1
        have He2 := Lib.hid e2
        have hp1 := putS_any wr w.heap.size (.slice A5 n c5) n O2 x.id Hown.out hC.size (by omega)
        rw [hb] at hIn
        clear hb hst1 hst2 e1 e2 hbk
        go_wp2_with fail
        refine hIn.mono ?_
        rintro e w9 ⟨rfl, rfl⟩
        go_wp2_with fail
        refine hp1.mono ?_
        rintro e w5 ⟨v5, m5, rfl, o5, hc5, hv5⟩
        obtain ⟨A7, d7, rfl, _⟩ := o5.open_
        have hat5 := Hat.out.non hc5
        have Hat5 := Lib.hid hat5
        have hRg5 := HRg.out.non hc5
        have HRg5 := Lib.hid hRg5
        have k15 : w5.cell? ⟨g, 1, none⟩ = some (.slice A1 n1 c1) := hat5.hb.cell 1
        have k25 : w5.cell? ⟨g, 2, none⟩ = some (.slice (some ⟨gb, 0, none⟩) n3 c2) := hat5.hb.cell 2
        have q05 := hc5.cell q0 id
        have hgl5 := hat5.hb.lt
        have hC5 := hC.non hc5
        have hdis5 : Hid (∀ b, (Value.slice A7 m5 d7).ownBlock = some b → ¬ F3 b) := fun b hb hf => by
          rcases hv5 b hb with h | h
          · exact hdis b h hf
          · have := HRg.out.lt b hf; omega
        have kk : ∀ wx, Chg Non w5 wx → wx.cell? ⟨g, 1, none⟩ = some (.slice A1 n1 c1) := fun wx h => h.cell k15 id
        have kk2 : ∀ wx, Chg Non w5 wx → wx.cell? ⟨g, 2, none⟩ = some (.slice (some ⟨gb, 0, none⟩) n3 c2) := fun wx h => h.cell k25 id
        have ka : ∀ wx, Chg Non w5 wx → wx.cell? ⟨gb, k * 4, none⟩ = some (.string x.id) := fun wx h => h.cell q05 id
        have hglx : ∀ wx, Chg Non w5 wx → g < wx.heap.size := fun wx h => Nat.lt_of_lt_of_le hgl5 h.size
        have ho5l : Hid (∀ b, (Value.slice A7 m5 d7).ownBlock = some b → b < w5.heap.size) := fun b hb => (o5.lt hb).2
        have O5 := Lib.hid o5
        have b2 : (k : Int) < n3 := by omega
        clear k2 hgl q0 q1 hgbl hat5 hRg5 hp1 hIn o5 hv5 hdis Hown
        go_wp2_with fail
        refine st_region_tail 8 16 Non [13] [] (fun _ _ v w2 => ∃ m, OwnR rkI w2 0 v m (sv (riseS x.id R2.H)) ∧ ∀ b, v.ownBlock = some b → (Value.slice A1 n1 c1).ownBlock = some b ∨ w5.heap.size ≤ b) (fun _ _ _ _ => True) (fun _ _ v => ∃ A n c, v = .slice A n c) (fun _ => True) (by kernel_rfl) (by kernel_rfl) (by kernel_rfl) (fun _ h => h.elim) trivial (fun _ _ h => h) ?_
        repeat (first | (refine st_pass (by rfl) ?_; simp only [Act.put, List.setIfInBounds_toArray, List.set_cons_succ, List.set_cons_zero]) | (refine st_plain (Non) (w5) rfl rfl (f := ?_) (by rfl) rfl rfl (fun w hC hG => ?_) ?_; rotate_left; (clear hG; first | (go_simp; done) | (go_simp; with_reducible rfl) | (simp [*, go_sem, ↓IntWalk.iteOmega]; done) | (simp [*, go_sem, ↓IntWalk.iteOmega]; with_reducible rfl)); simp only [Act.put, List.setIfInBounds_toArray, List.set_cons_succ, List.set_cons_zero]))
        refine st_major (Non) (w5) rfl rfl (by rfl) rfl (⟨.slice none 0 0, none, 0, 0, rfl⟩) (fun _ _ _ _ _ _ => trivial) (fun v wx ob h => h.imp fun m h => ⟨h.1.alloc ob, h.2⟩) (fun w hC hG hS => settle_of (r2 := ?_) ?_ ?_) ?_
        rotate_left
        (first | (go_simp; done) | (go_simp; rfl))
        · refine settle_enter ((putS_any w 0 (Value.slice A1 n1 c1) n1 R2.H x.id (Hat5.out.hH.non hC) (Nat.zero_le _) (by omega)).mono ?_)
          rintro e w6 ⟨v6, m6, rfl, o6, c6, hv6⟩
          obtain ⟨A6, d6, rfl, _⟩ := o6.open_
          exact ⟨_, rfl, ⟨_, _, _, rfl⟩, c6, ⟨m6, o6, fun b hb => (hv6 b hb).imp id (fun h => Nat.le_trans hC.size h)⟩, trivial⟩
        rintro v4 ⟨A8, m8, dB, rfl⟩
        simp only [Act.put, List.setIfInBounds_toArray, List.set_cons_succ, List.set_cons_zero]
        repeat (first | (refine st_pass (by rfl) ?_; simp only [Act.put, List.setIfInBounds_toArray, List.set_cons_succ, List.set_cons_zero]) | (refine st_plain (Non) (w5) rfl rfl (f := ?_) (by rfl) rfl rfl (fun w hC hG => ?_) ?_; rotate_left; (clear hG; first | (go_simp; done) | (go_simp; with_reducible rfl) | (simp [*, go_sem, ↓IntWalk.iteOmega]; done) | (simp [*, go_sem, ↓IntWalk.iteOmega]; with_reducible rfl)); simp only [Act.put, List.setIfInBounds_toArray, List.set_cons_succ, List.set_cons_zero]))
        refine st_tail Non w5 rfl rfl rfl (fun wP cP hS7 _ => ?_)
        simp only [List.drop_succ_cons, List.drop_zero]
        obtain ⟨m7, oP, hvP⟩ : ∃ m, OwnR rkI wP 0 (.slice A8 m8 dB) m (sv (riseS x.id R2.H)) ∧ ∀ b, (Value.slice A8 m8 dB).ownBlock = some b → (Value.slice A1 n1 c1).ownBlock = some b ∨ w5.heap.size ≤ b := hS7
        obtain rfl : m8 = m7 := by obtain ⟨_, _, e, _⟩ := oP.open_; injection e
        have hswP := Lib.hid (Hat5.out.swapH (R := riseS x.id R2.H) cP (fun _ e => e.elim) oP oP.lenS2 hvP)
        have kP := Hat5.out.hb.non cP
        have fP := kP.frozen 1
        have cellP : wP.cell? ⟨g, 1, none⟩ = some (Value.slice A1 n1 c1) := kP.cell 1
        have hglP := kP.lt
        clear kP oP hvP k15 k25 q05 hgl5 kk kk2 ka hglx
        have hdr := fun (wz : World) (F4 : Nat → Prop) (hz : Rg wz F4 g { R2 with H := riseS x.id R2.H }) => refDrop_any wz F4 g _ k hz hkl (Nat.le_trans hb2 (by omega))
        go_wp2_with fail
        obtain ⟨F4, h2, h3, h4⟩ := hswP.out.ref
        refine (hdr _ F4 h2).mono ?_
        rintro e w8 ⟨rfl, F5, hRg8, hF5, hc8⟩
        rw [← hF.out] at h3 h4
        have hC6 : Chg F w (wP.setCell ⟨g, 1, none⟩ (.slice A8 m8 dB)) := hC5.trans2 h4 hF3
        have hz1 := h4.size
        have hz5 := hC5.size
        have hF4 : ∀ b, F4 b → F b ∨ w.heap.size ≤ b := fun b hb => (h3 b hb).elim (hF3 b) (fun h => .inr (by omega))
        have hC8 : Chg F w w8 := hC6.trans2 hc8 hF4
        have hz6 := hC6.size
        have hF58 : ∀ b, F5 b → F b ∨ w.heap.size ≤ b := fun b hb => (hF5 b hb).elim (hF4 b) (fun h => .inr (by omega))
        have hd4 : ∀ b, (Value.slice A7 m5 d7).ownBlock = some b → ¬ F4 b := fun b hb hf => (h3 b hf).elim (hdis5.out b hb) (fun h => by have := ho5l.out b hb; omega)
        have o8 : OwnR rkI w8 w.heap.size (.slice A7 m5 d7) m5 (sv (backO I r k)) := by
          rw [He2.out]
          refine (O5.out.chg h4 (fun b hb hf => hdis5.out b hb hf)).chg hc8 (fun b hb hf => hd4 b hb hf)
        have hd8 : ∀ b, (Value.slice A7 m5 d7).ownBlock = some b → ¬ F5 b := fun b hb hf => (hF5 b hf).elim (hd4 b hb) (fun h => by have := ho5l.out b hb; omega)
        have hR8 : Rg w8 F5 g (backR I r k) := by rw [He1.out]; exact hRg8
        clear hdr hswP hC6 h2 h3 h4 cP
        go_wp2_with fail
        go_roundw
        case rel => exact ⟨k, m5, A7, d7, F5, by omega, by go_num, rfl, o8, hR8, hF58, hd8, hC8⟩
        case measure => simp [intOf]
end
end Go.Proofs.Ytflaliomkfbagaa
