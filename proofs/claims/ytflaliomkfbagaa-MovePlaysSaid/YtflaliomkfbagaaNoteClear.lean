/-
  note.Clear.
-/
import Derived.Test.YtflaliomkfbagaaNoteMay
namespace Go.Proofs.Ytflaliomkfbagaa
open Go.RowKit
set_option linter.unusedVariables false
set_option linter.unusedSimpArgs false

/-- A note whose rows are the call's own. -/
structure NtOwn (w : World) (base : Nat) (n : Nt) (A : Option Addr) (k c : Nat) (B : Option Addr) (m d : Nat) : Prop where
  ok : n.ok
  args : OwnR rkN w base (.slice A k c) k (iv n.args)
  mems : OwnR rkM w base (.slice B m d) m (mv n.mems)
theorem own_le {P : Program} {K : RowKind P} {w : World} {base : Nat} {A : Option Addr} {k c : Nat} {xs : List Value} (h : OwnR K w base (.slice A k c) k xs) : k ≤ c ∧ c ≤ maxLen := by
  obtain ⟨A2, c2, e, h1, h2, _⟩ := h.open_
  cases e
  exact ⟨h1, h2⟩
theorem NtOwn.at_ {w : World} {base : Nat} {n : Nt} {A : Option Addr} {k c : Nat} {B : Option Addr} {m d : Nat} (h : NtOwn w base n A k c B m d) : NtAt w n A k c B m d :=
  ⟨h.ok, h.args.rds, (own_le h.args).1, (own_le h.args).2, h.mems.rds, (own_le h.mems).1, (own_le h.mems).2⟩
theorem NtOwn.non {w w2 : World} {base : Nat} {n : Nt} {A : Option Addr} {k c : Nat} {B : Option Addr} {m d : Nat} (h : NtOwn w base n A k c B m d) (hc : Chg Non w w2) : NtOwn w2 base n A k c B m d :=
  ⟨h.ok, h.args.non hc, h.mems.non hc⟩
/-- A change of a note's block leaves rows of others. -/
theorem NtOwn.side {w w2 : World} {base : Nat} {n : Nt} {A : Option Addr} {k c : Nat} {B : Option Addr} {m d g : Nat} {cs : Array Value} (h : NtOwn w base n A k c B m d) (hb : Blk w g 59 cs) (hc : Chg (fun b => b = g) w w2) : NtOwn w2 base n A k c B m d :=
  ⟨h.ok, h.args.chg hc (fun b hb2 e => h.args.apart hb (by decide) (by rw [hb2, show b = g from e])), h.mems.chg hc (fun b hb2 e => h.mems.apart hb (by decide) (by rw [hb2, show b = g from e]))⟩
theorem iv_one' (l : List Int) : ∀ u ∈ iv l, u.oneCell' = true := fun u hu => by
  simp only [iv, List.mem_map] at hu
  obtain ⟨x, _, rfl⟩ := hu
  rfl
theorem take_fold {n o : Nt} {l : List Int} {i : Nat} {p : Int} (h : l[i]? = some p) : (l.take (i + 1)).foldl (setP n) o = setP n ((l.take i).foldl (setP n) o) p := by
  rw [List.take_add_one, h]
  simp [List.foldl_append]
theorem zero_ok : Nt.zero.ok := by
  have h0 : i64 0 := by unfold i64; omega
  exact ⟨h0, h0, h0, h0, h0, (fun x hx => by cases hx), h0, h0, h0, (fun m hm => by cases hm), by decide⟩
theorem ofKind_ok {k : Int} (h : i64 k) : (Nt.ofKind k).ok := ⟨h, zero_ok.node, zero_ok.life, zero_ok.epoch, zero_ok.fn, zero_ok.args, zero_ok.err, zero_ok.val, zero_ok.vep, zero_ok.mems, zero_ok.id⟩
theorem parts_bound (k : Int) : (partsL k).length ≤ 4 := parts_len k

/-- Eleven cells stored. -/
theorem Blk.put11 {w : World} {b : Nat} {t : TypeId} {u0 u1 u2 u3 u4 u5 u6 u7 u8 u9 u10 : Value} (h : Blk w b t #[u0, u1, u2, u3, u4, u5, u6, u7, u8, u9, u10]) (v0 v1 v2 v3 v4 v5 v6 v7 v8 v9 v10 : Value) :
    Blk (((((((((((w.setCell ⟨b, 0, none⟩ v0).setCell ⟨b, 1, none⟩ v1).setCell ⟨b, 2, none⟩ v2).setCell ⟨b, 3, none⟩ v3).setCell ⟨b, 4, none⟩ v4).setCell ⟨b, 5, none⟩ v5).setCell ⟨b, 6, none⟩ v6).setCell ⟨b, 7, none⟩ v7).setCell ⟨b, 8, none⟩ v8).setCell ⟨b, 9, none⟩ v9).setCell ⟨b, 10, none⟩ v10) b t #[v0, v1, v2, v3, v4, v5, v6, v7, v8, v9, v10] :=
  by
    have h0 := h.put 0 v0
    simp only [List.setIfInBounds_toArray, List.set_cons_succ, List.set_cons_zero] at h0
    have h1 := h0.put 1 v1
    simp only [List.setIfInBounds_toArray, List.set_cons_succ, List.set_cons_zero] at h1
    have h2 := h1.put 2 v2
    simp only [List.setIfInBounds_toArray, List.set_cons_succ, List.set_cons_zero] at h2
    have h3 := h2.put 3 v3
    simp only [List.setIfInBounds_toArray, List.set_cons_succ, List.set_cons_zero] at h3
    have h4 := h3.put 4 v4
    simp only [List.setIfInBounds_toArray, List.set_cons_succ, List.set_cons_zero] at h4
    have h5 := h4.put 5 v5
    simp only [List.setIfInBounds_toArray, List.set_cons_succ, List.set_cons_zero] at h5
    have h6 := h5.put 6 v6
    simp only [List.setIfInBounds_toArray, List.set_cons_succ, List.set_cons_zero] at h6
    have h7 := h6.put 7 v7
    simp only [List.setIfInBounds_toArray, List.set_cons_succ, List.set_cons_zero] at h7
    have h8 := h7.put 8 v8
    simp only [List.setIfInBounds_toArray, List.set_cons_succ, List.set_cons_zero] at h8
    have h9 := h8.put 9 v9
    simp only [List.setIfInBounds_toArray, List.set_cons_succ, List.set_cons_zero] at h9
    have h10 := h9.put 10 v10
    simp only [List.setIfInBounds_toArray, List.set_cons_succ, List.set_cons_zero] at h10
    exact h10
theorem chg11 (w : World) (b : Nat) (v0 v1 v2 v3 v4 v5 v6 v7 v8 v9 v10 : Value) :
    Chg (fun x => x = b) w (((((((((((w.setCell ⟨b, 0, none⟩ v0).setCell ⟨b, 1, none⟩ v1).setCell ⟨b, 2, none⟩ v2).setCell ⟨b, 3, none⟩ v3).setCell ⟨b, 4, none⟩ v4).setCell ⟨b, 5, none⟩ v5).setCell ⟨b, 6, none⟩ v6).setCell ⟨b, 7, none⟩ v7).setCell ⟨b, 8, none⟩ v8).setCell ⟨b, 9, none⟩ v9).setCell ⟨b, 10, none⟩ v10) :=
  (((((((((((Chg.refl _ _).set1 0 _).set1 1 _).set1 2 _).set1 3 _).set1 4 _).set1 5 _).set1 6 _).set1 7 _).set1 8 _).set1 9 _).set1 10 _

/-- What Clear returns. -/
def ClearPost (w : World) (n : Nt) (e : Ending) (w2 : World) : Prop :=
  ∃ A k c B m d, e = .returned (.agg (NtC n.clear A k c B m d)) ∧ NtOwn w2 w.heap.size n.clear A k c B m d ∧ Chg Non w w2

set_option maxRecDepth 100000 in
set_option maxHeartbeats 4000000 in
theorem clear_any (w : World) (n : Nt) (A : Option Addr) (k c : Nat) (B : Option Addr) (m d : Nat) (h : NtAt w n A k c B m d) (hk : k ≤ 1099511627776) (hm : m ≤ 1099511627776) :
    Calls Try.prog 55 #[.agg (NtC n A k c B m d)] w (ClearPost w n) := by
  have qn := eq_nil Try.prog 29 3 Try.underlying29
  obtain ⟨w1, hw1⟩ : ∃ w1, (w.alloc (.cells (NtC n A k c B m d) 59)).alloc (.cells #[.int .i64 0, .int .i64 0, .int .i64 0, .int .i64 0, .string ⟨#[]⟩, .int .i64 0, .slice none 0 0, .int .i64 0, .int .i64 0, .int .i64 0, .slice none 0 0] 59) = w1 := ⟨_, rfl⟩
  have hC1 : Chg Non w w1 := hw1 ▸ ((Chg.refl _ _).alloc _).alloc _
  have hS1 : Blk w1 w.heap.size 59 (NtC n A k c B m d) := hw1 ▸ (Blk.new _ _ _).alloc _
  have hR1 : Blk w1 (w.heap.size + 1) 59 #[.int .i64 0, .int .i64 0, .int .i64 0, .int .i64 0, .string ⟨#[]⟩, .int .i64 0, .slice none 0 0, .int .i64 0, .int .i64 0, .int .i64 0, .slice none 0 0] := by
    have := Blk.new (w.alloc (.cells (NtC n A k c B m d) 59)) 59 #[.int .i64 0, .int .i64 0, .int .i64 0, .int .i64 0, .string ⟨#[]⟩, .int .i64 0, .slice none 0 0, .int .i64 0, .int .i64 0, .int .i64 0, .slice none 0 0]
    rw [hw1, World.size_alloc] at this
    exact this
  have hkind := h.ok.kind
  have x0 := hS1.cell 0
  simp only [NtC, List.getElem?_toArray, List.getElem?_cons_zero, List.getElem?_cons_succ] at x0
  unfold NtC at hw1
  go_enter Try.func55, Try.ntmps55
  go_wp2_with fail
  refine (parts_any _ n.kind hkind).mono ?_
  rintro e w2 ⟨A2, n2, c2, rfl, hr2, hn2, hnil, hc2⟩
  have hC2 := hC1.non hc2
  have hS2 := hS1.non hc2
  have hR2 := hR1.non hc2
  have hsz := hC2.size
  clear hw1 hC1 hS1 hR1 hc2 x0
  cases hK : isK n.kind with
  | false =>
    rw [hK] at hnil
    have hcl : n.clear = Nt.zero := by unfold Nt.clear; rw [hK]; rfl
    have Hcl := Lib.hid hcl
    have z0 := hR2.cell 0
    have z1 := hR2.cell 1
    have z2 := hR2.cell 2
    have z3 := hR2.cell 3
    have z4 := hR2.cell 4
    have z5 := hR2.cell 5
    have z6 := hR2.cell 6
    have z7 := hR2.cell 7
    have z8 := hR2.cell 8
    have z9 := hR2.cell 9
    have z10 := hR2.cell 10
    simp only [NtC, List.getElem?_toArray, List.getElem?_cons_zero, List.getElem?_cons_succ] at z0 z1 z2 z3 z4 z5 z6 z7 z8 z9 z10
    have f0 := hR2.frozen 0
    have f1 := hR2.frozen 1
    have f2 := hR2.frozen 2
    have f3 := hR2.frozen 3
    have f4 := hR2.frozen 4
    have f5 := hR2.frozen 5
    have f6 := hR2.frozen 6
    have f7 := hR2.frozen 7
    have f8 := hR2.frozen 8
    have f9 := hR2.frozen 9
    have f10 := hR2.frozen 10
    clear hcl hK
    go_wp2_with fail
    clear z0 z1 z2 z3 z4 z5 z6 z7 z8 z9 z10 f0 f1 f2 f3 f4 f5 f6 f7 f8 f9 f10
    have hbE := hR2.put11 (.int .i64 0) (.int .i64 0) (.int .i64 0) (.int .i64 0) (.string ⟨#[]⟩) (.int .i64 0) (.slice none 0 0) (.int .i64 0) (.int .i64 0) (.int .i64 0) (.slice none 0 0)
    have hE := chg11 w2 (w.heap.size + 1) (.int .i64 0) (.int .i64 0) (.int .i64 0) (.int .i64 0) (.string ⟨#[]⟩) (.int .i64 0) (.slice none 0 0) (.int .i64 0) (.int .i64 0) (.int .i64 0) (.slice none 0 0)
    have r0 := hbE.cell 0
    have r1 := hbE.cell 1
    have r2 := hbE.cell 2
    have r3 := hbE.cell 3
    have r4 := hbE.cell 4
    have r5 := hbE.cell 5
    have r6 := hbE.cell 6
    have r7 := hbE.cell 7
    have r8 := hbE.cell 8
    have r9 := hbE.cell 9
    have r10 := hbE.cell 10
    simp only [NtC, List.getElem?_toArray, List.getElem?_cons_zero, List.getElem?_cons_succ] at r0 r1 r2 r3 r4 r5 r6 r7 r8 r9 r10
    have hCE := hC2.trans2 hE (fun b e => .inr (by have e : b = w.heap.size + 1 := e; omega))
    exact bodyPost_ret (v := .agg #[.int .i64 0, .int .i64 0, .int .i64 0, .int .i64 0, .string ⟨#[]⟩, .int .i64 0, .slice none 0 0, .int .i64 0, .int .i64 0, .int .i64 0, .slice none 0 0]) (by simp [results, Try.results55, go_sem, r0, r1, r2, r3, r4, r5, r6, r7, r8, r9, r10]) rfl ⟨none, 0, 0, none, 0, 0, by rw [Hcl.out]; rfl, by rw [Hcl.out]; exact ⟨zero_ok, OwnR.nil _ _ _, OwnR.nil _ _ _⟩, hCE⟩
  | true =>
    rw [hK] at hnil
    have hnl : n2 ≤ 4 := by rw [hn2]; exact parts_bound _
    have Hn2 := Lib.hid hn2
    have Hr2 := Lib.hid hr2
    clear hn2 hr2
    have x0 := hS2.cell 0
    simp only [NtC, List.getElem?_toArray, List.getElem?_cons_zero, List.getElem?_cons_succ] at x0
    go_wp2_with fail
    obtain ⟨w3, hw3⟩ : ∃ w3, w2.alloc (.cells #[.int .i64 n.kind, .int .i64 0, .int .i64 0, .int .i64 0, .string ⟨#[]⟩, .int .i64 0, .slice none 0 0, .int .i64 0, .int .i64 0, .int .i64 0, .slice none 0 0] 59) = w3 := ⟨_, rfl⟩
    have hc3 : Chg Non w2 w3 := hw3 ▸ (Chg.refl _ _).alloc _
    have hO3 : Blk w3 w2.heap.size 59 (NtC (Nt.ofKind n.kind) none 0 0 none 0 0) := hw3 ▸ Blk.new _ _ _
    have hown3 : NtOwn w3 w.heap.size (Nt.ofKind n.kind) none 0 0 none 0 0 := ⟨ofKind_ok hkind, OwnR.nil _ _ _, OwnR.nil _ _ _⟩
    have hg : w.heap.size + 1 < w2.heap.size := by have := hR2.lt; omega
    have Hg := Lib.hid hg
    have h2 := h.non hC2
    rw [hw3]
    clear hw3 x0
    go_loopw [18] (fun i wr => ∃ (q : Nat) (o : Nt) (A : Option Addr) (k c : Nat) (B : Option Addr) (m d : Nat), q ≤ n2 ∧ i = .int .i64 q ∧ Hid (o = ((partsL n.kind).take q).foldl (setP n) (Nt.ofKind n.kind)) ∧ Blk wr w2.heap.size 59 (NtC o A k c B m d) ∧ NtOwn wr w.heap.size o A k c B m d ∧ Chg (fun b => b = w2.heap.size) w3 wr) (fun i _ => n2 - (intOf i).toNat)
    case atStart => exact ⟨0, _, none, 0, 0, none, 0, 0, Nat.zero_le _, rfl, rfl, hO3, hown3, Chg.refl _ _⟩
    case round =>
      clear hO3 hown3
      obtain ⟨q, o, A3, k3, c3, B3, m3, d3, hq, rfl, ho, hO, hown, hC⟩ := hrel
      have hW := hc3.trans2 hC (fun b e => .inr (by have e : b = w2.heap.size := e; omega))
      have hSr := hS2.non hW
      have hRr := hR2.non hW
      have hCr := hC2.non hW
      have hr := Hr2.out.non hW
      have hn := h2.non hW
      by_cases hlt : q < n2
      · obtain ⟨ad, p, rfl, hx, hcell⟩ := hr.getI hlt
        have hp7 := parts_in (List.mem_of_getElem? hx)
        have Hfold := Lib.hid (take_fold (n := n) (o := Nt.ofKind n.kind) hx)
        clear hx hr hW
        rcases hp7 with rfl | rfl | rfl | rfl | rfl | rfl | rfl
        · have x3 := hSr.cell 3
          simp only [NtC, List.getElem?_toArray, List.getElem?_cons_zero, List.getElem?_cons_succ] at x3
          have y3 := hO.cell 3
          simp only [NtC, List.getElem?_toArray, List.getElem?_cons_zero, List.getElem?_cons_succ] at y3
          have f3 := hO.frozen 3
          go_wp2_with fail
          clear x3 y3 f3
          have hSt : Chg (fun b => b = w2.heap.size) wr (wr.setCell ⟨w2.heap.size, 3, none⟩ (.int .i64 n.epoch)) := ((Chg.refl _ _).set1 3 _)
          have hO2 := (hO.put 3 (.int .i64 n.epoch))
          simp only [List.setIfInBounds_toArray, List.set_cons_succ, List.set_cons_zero] at hO2
          have hs := hown.side hO hSt
          have hok : Nt.ok { o with epoch := n.epoch } := ⟨hs.ok.kind, hs.ok.node, hs.ok.life, hn.ok.epoch, hs.ok.fn, hs.ok.args, hs.ok.err, hs.ok.val, hs.ok.vep, hs.ok.mems, hs.ok.id⟩
          go_roundw
          case rel => exact ⟨q + 1, { o with epoch := n.epoch }, A3, k3, c3, B3, m3, d3, by omega, by go_num, by show _ = _; rw [Hfold.out, ← ho.out]; rfl, hO2, ⟨hok, hs.args, hs.mems⟩, hC.trans hSt⟩
          case measure => simp [intOf]; omega
        · have x2 := hSr.cell 2
          simp only [NtC, List.getElem?_toArray, List.getElem?_cons_zero, List.getElem?_cons_succ] at x2
          have y2 := hO.cell 2
          simp only [NtC, List.getElem?_toArray, List.getElem?_cons_zero, List.getElem?_cons_succ] at y2
          have f2 := hO.frozen 2
          go_wp2_with fail
          clear x2 y2 f2
          have hSt : Chg (fun b => b = w2.heap.size) wr (wr.setCell ⟨w2.heap.size, 2, none⟩ (.int .i64 n.life)) := ((Chg.refl _ _).set1 2 _)
          have hO2 := (hO.put 2 (.int .i64 n.life))
          simp only [List.setIfInBounds_toArray, List.set_cons_succ, List.set_cons_zero] at hO2
          have hs := hown.side hO hSt
          have hok : Nt.ok { o with life := n.life } := ⟨hs.ok.kind, hs.ok.node, hn.ok.life, hs.ok.epoch, hs.ok.fn, hs.ok.args, hs.ok.err, hs.ok.val, hs.ok.vep, hs.ok.mems, hs.ok.id⟩
          go_roundw
          case rel => exact ⟨q + 1, { o with life := n.life }, A3, k3, c3, B3, m3, d3, by omega, by go_num, by show _ = _; rw [Hfold.out, ← ho.out]; rfl, hO2, ⟨hok, hs.args, hs.mems⟩, hC.trans hSt⟩
          case measure => simp [intOf]; omega
        · have x1 := hSr.cell 1
          simp only [NtC, List.getElem?_toArray, List.getElem?_cons_zero, List.getElem?_cons_succ] at x1
          have y1 := hO.cell 1
          simp only [NtC, List.getElem?_toArray, List.getElem?_cons_zero, List.getElem?_cons_succ] at y1
          have f1 := hO.frozen 1
          go_wp2_with fail
          clear x1 y1 f1
          have hSt : Chg (fun b => b = w2.heap.size) wr (wr.setCell ⟨w2.heap.size, 1, none⟩ (.int .i64 n.node)) := ((Chg.refl _ _).set1 1 _)
          have hO2 := (hO.put 1 (.int .i64 n.node))
          simp only [List.setIfInBounds_toArray, List.set_cons_succ, List.set_cons_zero] at hO2
          have hs := hown.side hO hSt
          have hok : Nt.ok { o with node := n.node } := ⟨hs.ok.kind, hn.ok.node, hs.ok.life, hs.ok.epoch, hs.ok.fn, hs.ok.args, hs.ok.err, hs.ok.val, hs.ok.vep, hs.ok.mems, hs.ok.id⟩
          go_roundw
          case rel => exact ⟨q + 1, { o with node := n.node }, A3, k3, c3, B3, m3, d3, by omega, by go_num, by show _ = _; rw [Hfold.out, ← ho.out]; rfl, hO2, ⟨hok, hs.args, hs.mems⟩, hC.trans hSt⟩
          case measure => simp [intOf]; omega
        · have x4 := hSr.cell 4
          simp only [NtC, List.getElem?_toArray, List.getElem?_cons_zero, List.getElem?_cons_succ] at x4
          have y4 := hO.cell 4
          simp only [NtC, List.getElem?_toArray, List.getElem?_cons_zero, List.getElem?_cons_succ] at y4
          have f4 := hO.frozen 4
          go_wp2_with fail
          clear x4 y4 f4
          have hSt : Chg (fun b => b = w2.heap.size) wr (wr.setCell ⟨w2.heap.size, 4, none⟩ (.string n.id)) := ((Chg.refl _ _).set1 4 _)
          have hO2 := (hO.put 4 (.string n.id))
          simp only [List.setIfInBounds_toArray, List.set_cons_succ, List.set_cons_zero] at hO2
          have hs := hown.side hO hSt
          have hok : Nt.ok { o with id := n.id } := ⟨hs.ok.kind, hs.ok.node, hs.ok.life, hs.ok.epoch, hs.ok.fn, hs.ok.args, hs.ok.err, hs.ok.val, hs.ok.vep, hs.ok.mems, hn.ok.id⟩
          go_roundw
          case rel => exact ⟨q + 1, { o with id := n.id }, A3, k3, c3, B3, m3, d3, by omega, by go_num, by show _ = _; rw [Hfold.out, ← ho.out]; rfl, hO2, ⟨hok, hs.args, hs.mems⟩, hC.trans hSt⟩
          case measure => simp [intOf]; omega
        · have x5 := hSr.cell 5
          have x6 := hSr.cell 6
          simp only [NtC, List.getElem?_toArray, List.getElem?_cons_zero, List.getElem?_cons_succ] at x5 x6
          have k5 : ∀ w, Chg Non wr w → _ := fun w h => h.cell x5 id
          have k6 : ∀ w, Chg Non wr w → _ := fun w h => h.cell x6 id
          clear x5 x6
          go_wp2_with fail
          refine st_region_tail 8 6 Non [4] [] (fun _ _ v w2 => OwnR rkN w2 wr.heap.size v k (iv n.args)) (fun _ _ _ _ => True) (fun _ _ v => ∃ A c, v = .slice A k c) (fun _ => True) (by kernel_rfl) (by kernel_rfl) (by kernel_rfl) (fun _ h => h.elim) trivial (fun _ _ _ => trivial) ?_
          repeat (first | (refine st_pass (by rfl) ?_; simp only [Act.put, List.setIfInBounds_toArray, List.set_cons_succ, List.set_cons_zero]) | (refine st_plain (Non) (wr) rfl rfl (f := ?_) (by rfl) rfl rfl (fun w hC hG => ?_) ?_; rotate_left; (clear hG; first | (go_simp; done) | (go_simp; with_reducible rfl) | (simp [*, go_sem, ↓IntWalk.iteOmega]; done) | (simp [*, go_sem, ↓IntWalk.iteOmega]; with_reducible rfl)); simp only [Act.put, List.setIfInBounds_toArray, List.set_cons_succ, List.set_cons_zero]))
          refine st_major (Non) (wr) rfl rfl (by rfl) rfl (⟨.slice none k 0, none, 0, rfl⟩) (fun _ _ _ _ _ _ => trivial) (fun v w ob h => h.alloc ob) (fun w hC hG hS => settle_of (r2 := ?_) ?_ ?_) ?_
          rotate_left
          (first | (go_simp; done) | (go_simp; rfl))
          · refine settle_enter ((cloneN_any _ _ _ _ _ (hn.args.non hC) (iv_one' _) hk).mono ?_)
            rintro e w6 ⟨v6, rfl, h8, hc6⟩
            obtain ⟨A6, c6, hv6, _⟩ := h8.open_
            exact ⟨v6, rfl, ⟨A6, c6, hv6⟩, hc6, h8.mono hC.size, trivial⟩
          · rintro v ⟨A6, c6, rfl⟩
            simp only [Act.put, List.setIfInBounds_toArray, List.set_cons_succ, List.set_cons_zero]
            repeat (first | (refine st_pass (by rfl) ?_; simp only [Act.put, List.setIfInBounds_toArray, List.set_cons_succ, List.set_cons_zero]) | (refine st_plain (Non) (wr) rfl rfl (f := ?_) (by rfl) rfl rfl (fun w hC hG => ?_) ?_; rotate_left; (clear hG; first | (go_simp; done) | (go_simp; with_reducible rfl) | (simp [*, go_sem, ↓IntWalk.iteOmega]; done) | (simp [*, go_sem, ↓IntWalk.iteOmega]; with_reducible rfl)); simp only [Act.put, List.setIfInBounds_toArray, List.set_cons_succ, List.set_cons_zero]))
            refine st_tail Non wr rfl rfl rfl (fun w5 hC5 hS5 _ => ?_)
            simp only [List.drop_succ_cons, List.drop_zero]
            have hO5 := hO.non hC5
            have hown5 := hown.non hC5
            have hC55 := hC.non hC5
            have ha5 : OwnR rkN w5 w.heap.size (.slice A6 k c6) k (iv n.args) := OwnR.mono (show OwnR rkN w5 wr.heap.size (.slice A6 k c6) k (iv n.args) from hS5) hCr.size
            clear hS5 k5 k6 hO hown
            have y5 := hO5.cell 5
            have y6 := hO5.cell 6
            simp only [NtC, List.getElem?_toArray, List.getElem?_cons_zero, List.getElem?_cons_succ] at y5 y6
            have f5 := hO5.frozen 5
            have f6 := hO5.frozen 6
            go_wp2_with fail
            clear y5 y6 f5 f6
            have hSt : Chg (fun b => b = w2.heap.size) w5 ((w5.setCell ⟨w2.heap.size, 5, none⟩ (.int .i64 n.fn)).setCell ⟨w2.heap.size, 6, none⟩ (.slice A6 k c6)) := ((Chg.refl _ _).set1 5 _).set1 6 _
            have hO2 := (hO5.put 5 (.int .i64 n.fn)).put 6 (.slice A6 k c6)
            simp only [List.setIfInBounds_toArray, List.set_cons_succ, List.set_cons_zero] at hO2
            have hok : Nt.ok { o with fn := n.fn, args := n.args } := ⟨hown5.ok.kind, hown5.ok.node, hown5.ok.life, hown5.ok.epoch, hn.ok.fn, hn.ok.args, hown5.ok.err, hown5.ok.val, hown5.ok.vep, hown5.ok.mems, hown5.ok.id⟩
            have hs := (show NtOwn w5 w.heap.size { o with fn := n.fn, args := n.args } A6 k c6 B3 m3 d3 from ⟨hok, ha5, hown5.mems⟩).side hO5 hSt
            go_roundw
            case rel => exact ⟨q + 1, { o with fn := n.fn, args := n.args }, A6, k, c6, B3, m3, d3, by omega, by go_num, by show _ = _; rw [Hfold.out, ← ho.out]; rfl, hO2, hs, hC55.trans hSt⟩
            case measure => simp [intOf]; omega
        · have x7 := hSr.cell 7
          have x8 := hSr.cell 8
          simp only [NtC, List.getElem?_toArray, List.getElem?_cons_zero, List.getElem?_cons_succ] at x7 x8
          have y7 := hO.cell 7
          have y8 := hO.cell 8
          simp only [NtC, List.getElem?_toArray, List.getElem?_cons_zero, List.getElem?_cons_succ] at y7 y8
          have f7 := hO.frozen 7
          have f8 := hO.frozen 8
          go_wp2_with fail
          clear x7 x8 y7 y8 f7 f8
          have hSt : Chg (fun b => b = w2.heap.size) wr ((wr.setCell ⟨w2.heap.size, 7, none⟩ (.int .i64 n.err)).setCell ⟨w2.heap.size, 8, none⟩ (.int .i64 n.val)) := (((Chg.refl _ _).set1 7 _).set1 8 _)
          have hO2 := ((hO.put 7 (.int .i64 n.err)).put 8 (.int .i64 n.val))
          simp only [List.setIfInBounds_toArray, List.set_cons_succ, List.set_cons_zero] at hO2
          have hs := hown.side hO hSt
          have hok : Nt.ok { o with err := n.err, val := n.val } := ⟨hs.ok.kind, hs.ok.node, hs.ok.life, hs.ok.epoch, hs.ok.fn, hs.ok.args, hn.ok.err, hn.ok.val, hs.ok.vep, hs.ok.mems, hs.ok.id⟩
          go_roundw
          case rel => exact ⟨q + 1, { o with err := n.err, val := n.val }, A3, k3, c3, B3, m3, d3, by omega, by go_num, by show _ = _; rw [Hfold.out, ← ho.out]; rfl, hO2, ⟨hok, hs.args, hs.mems⟩, hC.trans hSt⟩
          case measure => simp [intOf]; omega
        · have x9 := hSr.cell 9
          have x10 := hSr.cell 10
          simp only [NtC, List.getElem?_toArray, List.getElem?_cons_zero, List.getElem?_cons_succ] at x9 x10
          have k5 : ∀ w, Chg Non wr w → _ := fun w h => h.cell x9 id
          have k6 : ∀ w, Chg Non wr w → _ := fun w h => h.cell x10 id
          clear x9 x10
          go_wp2_with fail
          refine st_region_tail 8 9 Non [6] [] (fun _ _ v w2 => OwnR rkM w2 wr.heap.size v m (mv n.mems)) (fun _ _ _ _ => True) (fun _ _ v => ∃ A c, v = .slice A m c) (fun _ => True) (by kernel_rfl) (by kernel_rfl) (by kernel_rfl) (fun _ h => h.elim) trivial (fun _ _ _ => trivial) ?_
          repeat (first | (refine st_pass (by rfl) ?_; simp only [Act.put, List.setIfInBounds_toArray, List.set_cons_succ, List.set_cons_zero]) | (refine st_plain (Non) (wr) rfl rfl (f := ?_) (by rfl) rfl rfl (fun w hC hG => ?_) ?_; rotate_left; (clear hG; first | (go_simp; done) | (go_simp; with_reducible rfl) | (simp [*, go_sem, ↓IntWalk.iteOmega]; done) | (simp [*, go_sem, ↓IntWalk.iteOmega]; with_reducible rfl)); simp only [Act.put, List.setIfInBounds_toArray, List.set_cons_succ, List.set_cons_zero]))
          refine st_major (Non) (wr) rfl rfl (by rfl) rfl (⟨.slice none m 0, none, 0, rfl⟩) (fun _ _ _ _ _ _ => trivial) (fun v w ob h => h.alloc ob) (fun w hC hG hS => settle_of (r2 := ?_) ?_ ?_) ?_
          rotate_left
          (first | (go_simp; done) | (go_simp; rfl))
          · refine settle_enter ((cloneM_any _ _ _ _ _ (hn.mems.non hC) (mv_one _) hm).mono ?_)
            rintro e w6 ⟨v6, rfl, h8, hc6⟩
            obtain ⟨A6, c6, hv6, _⟩ := h8.open_
            exact ⟨v6, rfl, ⟨A6, c6, hv6⟩, hc6, h8.mono hC.size, trivial⟩
          · rintro v ⟨A6, c6, rfl⟩
            simp only [Act.put, List.setIfInBounds_toArray, List.set_cons_succ, List.set_cons_zero]
            repeat (first | (refine st_pass (by rfl) ?_; simp only [Act.put, List.setIfInBounds_toArray, List.set_cons_succ, List.set_cons_zero]) | (refine st_plain (Non) (wr) rfl rfl (f := ?_) (by rfl) rfl rfl (fun w hC hG => ?_) ?_; rotate_left; (clear hG; first | (go_simp; done) | (go_simp; with_reducible rfl) | (simp [*, go_sem, ↓IntWalk.iteOmega]; done) | (simp [*, go_sem, ↓IntWalk.iteOmega]; with_reducible rfl)); simp only [Act.put, List.setIfInBounds_toArray, List.set_cons_succ, List.set_cons_zero]))
            refine st_tail Non wr rfl rfl rfl (fun w5 hC5 hS5 _ => ?_)
            simp only [List.drop_succ_cons, List.drop_zero]
            have hO5 := hO.non hC5
            have hown5 := hown.non hC5
            have hC55 := hC.non hC5
            have ha5 : OwnR rkM w5 w.heap.size (.slice A6 m c6) m (mv n.mems) := OwnR.mono (show OwnR rkM w5 wr.heap.size (.slice A6 m c6) m (mv n.mems) from hS5) hCr.size
            clear hS5 k5 k6 hO hown
            have y9 := hO5.cell 9
            have y10 := hO5.cell 10
            simp only [NtC, List.getElem?_toArray, List.getElem?_cons_zero, List.getElem?_cons_succ] at y9 y10
            have f9 := hO5.frozen 9
            have f10 := hO5.frozen 10
            go_wp2_with fail
            clear y9 y10 f9 f10
            have hSt : Chg (fun b => b = w2.heap.size) w5 ((w5.setCell ⟨w2.heap.size, 9, none⟩ (.int .i64 n.vep)).setCell ⟨w2.heap.size, 10, none⟩ (.slice A6 m c6)) := ((Chg.refl _ _).set1 9 _).set1 10 _
            have hO2 := (hO5.put 9 (.int .i64 n.vep)).put 10 (.slice A6 m c6)
            simp only [List.setIfInBounds_toArray, List.set_cons_succ, List.set_cons_zero] at hO2
            have hok : Nt.ok { o with vep := n.vep, mems := n.mems } := ⟨hown5.ok.kind, hown5.ok.node, hown5.ok.life, hown5.ok.epoch, hown5.ok.fn, hown5.ok.args, hown5.ok.err, hown5.ok.val, hn.ok.vep, hn.ok.mems, hown5.ok.id⟩
            have hs := (show NtOwn w5 w.heap.size { o with vep := n.vep, mems := n.mems } A3 k3 c3 A6 m c6 from ⟨hok, hown5.args, ha5⟩).side hO5 hSt
            go_roundw
            case rel => exact ⟨q + 1, { o with vep := n.vep, mems := n.mems }, A3, k3, c3, A6, m, c6, by omega, by go_num, by show _ = _; rw [Hfold.out, ← ho.out]; rfl, hO2, hs, hC55.trans hSt⟩
            case measure => simp [intOf]; omega
      · obtain rfl : q = n2 := by omega
        have hcl : n.clear = o := by
          unfold Nt.clear
          rw [if_pos hK, ho.out, List.take_of_length_le (by have := Hn2.out; omega)]
        have Hcl := Lib.hid hcl
        clear hcl hr hn hC hW hSr
        have y0 := hO.cell 0
        have y1 := hO.cell 1
        have y2 := hO.cell 2
        have y3 := hO.cell 3
        have y4 := hO.cell 4
        have y5 := hO.cell 5
        have y6 := hO.cell 6
        have y7 := hO.cell 7
        have y8 := hO.cell 8
        have y9 := hO.cell 9
        have y10 := hO.cell 10
        simp only [NtC, List.getElem?_toArray, List.getElem?_cons_zero, List.getElem?_cons_succ] at y0 y1 y2 y3 y4 y5 y6 y7 y8 y9 y10
        have z0 := hRr.cell 0
        have z1 := hRr.cell 1
        have z2 := hRr.cell 2
        have z3 := hRr.cell 3
        have z4 := hRr.cell 4
        have z5 := hRr.cell 5
        have z6 := hRr.cell 6
        have z7 := hRr.cell 7
        have z8 := hRr.cell 8
        have z9 := hRr.cell 9
        have z10 := hRr.cell 10
        simp only [NtC, List.getElem?_toArray, List.getElem?_cons_zero, List.getElem?_cons_succ] at z0 z1 z2 z3 z4 z5 z6 z7 z8 z9 z10
        have f0 := hRr.frozen 0
        have f1 := hRr.frozen 1
        have f2 := hRr.frozen 2
        have f3 := hRr.frozen 3
        have f4 := hRr.frozen 4
        have f5 := hRr.frozen 5
        have f6 := hRr.frozen 6
        have f7 := hRr.frozen 7
        have f8 := hRr.frozen 8
        have f9 := hRr.frozen 9
        have f10 := hRr.frozen 10
        go_wp2_with fail
        clear y0 y1 y2 y3 y4 y5 y6 y7 y8 y9 y10 z0 z1 z2 z3 z4 z5 z6 z7 z8 z9 z10 f0 f1 f2 f3 f4 f5 f6 f7 f8 f9 f10
        have hbE := hRr.put11 (.int .i64 o.kind) (.int .i64 o.node) (.int .i64 o.life) (.int .i64 o.epoch) (.string o.id) (.int .i64 o.fn) (.slice A3 k3 c3) (.int .i64 o.err) (.int .i64 o.val) (.int .i64 o.vep) (.slice B3 m3 d3)
        have hE := chg11 wr (w.heap.size + 1) (.int .i64 o.kind) (.int .i64 o.node) (.int .i64 o.life) (.int .i64 o.epoch) (.string o.id) (.int .i64 o.fn) (.slice A3 k3 c3) (.int .i64 o.err) (.int .i64 o.val) (.int .i64 o.vep) (.slice B3 m3 d3)
        have r0 := hbE.cell 0
        have r1 := hbE.cell 1
        have r2 := hbE.cell 2
        have r3 := hbE.cell 3
        have r4 := hbE.cell 4
        have r5 := hbE.cell 5
        have r6 := hbE.cell 6
        have r7 := hbE.cell 7
        have r8 := hbE.cell 8
        have r9 := hbE.cell 9
        have r10 := hbE.cell 10
        simp only [NtC, List.getElem?_toArray, List.getElem?_cons_zero, List.getElem?_cons_succ] at r0 r1 r2 r3 r4 r5 r6 r7 r8 r9 r10
        have hCE := hCr.trans2 hE (fun b e => .inr (by have e : b = w.heap.size + 1 := e; omega))
        have hs := hown.side hRr hE
        exact bodyPost_ret (v := .agg (NtC o A3 k3 c3 B3 m3 d3)) (by simp [results, Try.results55, go_sem, r0, r1, r2, r3, r4, r5, r6, r7, r8, r9, r10]) rfl ⟨A3, k3, c3, B3, m3, d3, by rw [Hcl.out], by rw [Hcl.out]; exact hs, hCE⟩
end Go.Proofs.Ytflaliomkfbagaa
