/-
  slices.DeleteFunc over members.
-/
import Derived.Test.YtojlglkefiddnaaMembers
namespace Go.Proofs.Ytojlglkefiddnaa
open Go.RowKit
set_option linter.unusedVariables false
set_option linter.unusedSimpArgs false

theorem mv_get {L : List Mb} {k : Nat} {m : Mb} (h : L[k]? = some m) : (mv L)[k * 2]? = some (.int .i64 m.1) ∧ (mv L)[k * 2 + 1]? = some (.int .i64 m.2) :=
  ⟨flat_get cellM_len L k m h 0 (by decide), flat_get cellM_len L k m h 1 (by decide)⟩
theorem mv_length (L : List Mb) : (mv L).length = L.length * 2 := flat_len cellM_len L

/-- 'clear(s)' over members. -/
theorem run_clearM (w : World) (g o n c : Nat) (cur : Array Value) (hb : Blk w g 43 cur) (hn : 0 < n) (hfit : o + n * 2 ≤ cur.size) (ty : TypeId) :
    ∃ zs, zs.length = n * 2 ∧ (Builtin.clear_ #[24] ty #[.slice (some ⟨g, o, none⟩) n c]).run Try.prog w = .ok (.tuple #[]) (w.setCells g o zs) := by
  have hz : ∀ w, (zeroValue 43).run Try.prog w = .ok (.agg #[.int .i64 0, .int .i64 0]) w := by intro w; kernel_rfl
  have hlen : (Builtin.zeroCells #[.int .i64 0, .int .i64 0] n).toList.length = n * 2 := by
    rw [Array.length_toList, size_zeroCells]
    rfl
  have hone : ∀ v ∈ (Builtin.zeroCells #[.int .i64 0, .int .i64 0] n).toList, v.oneCell' = true := by
    intro v hv
    simp only [Builtin.zeroCells, Array.mem_toList_iff, Array.mem_map] at hv
    obtain ⟨i, _, rfl⟩ := hv
    have h2 : i % (2 : Nat) = 0 ∨ i % (2 : Nat) = 1 := by omega
    rcases h2 with h2 | h2 <;> simp [h2] <;> rfl
  refine ⟨(Builtin.zeroCells #[.int .i64 0, .int .i64 0] n).toList, hlen, ?_⟩
  have hst := run_storeCells_cells (P := Try.prog) g o (Builtin.zeroCells #[.int .i64 0, .int .i64 0] n).toList 0 w (fun j hj => by
    rw [hb.cell, Array.getElem?_eq_getElem (by omega)]
    rfl) (fun j _ => hb.frozen _) hone
  simp only [Nat.add_zero] at hst
  obtain ⟨m, rfl⟩ : ∃ m, n = m + 1 := ⟨n - 1, by omega⟩
  simp [Builtin.clear_, run_underlying Try.underlying24, hz, Value.cells, hst]

/-- Those that stay. -/
abbrev kept (p : Mb → Bool) (L : List Mb) : List Mb := L.filter fun m => !p m
theorem kept_step {p : Mb → Bool} {L : List Mb} {j : Nat} {m : Mb} (h : L[j]? = some m) : kept p (L.take (j + 1)) = kept p (L.take j) ++ (if p m then [] else [m]) := by
  rw [List.take_add_one, h]
  simp only [kept, List.filter_append, Option.toList_some]
  cases hp : p m <;> simp [hp]
theorem kept_all {p : Mb → Bool} {L : List Mb} (h : ∀ m ∈ L, p m = false) : kept p L = L := by
  rw [List.filter_eq_self]
  intro m hm
  rw [h m hm]
  rfl
theorem kept_le (p : Mb → Bool) (L : List Mb) (j : Nat) : (kept p (L.take j)).length ≤ j := Nat.le_trans (List.length_filter_le _ _) (List.length_take_le _ _)

theorem mv_app (L M : List Mb) : mv (L ++ M) = mv L ++ mv M := by simp [mv]
theorem mv_prefix {L : List Mb} {k y : Nat} {u : Value} (h : (mv (L.take k))[y]? = some u) : (mv L)[y]? = some u := by
  have e : mv L = mv (L.take k) ++ mv (L.drop k) := by rw [← mv_app, List.take_append_drop]
  rw [e, List.getElem?_append_left (List.getElem?_eq_some_iff.1 h).1]
  exact h
/-- Two cells written. -/
def set2 (cur : Array Value) (i : Nat) (a b : Value) : Array Value := (cur.setIfInBounds i a).setIfInBounds (i + 1) b
theorem set2_size (cur : Array Value) (i : Nat) (a b : Value) : (set2 cur i a b).size = cur.size := by simp [set2]
theorem set2_far {cur : Array Value} {i y : Nat} {a b : Value} (h : y < i ∨ i + 2 ≤ y) : (set2 cur i a b)[y]? = cur[y]? := by
  unfold set2
  rw [Array.getElem?_setIfInBounds_ne (by omega), Array.getElem?_setIfInBounds_ne (by omega)]
theorem set2_0 {cur : Array Value} {i : Nat} {a b : Value} (h : i + 1 < cur.size) : (set2 cur i a b)[i]? = some a := by
  unfold set2
  rw [Array.getElem?_setIfInBounds_ne (by omega), Array.getElem?_setIfInBounds_self_of_lt (by omega)]
theorem set2_1 {cur : Array Value} {i : Nat} {a b : Value} (h : i + 1 < cur.size) : (set2 cur i a b)[i + 1]? = some b := by
  unfold set2
  rw [Array.getElem?_setIfInBounds_self_of_lt (by simp; omega)]
theorem kept_put {p : Mb → Bool} {L : List Mb} {t q o : Nat} {m : Mb} {cur : Array Value} (hx : L[t]? = some m) (hp : p m = false) (hq : (kept p (L.take t)).length = q) (hfit : o + q * 2 + 1 < cur.size)
    (hk : ∀ y u, (mv (kept p (L.take t)))[y]? = some u → cur[o + y]? = some u) :
    (kept p (L.take (t + 1))).length = q + 1 ∧ ∀ y u, (mv (kept p (L.take (t + 1))))[y]? = some u → (set2 cur (o + q * 2) (.int .i64 m.1) (.int .i64 m.2))[o + y]? = some u := by
  have e : kept p (L.take (t + 1)) = kept p (L.take t) ++ [m] := by rw [kept_step hx, hp]; rfl
  rw [e]
  refine ⟨by simp [hq], fun y u hu => ?_⟩
  have hl : (mv (kept p (L.take t))).length = q * 2 := by rw [mv_length, hq]
  rw [mv_app] at hu
  rcases Nat.lt_or_ge y (q * 2) with h | h
  · rw [List.getElem?_append_left (by omega)] at hu
    rw [set2_far (.inl (by omega))]
    exact hk y u hu
  · rw [List.getElem?_append_right (by omega), hl] at hu
    have hy := (List.getElem?_eq_some_iff.1 hu).1
    have h2 : (mv [m]).length = 2 := rfl
    rw [h2] at hy
    have h3 : y = q * 2 ∨ y = q * 2 + 1 := by omega
    rcases h3 with rfl | rfl
    · rw [Nat.sub_self] at hu
      rw [set2_0 hfit]
      exact hu
    · rw [Nat.add_sub_cancel_left] at hu
      rw [show o + (q * 2 + 1) = o + q * 2 + 1 by omega, set2_1 hfit]
      exact hu

set_option maxRecDepth 100000 in
set_option maxHeartbeats 1000000 in
theorem deleteFuncM_any (w : World) (A : Option Addr) (c : Nat) (L : List Mb) (fid : Nat) (v : Value) (p : Mb → Bool) (h : Win rkM w (.slice A L.length c) L.length (mv L))
    (hcf : ∀ (args : Array Value) (w : World), (callFunc fid args).run Try.prog w = .ok (.enter fid args) w)
    (hf : Hid (∀ w2 m, Chg (fun b => (Value.slice A L.length c).ownBlock = some b) w w2 → m ∈ L → Calls Try.prog fid #[.agg #[.int .i64 m.1, .int .i64 m.2], v] w2 fun e w3 => e = .returned (.bool (p m)) ∧ Chg Non w2 w3)) :
    Calls Try.prog 29 #[.slice A L.length c, .func (.func fid) #[] #[v]] w fun e w2 =>
      e = .returned (.slice A (kept p L).length c) ∧ Win rkM w2 (.slice A (kept p L).length c) (kept p L).length (mv (kept p L)) ∧ Chg (fun b => (Value.slice A L.length c).ownBlock = some b) w w2 := by
  have hsm := h.small
  have hidx := indexFuncM_any w A L.length c L fid v p h.rds hsm hcf (fun w2 m hc hm => hf.out w2 m hc.of_non hm)
  cases hk : L.findIdx? p with
  | none =>
    have hall : ∀ m ∈ L, p m = false := List.findIdx?_eq_none_iff.1 hk
    have hI : fIdx L p = -1 := by unfold fIdx; rw [hk]
    rw [hI] at hidx
    have Hidx := Lib.hid hidx
    have Hk := Lib.hid (kept_all hall)
    clear hk hall hI hidx hf
    go_enter Try.func29, Try.ntmps29
    go_wp2_with fail
    refine Hidx.out.mono ?_
    rintro e w2 ⟨rfl, hc2⟩
    have h2 := h.non hc2
    clear h
    go_wp2_with fail
    go_ret
    rw [Hk.out]
    exact ⟨rfl, h2, hc2.of_non⟩
  | some k0 =>
    obtain ⟨hk0, hpk, hbefore⟩ := List.findIdx?_eq_some_iff_getElem.1 hk
    have hI : fIdx L p = (k0 : Int) := by unfold fIdx; rw [hk]
    rw [hI] at hidx
    have Hidx := Lib.hid hidx
    have hx0 : L[k0]? = some L[k0] := List.getElem?_eq_getElem hk0
    have hpre : kept p (L.take k0) = L.take k0 := kept_all fun m hm => by
      obtain ⟨j, hj⟩ := List.getElem?_of_mem hm
      rw [List.getElem?_take] at hj
      split at hj
      · rename_i hjk
        obtain ⟨hj2, e⟩ := List.getElem?_eq_some_iff.1 hj
        have := hbefore j hjk
        rw [e] at this
        simpa using this
      · cases hj
    have hstart : kept p (L.take (k0 + 1)) = L.take k0 := by rw [kept_step hx0, hpre, hpk]; simp
    obtain ⟨n, hn⟩ : ∃ n, n = L.length := ⟨_, rfl⟩
    have hkn : k0 < n := by omega
    have hne1 : ((k0 : Int) == -1) = false := beq_eq_false_iff_ne.2 (by omega)
    have hw := h.2
    rcases hw with ⟨e, _⟩ | ⟨g, o, c2, cur0, e, hb0, hnc, hcm, hfit, hget⟩
    · have : L.length = 0 := by injection e
      omega
    injection e with e1 _ e3
    subst e1 e3
    simp only [show rkM.size = 2 from rfl] at hfit
    have Hstart := Lib.hid hstart
    have Hget := Lib.hid hget
    have HL := Lib.hid hn
    have hwin := Lib.hid h
    rw [← hn] at hf hnc hsm ⊢
    clear hk hpk hbefore hI hidx hx0 hpre hstart hget h hn
    go_enter Try.func29, Try.ntmps29
    go_wp2_with fail
    rw [HL.out]
    refine Hidx.out.mono ?_
    rintro e w2 ⟨rfl, hc2⟩
    rw [← HL.out]
    go_wp2_with fail
    go_loopw [5, 6] (fun i j wr => ∃ (t q : Nat) (cur : Array Value), t ≤ n ∧ q < t ∧ j = .int .i64 t ∧ i = .int .i64 q ∧ Blk wr g 43 cur ∧ cur.size = cur0.size ∧ Hid ((kept p (L.take t)).length = q) ∧ Hid (∀ y u, (mv (kept p (L.take t)))[y]? = some u → cur[o + y]? = some u) ∧ Hid (∀ y, 2 * t ≤ y → y < 2 * n → cur[o + y]? = (mv L)[y]?) ∧ Chg (fun b => (Value.slice (some ⟨g, o, none⟩) n c).ownBlock = some b) w wr) (fun _ j _ => n - (intOf j).toNat)
    case atStart =>
      refine ⟨k0 + 1, k0, cur0, by omega, by omega, by go_num, rfl, hb0.non hc2, rfl, ?_, ?_, ?_, hc2.of_non⟩
      · show (kept p (L.take (k0 + 1))).length = k0
        rw [Hstart.out, List.length_take]
        have := HL.out
        omega
      · show ∀ y u, _ → _
        intro y u hu
        rw [Hstart.out] at hu
        exact Hget.out y u (mv_prefix hu)
      · show ∀ y, _ → _
        intro y _ hy
        have hl : y < (mv L).length := by rw [mv_length, ← HL.out]; omega
        rw [List.getElem?_eq_getElem hl]
        exact Hget.out y _ (List.getElem?_eq_getElem hl)
    case round =>
      clear hc2
      obtain ⟨t, q, cur, ht, hqt, rfl, rfl, hb, hsz, hq, hkep, hrest, hC⟩ := hrel
      by_cases hlt : t < n
      · have hlL : t < L.length := by rw [← HL.out]; exact hlt
        obtain ⟨m, hx⟩ : ∃ m, L[t]? = some m := ⟨_, List.getElem?_eq_getElem hlL⟩
        have hm := List.mem_of_getElem? hx
        have hg2 := mv_get hx
        have a0 : wr.cell? ⟨g, o + t * 2, none⟩ = some (.int .i64 m.1) := by rw [hb.cell, hrest.out (t * 2) (by omega) (by omega)]; exact hg2.1
        have a1 : wr.cell? ⟨g, o + t * 2 + 1, none⟩ = some (.int .i64 m.2) := by rw [hb.cell, Nat.add_assoc, hrest.out (t * 2 + 1) (by omega) (by omega)]; exact hg2.2
        have hglt := hb.lt
        have hCa := hC.alloc (.cells #[.int .i64 m.1, .int .i64 m.2] 43)
        have hbx := Blk.new wr 43 #[.int .i64 m.1, .int .i64 m.2]
        have hba := hb.alloc (.cells #[.int .i64 m.1, .int .i64 m.2] 43)
        cases hp : p m with
        | true =>
          have hk2 : kept p (L.take (t + 1)) = kept p (L.take t) := by rw [kept_step hx, hp]; simp
          have Hp := Lib.hid hp
          have Hk2 := Lib.hid hk2
          clear hp hk2 hx hg2 hb
          go_wp2_with fail
          refine (hf.out _ m hCa hm).mono ?_
          rintro e w3 ⟨rfl, hc3⟩
          rw [Hp.out]
          have hC3 := hCa.non hc3
          have hb3 := hba.non hc3
          clear hc3 a0 a1 hba hbx hCa hC
          go_wp2_with fail
          go_roundw
          case rel => exact ⟨t + 1, q, cur, by omega, by omega, by go_num, rfl, hb3, hsz, by rw [Hk2.out]; exact hq, by rw [Hk2.out]; exact hkep, (fun y h1 h2 => hrest.out y (by omega) h2), hC3⟩
          case measure => simp [intOf]; omega
        | false =>
          have hfq : o + q * 2 + 1 < cur.size := by rw [hsz]; omega
          have hput := kept_put hx hp hq.out hfq hkep.out
          have Hput := Lib.hid hput
          have Hp := Lib.hid hp
          clear hp hput hx hg2 hb hkep hq
          go_wp2_with fail
          refine (hf.out _ m hCa hm).mono ?_
          rintro e w3 ⟨rfl, hc3⟩
          rw [Hp.out]
          have hC3 := hCa.non hc3
          have hb3 := hba.non hc3
          have hbx3 := hbx.non hc3
          have x0 := hbx3.cell 0
          have x1 := hbx3.cell 1
          simp only [List.getElem?_toArray, List.getElem?_cons_zero, List.getElem?_cons_succ] at x0 x1
          have d0 : w3.cell? ⟨g, o + q * 2, none⟩ = some (cur[o + q * 2]'(by omega)) := by rw [hb3.cell, Array.getElem?_eq_getElem]
          have d1 : w3.cell? ⟨g, o + q * 2 + 1, none⟩ = some (cur[o + q * 2 + 1]'hfq) := by rw [hb3.cell, Array.getElem?_eq_getElem]
          have e0 := hb3.frozen (o + q * 2)
          have e1 := hb3.frozen (o + q * 2 + 1)
          generalize (cur[o + q * 2]'(by omega)) = u0 at d0
          generalize (cur[o + q * 2 + 1]'hfq) = u1 at d1
          have hb4 := (hb3.put (o + q * 2) (.int .i64 m.1)).put (o + q * 2 + 1) (.int .i64 m.2)
          have hC4 := (hC3.setCell (p := ⟨g, o + q * 2, none⟩) (.inl rfl) (.int .i64 m.1)).setCell (p := ⟨g, o + q * 2 + 1, none⟩) (.inl rfl) (.int .i64 m.2)
          have hrest4 : Hid (∀ y, 2 * (t + 1) ≤ y → y < 2 * n → (set2 cur (o + q * 2) (.int .i64 m.1) (.int .i64 m.2))[o + y]? = (mv L)[y]?) := by
            intro y h1 h2
            rw [set2_far (.inr (by omega))]
            exact hrest.out y (by omega) h2
          clear hc3 a0 a1 hba hbx hbx3 hCa hC hrest hb3 hC3
          go_wp2_with fail
          go_roundw
          case rel => exact ⟨t + 1, q + 1, set2 cur (o + q * 2) (.int .i64 m.1) (.int .i64 m.2), by omega, by omega, by go_num, by go_num, hb4, by rw [set2_size]; exact hsz, Hput.out.1, Hput.out.2, hrest4, hC4⟩
          case measure => simp [intOf]; omega
      · have htn : L.take t = L := List.take_of_length_le (by have := HL.out; omega)
        rw [htn] at hq hkep
        have hqn : q < n := by omega
        have q1 : ∀ w : World, (Instr.slice 24 (.slice (some ⟨g, o, none⟩) n c) (some (.int .i64 (q : Int))) none none).run Try.prog w = .ok (.slice (some ⟨g, o + q * 2, none⟩) (n - q) (c - q)) w := by
          intro w
          have := run_slice_lo (P := Try.prog) (kl := .i64) Try.underlying24 2 (by kernel_rfl) (by kernel_rfl) (i := (q : Int)) (k := q) rfl (by omega) (some ⟨g, o, none⟩) c w (n := n)
          rw [this]
          unfold cutA
          rw [if_neg (by omega), Option.map_some, add_off]
        have q2 : ∀ w : World, (Instr.slice 24 (.slice (some ⟨g, o, none⟩) n c) none (some (.int .i64 (q : Int))) none).run Try.prog w = .ok (.slice (some ⟨g, o, none⟩) q c) w :=
          fun w => run_slice_hi Try.underlying24 (by kernel_rfl) rfl (by omega) _ _ w
        obtain ⟨zs, hzl, hz⟩ : ∃ zs : List Value, zs.length = (n - q) * 2 ∧ ∀ ty, (Builtin.clear_ #[24] ty #[.slice (some ⟨g, o + q * 2, none⟩) (n - q) (c - q)]).run Try.prog wr = .ok (.tuple #[]) (wr.setCells g (o + q * 2) zs) := by
          obtain ⟨zs, h1, h2⟩ := run_clearM wr g (o + q * 2) (n - q) (c - q) cur hb (by omega) (by rw [hsz]; omega) 0
          refine ⟨zs, h1, fun ty => ?_⟩
          exact h2
        have hend : (kept p L).length = q ∧ Win rkM (wr.setCells g (o + q * 2) zs) (.slice (some ⟨g, o, none⟩) q c) q (mv (kept p L)) ∧ Chg (fun b => (Value.slice (some ⟨g, o, none⟩) n c).ownBlock = some b) w (wr.setCells g (o + q * 2) zs) := by
          refine ⟨hq.out, ⟨by rw [mv_length, hq.out], .inr ⟨g, o, c, _, rfl, hb.puts _ _ _ _, by omega, hcm, by rw [putAll_size, hsz]; exact hfit, fun y u hu => ?_⟩⟩, Chg.sets (S := fun b => (Value.slice (some ⟨g, o, none⟩) n c).ownBlock = some b) (.inl rfl) zs _ _ hC⟩
          have hy := (List.getElem?_eq_some_iff.1 hu).1
          rw [mv_length, hq.out] at hy
          rw [putAll_out _ _ _ _ (.inl (by omega))]
          exact hkep.out y u hu
        have Hend := Lib.hid hend
        clear hend hzl hq hkep hrest htn
        go_wp2_with fail
        go_ret
        obtain ⟨h1, h2, h3⟩ := Hend.out
        rw [h1]
        exact ⟨rfl, h2, h3⟩
end Go.Proofs.Ytojlglkefiddnaa
