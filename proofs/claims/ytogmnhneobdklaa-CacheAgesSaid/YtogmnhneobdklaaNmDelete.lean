/-
  slices.IndexFunc, slices.DeleteFunc over names; slices.Delete of the first.
-/
import Derived.Test.YtogmnhneobdklaaIdsC
namespace Go.Proofs.Ytogmnhneobdklaa
open Go.RowKit
set_option linter.unusedVariables false
set_option linter.unusedSimpArgs false

/-- The first place of which something holds; -1: there is none. -/
def fIdx {α : Type} (L : List α) (p : α → Bool) : Int := match L.findIdx? p with | some k => (k : Int) | none => -1
theorem fIdx_some {α : Type} {L : List α} {p : α → Bool} {k : Nat} (hno : ∀ j x, j < k → L[j]? = some x → p x = false) {x : α} (hx : L[k]? = some x) (hp : p x = true) : fIdx L p = k := by
  have h : L.findIdx? p = some k := by
    rw [List.findIdx?_eq_some_iff_getElem]
    obtain ⟨hk, hx2⟩ := List.getElem?_eq_some_iff.1 hx
    refine ⟨hk, by rw [hx2]; exact hp, fun j hj => ?_⟩
    have := hno j L[j] hj (List.getElem?_eq_getElem _)
    rw [this]
    exact Bool.false_ne_true
  unfold fIdx
  rw [h]
theorem fIdx_none {α : Type} {L : List α} {p : α → Bool} (hno : ∀ x ∈ L, p x = false) : fIdx L p = -1 := by
  unfold fIdx
  rw [List.findIdx?_eq_none_iff.2 hno]
theorem fIdx_neg {α : Type} (L : List α) (p : α → Bool) : decide (fIdx L p < 0) = !L.any p := by
  cases h : L.findIdx? p with
  | none =>
    have h2 : fIdx L p = -1 := by unfold fIdx; rw [h]
    have : L.any p = false := by
      rw [List.any_eq_false]
      intro x hx
      have := List.findIdx?_eq_none_iff.1 h x hx
      simp [this]
    rw [h2, this]
    rfl
  | some k =>
    have h2 : fIdx L p = k := by unfold fIdx; rw [h]
    have : L.any p = true := by
      obtain ⟨hk, hp, _⟩ := List.findIdx?_eq_some_iff_getElem.1 h
      exact List.any_eq_true.2 ⟨_, List.getElem_mem hk, hp⟩
    rw [h2, this]
    simp
theorem fIdx_ge {α : Type} (L : List α) (p : α → Bool) : decide (0 ≤ fIdx L p) = L.any p := by
  have h := fIdx_neg L p
  cases hb : L.any p with
  | true =>
    rw [hb] at h
    have : ¬ fIdx L p < 0 := by simpa using h
    exact decide_eq_true (by omega)
  | false =>
    rw [hb] at h
    have : fIdx L p < 0 := by simpa using h
    exact decide_eq_false (by omega)

theorem enters {P : Program} {f : FuncId} {fn : Func} {c : Code} (hf : P.funcs[f]? = some fn) (hname : (fn.name == "runtime.NumGoroutine") = false) (hb : fn.body = some c) (args : Array Value) (w : World) :
    (callFunc f args).run P w = .ok (.enter f args) w := by
  have h1 : fn.name ≠ "runtime.NumGoroutine" := by simpa using hname
  simp [callFunc, hf, h1, hb]

set_option maxRecDepth 100000 in
/-- slices.IndexFunc over names, of a function that is handed over with one thing that it holds. -/
theorem indexFuncS_any (w : World) (A : Option Addr) (n c : Nat) (L : List ByteArray) (fid : Nat) (v : Value) (p : ByteArray → Bool) (h1 : Rds w 1 A n (sv L)) (hn : n ≤ 9223372036854775807)
    (hcf : ∀ (args : Array Value) (w : World), (callFunc fid args).run Try.prog w = .ok (.enter fid args) w) (hf : Hid (∀ w2 m, Chg Non w w2 → m ∈ L → Calls Try.prog fid #[.string m, v] w2 fun e w3 => e = .returned (.bool (p m)) ∧ Chg Non w2 w3)) :
    Calls Try.prog 31 #[.slice A n c, .func (.func fid) #[] #[v]] w fun e w2 => e = .returned (.int .i64 (fIdx L p)) ∧ Chg Non w w2 := by
  have H1 := Lib.hid h1
  clear h1
  go_enter Try.func31, Try.ntmps31
  go_wp2_with fail
  go_loopw [8] (fun i wr => ∃ k : Nat, k ≤ n ∧ i = .int .i64 k ∧ Hid (∀ j x, j < k → L[j]? = some x → p x = false) ∧ Chg Non w wr) (fun i _ => n - (intOf i).toNat)
  case atStart => exact ⟨0, Nat.zero_le _, rfl, (fun j x h => by omega), Chg.refl _ _⟩
  case round =>
    obtain ⟨k, hk, rfl, hno, hC⟩ := hrel
    by_cases hlt : k < n
    · obtain ⟨ad, m, rfl, hx, hc0⟩ := H1.out.getS hlt
      have a0 := hC.cell hc0 id
      have hm := List.mem_of_getElem? hx
      have b1 : (0 : Int) ≤ (k : Int) := by omega
      have b2 : (k : Int) < n := by omega
      cases hp : p m with
      | true =>
        have hres := fIdx_some hno.out hx hp
        have Hres := Lib.hid hres
        have Hp := Lib.hid hp
        clear hres hp hx hno hc0
        go_wp2_with fail
        refine (hf.out _ m hC hm).mono ?_
        rintro e w3 ⟨rfl, hc3⟩
        rw [Hp.out]
        go_wp2_with fail
        go_ret
        exact ⟨by rw [Hres.out]; rfl, hC.non hc3⟩
      | false =>
        have hno2 : Hid (∀ j x, j < k + 1 → L[j]? = some x → p x = false) := by
          intro j x hj hx2
          rcases Nat.lt_or_ge j k with h | h
          · exact hno.out j x h hx2
          · obtain rfl : j = k := by omega
            rw [hx] at hx2
            cases hx2
            exact hp
        have Hp := Lib.hid hp
        clear hp hx hno hc0
        go_wp2_with fail
        refine (hf.out _ m hC hm).mono ?_
        rintro e w3 ⟨rfl, hc3⟩
        rw [Hp.out]
        go_wp2_with fail
        go_roundw
        case rel => exact ⟨k + 1, by omega, by go_num, hno2, hC.non hc3⟩
        case measure => simp [intOf]; omega
    · have hres : fIdx L p = -1 := by
        refine fIdx_none fun x hx => ?_
        obtain ⟨j, hj⟩ := List.getElem?_of_mem hx
        have hjl := (List.getElem?_eq_some_iff.1 hj).1
        have hl := H1.out.lenMap (f := Value.string)
        exact hno.out j x (by omega) hj
      have Hres := Lib.hid hres
      clear hres hno
      go_wp2_with fail
      go_ret
      exact ⟨by rw [Hres.out]; rfl, hC⟩

/-- 'clear(s)' over names. -/
theorem run_clearS (w : World) (g o n c : Nat) (cur : Array Value) (hb : Blk w g 27 cur) (hn : 0 < n) (hfit : o + n ≤ cur.size) (ty : TypeId) :
    ∃ zs : List Value, zs.length = n ∧ (Builtin.clear_ #[26] ty #[.slice (some ⟨g, o, none⟩) n c]).run Try.prog w = .ok (.tuple #[]) (w.setCells g o zs) :=
  ⟨_, by simp, Lib.run_clear_slice w 26 27 ty (.string ⟨#[]⟩) Try.underlying26 (by intro w; kernel_rfl) rfl rfl g o n _ (by omega) (fun j hj => by rw [hb.cell, Array.getElem?_eq_getElem (by omega)]; rfl) (fun j _ => hb.frozen _)⟩

/-- Those that stay. -/
abbrev kept (p : ByteArray → Bool) (L : List ByteArray) : List ByteArray := L.filter fun m => !p m
theorem kept_step {p : ByteArray → Bool} {L : List ByteArray} {j : Nat} {m : ByteArray} (h : L[j]? = some m) : kept p (L.take (j + 1)) = kept p (L.take j) ++ (if p m then [] else [m]) := by
  rw [List.take_add_one, h]
  simp only [kept, List.filter_append, Option.toList_some]
  cases hp : p m <;> simp [hp]
theorem kept_all {p : ByteArray → Bool} {L : List ByteArray} (h : ∀ m ∈ L, p m = false) : kept p L = L := by
  rw [List.filter_eq_self]
  intro m hm
  rw [h m hm]
  rfl
theorem kept_le (p : ByteArray → Bool) (L : List ByteArray) (j : Nat) : (kept p (L.take j)).length ≤ j := Nat.le_trans (List.length_filter_le _ _) (List.length_take_le _ _)

theorem sv_app (L M : List ByteArray) : sv (L ++ M) = sv L ++ sv M := by simp [sv]
theorem sv_length (L : List ByteArray) : (sv L).length = L.length := by simp [sv]
theorem sv_prefix {L : List ByteArray} {k y : Nat} {u : Value} (h : (sv (L.take k))[y]? = some u) : (sv L)[y]? = some u := by
  have e : sv L = sv (L.take k) ++ sv (L.drop k) := by rw [← sv_app, List.take_append_drop]
  rw [e, List.getElem?_append_left (List.getElem?_eq_some_iff.1 h).1]
  exact h
theorem set1_far {cur : Array Value} {i y : Nat} {a : Value} (h : y ≠ i) : (cur.setIfInBounds i a)[y]? = cur[y]? := Array.getElem?_setIfInBounds_ne (fun e => h e.symm)
theorem kept_put {p : ByteArray → Bool} {L : List ByteArray} {t q o : Nat} {m : ByteArray} {cur : Array Value} (hx : L[t]? = some m) (hp : p m = false) (hq : (kept p (L.take t)).length = q) (hfit : o + q < cur.size)
    (hk : ∀ y u, (sv (kept p (L.take t)))[y]? = some u → cur[o + y]? = some u) :
    (kept p (L.take (t + 1))).length = q + 1 ∧ ∀ y u, (sv (kept p (L.take (t + 1))))[y]? = some u → (cur.setIfInBounds (o + q) (.string m))[o + y]? = some u := by
  have e : kept p (L.take (t + 1)) = kept p (L.take t) ++ [m] := by rw [kept_step hx, hp]; rfl
  rw [e]
  refine ⟨by simp [hq], fun y u hu => ?_⟩
  have hl : (sv (kept p (L.take t))).length = q := by rw [sv_length, hq]
  rw [sv_app] at hu
  rcases Nat.lt_or_ge y q with h | h
  · rw [List.getElem?_append_left (by omega)] at hu
    rw [set1_far (by omega)]
    exact hk y u hu
  · rw [List.getElem?_append_right (by omega), hl] at hu
    have hy := (List.getElem?_eq_some_iff.1 hu).1
    have h2 : (sv [m]).length = 1 := rfl
    rw [h2] at hy
    obtain rfl : y = q := by omega
    rw [Nat.sub_self] at hu
    rw [Array.getElem?_setIfInBounds_self_of_lt hfit]
    exact hu

set_option maxRecDepth 100000 in
set_option maxHeartbeats 1000000 in
theorem deleteFuncS_any (w : World) (A : Option Addr) (c : Nat) (L : List ByteArray) (fid : Nat) (v : Value) (p : ByteArray → Bool) (h : Win rkI w (.slice A L.length c) L.length (sv L))
    (hcf : ∀ (args : Array Value) (w : World), (callFunc fid args).run Try.prog w = .ok (.enter fid args) w)
    (hf : Hid (∀ w2 m, Chg (fun b => (Value.slice A L.length c).ownBlock = some b) w w2 → m ∈ L → Calls Try.prog fid #[.string m, v] w2 fun e w3 => e = .returned (.bool (p m)) ∧ Chg Non w2 w3)) :
    Calls Try.prog 22 #[.slice A L.length c, .func (.func fid) #[] #[v]] w fun e w2 =>
      e = .returned (.slice A (kept p L).length c) ∧ Win rkI w2 (.slice A (kept p L).length c) (kept p L).length (sv (kept p L)) ∧ Chg (fun b => (Value.slice A L.length c).ownBlock = some b) w w2 := by
  have hsm := h.small
  have hidx := indexFuncS_any w A L.length c L fid v p h.rds hsm hcf (fun w2 m hc hm => hf.out w2 m hc.of_non hm)
  cases hk : L.findIdx? p with
  | none =>
    have hall : ∀ m ∈ L, p m = false := List.findIdx?_eq_none_iff.1 hk
    have hI : fIdx L p = -1 := by unfold fIdx; rw [hk]
    rw [hI] at hidx
    have Hidx := Lib.hid hidx
    have Hk := Lib.hid (kept_all hall)
    clear hk hall hI hidx hf
    go_enter Try.func22, Try.ntmps22
    go_wp2_with fail
    refine Hidx.out.mono ?_
    rintro e w2 ⟨rfl, hc2⟩
    have h2 := h.non hc2
    clear h
    go_wp2_with fail
    go_ret
    rw [Hk.out]
    exact ⟨rfl, h2, hc2.of_non⟩
  | some k0 =>
    obtain ⟨hk0, hpk, hbefore⟩ := List.findIdx?_eq_some_iff_getElem.1 hk
    have hI : fIdx L p = (k0 : Int) := by unfold fIdx; rw [hk]
    rw [hI] at hidx
    have Hidx := Lib.hid hidx
    have hx0 : L[k0]? = some L[k0] := List.getElem?_eq_getElem hk0
    have hpre : kept p (L.take k0) = L.take k0 := kept_all fun m hm => by
      obtain ⟨j, hj⟩ := List.getElem?_of_mem hm
      rw [List.getElem?_take] at hj
      split at hj
      · rename_i hjk
        obtain ⟨hj2, e⟩ := List.getElem?_eq_some_iff.1 hj
        have := hbefore j hjk
        rw [e] at this
        simpa using this
      · cases hj
    have hstart : kept p (L.take (k0 + 1)) = L.take k0 := by rw [kept_step hx0, hpre, hpk]; simp
    obtain ⟨n, hn⟩ : ∃ n, n = L.length := ⟨_, rfl⟩
    have hkn : k0 < n := by omega
    have hne1 : ((k0 : Int) == -1) = false := beq_eq_false_iff_ne.2 (by omega)
    have hw := h.2
    rcases hw with ⟨e, _⟩ | ⟨g, o, c2, cur0, e, hb0, hnc, hcm, hfit, hget⟩
    · have : L.length = 0 := by injection e
      omega
    injection e with e1 _ e3
    subst e1 e3
    simp only [show rkI.size = 1 from rfl] at hfit
    have Hstart := Lib.hid hstart
    have Hget := Lib.hid hget
    have HL := Lib.hid hn
    have hwin := Lib.hid h
    rw [← hn] at hf hnc hsm ⊢
    clear hk hpk hbefore hI hidx hx0 hpre hstart hget h hn
    go_enter Try.func22, Try.ntmps22
    go_wp2_with fail
    rw [HL.out]
    refine Hidx.out.mono ?_
    rintro e w2 ⟨rfl, hc2⟩
    rw [← HL.out]
    go_wp2_with fail
    go_loopw [5, 6] (fun i j wr => ∃ (t q : Nat) (cur : Array Value), t ≤ n ∧ q < t ∧ j = .int .i64 t ∧ i = .int .i64 q ∧ Blk wr g 27 cur ∧ cur.size = cur0.size ∧ Hid ((kept p (L.take t)).length = q) ∧ Hid (∀ y u, (sv (kept p (L.take t)))[y]? = some u → cur[o + y]? = some u) ∧ Hid (∀ y, t ≤ y → y < n → cur[o + y]? = (sv L)[y]?) ∧ Chg (fun b => (Value.slice (some ⟨g, o, none⟩) n c).ownBlock = some b) w wr) (fun _ j _ => n - (intOf j).toNat)
    case atStart =>
      refine ⟨k0 + 1, k0, cur0, by omega, by omega, by go_num, rfl, hb0.non hc2, rfl, ?_, ?_, ?_, hc2.of_non⟩
      · show (kept p (L.take (k0 + 1))).length = k0
        rw [Hstart.out, List.length_take]
        have := HL.out
        omega
      · show ∀ y u, _ → _
        intro y u hu
        rw [Hstart.out] at hu
        exact Hget.out y u (sv_prefix hu)
      · show ∀ y, _ → _
        intro y _ hy
        have hl : y < (sv L).length := by rw [sv_length, ← HL.out]; omega
        rw [List.getElem?_eq_getElem hl]
        exact Hget.out y _ (List.getElem?_eq_getElem hl)
    case round =>
      clear hc2
      obtain ⟨t, q, cur, ht, hqt, rfl, rfl, hb, hsz, hq, hkep, hrest, hC⟩ := hrel
      by_cases hlt : t < n
      · have hlL : t < L.length := by rw [← HL.out]; exact hlt
        obtain ⟨m, hx⟩ : ∃ m, L[t]? = some m := ⟨_, List.getElem?_eq_getElem hlL⟩
        have hm := List.mem_of_getElem? hx
        have hg2 : (sv L)[t]? = some (.string m) := by rw [sv, List.getElem?_map, hx]; rfl
        have a0 : wr.cell? ⟨g, o + t, none⟩ = some (.string m) := by rw [hb.cell, hrest.out t (Nat.le_refl _) hlt]; exact hg2
        have hglt := hb.lt
        cases hp : p m with
        | true =>
          have hk2 : kept p (L.take (t + 1)) = kept p (L.take t) := by rw [kept_step hx, hp]; simp
          have Hp := Lib.hid hp
          have Hk2 := Lib.hid hk2
          clear hp hk2 hx hg2
          go_wp2_with fail
          refine (hf.out _ m hC hm).mono ?_
          rintro e w3 ⟨rfl, hc3⟩
          rw [Hp.out]
          have hC3 := hC.non hc3
          have hb3 := hb.non hc3
          clear hc3 a0 hb hC
          go_wp2_with fail
          go_roundw
          case rel => exact ⟨t + 1, q, cur, by omega, by omega, by go_num, rfl, hb3, hsz, by rw [Hk2.out]; exact hq, by rw [Hk2.out]; exact hkep, (fun y h1 h2 => hrest.out y (by omega) h2), hC3⟩
          case measure => simp [intOf]; omega
        | false =>
          have hfq : o + q < cur.size := by rw [hsz]; omega
          have hput := kept_put hx hp hq.out hfq hkep.out
          have Hput := Lib.hid hput
          have Hp := Lib.hid hp
          clear hp hput hx hg2 hkep hq
          go_wp2_with fail
          refine (hf.out _ m hC hm).mono ?_
          rintro e w3 ⟨rfl, hc3⟩
          rw [Hp.out]
          have hC3 := hC.non hc3
          have hb3 := hb.non hc3
          have d0 : w3.cell? ⟨g, o + q, none⟩ = some (cur[o + q]'hfq) := by rw [hb3.cell, Array.getElem?_eq_getElem]
          have e0 := hb3.frozen (o + q)
          generalize (cur[o + q]'hfq) = u0 at d0
          have hb4 := hb3.put (o + q) (.string m)
          have hC4 := hC3.setCell (p := ⟨g, o + q, none⟩) (.inl rfl) (.string m)
          have hrest4 : Hid (∀ y, t + 1 ≤ y → y < n → (cur.setIfInBounds (o + q) (.string m))[o + y]? = (sv L)[y]?) := by
            intro y h1 h2
            rw [set1_far (by omega)]
            exact hrest.out y (by omega) h2
          clear hc3 a0 hb hC hrest hb3 hC3
          go_wp2_with fail
          go_roundw
          case rel => exact ⟨t + 1, q + 1, cur.setIfInBounds (o + q) (.string m), by omega, by omega, by go_num, by go_num, hb4, by rw [Array.size_setIfInBounds]; exact hsz, Hput.out.1, Hput.out.2, hrest4, hC4⟩
          case measure => simp [intOf]; omega
      · have htn : L.take t = L := List.take_of_length_le (by have := HL.out; omega)
        rw [htn] at hq hkep
        have hqn : q < n := by omega
        have q1 : ∀ w : World, (Instr.slice 26 (.slice (some ⟨g, o, none⟩) n c) (some (.int .i64 (q : Int))) none none).run Try.prog w = .ok (.slice (some ⟨g, o + q, none⟩) (n - q) (c - q)) w := by
          intro w
          have := run_slice_lo (P := Try.prog) (kl := .i64) Try.underlying26 1 (by kernel_rfl) (by kernel_rfl) (i := (q : Int)) (k := q) rfl (by omega) (some ⟨g, o, none⟩) c w (n := n)
          rw [this]
          unfold cutA
          rw [if_neg (by omega), Option.map_some, Nat.mul_one, add_off]
        have q2 : ∀ w : World, (Instr.slice 26 (.slice (some ⟨g, o, none⟩) n c) none (some (.int .i64 (q : Int))) none).run Try.prog w = .ok (.slice (some ⟨g, o, none⟩) q c) w :=
          fun w => run_slice_hi Try.underlying26 (by kernel_rfl) rfl (by omega) _ _ w
        obtain ⟨zs, hzl, hz⟩ : ∃ zs : List Value, zs.length = n - q ∧ ∀ ty, (Builtin.clear_ #[26] ty #[.slice (some ⟨g, o + q, none⟩) (n - q) (c - q)]).run Try.prog wr = .ok (.tuple #[]) (wr.setCells g (o + q) zs) := by
          obtain ⟨zs, h1, h2⟩ := run_clearS wr g (o + q) (n - q) (c - q) cur hb (by omega) (by rw [hsz]; omega) 0
          refine ⟨zs, h1, fun ty => ?_⟩
          exact h2
        have hend : (kept p L).length = q ∧ Win rkI (wr.setCells g (o + q) zs) (.slice (some ⟨g, o, none⟩) q c) q (sv (kept p L)) ∧ Chg (fun b => (Value.slice (some ⟨g, o, none⟩) n c).ownBlock = some b) w (wr.setCells g (o + q) zs) := by
          refine ⟨hq.out, ⟨by rw [sv_length, hq.out]; exact (Nat.mul_one _).symm, .inr ⟨g, o, c, _, rfl, hb.puts _ _ _ _, by omega, hcm, by rw [putAll_size, hsz]; exact hfit, fun y u hu => ?_⟩⟩, Chg.sets (S := fun b => (Value.slice (some ⟨g, o, none⟩) n c).ownBlock = some b) (.inl rfl) zs _ _ hC⟩
          have hy := (List.getElem?_eq_some_iff.1 hu).1
          rw [sv_length, hq.out] at hy
          rw [putAll_out _ _ _ _ (.inl (by omega))]
          exact hkep.out y u hu
        have Hend := Lib.hid hend
        clear hend hzl hq hkep hrest htn
        go_wp2_with fail
        go_ret
        obtain ⟨h1, h2, h3⟩ := Hend.out
        rw [h1]
        exact ⟨rfl, h2, h3⟩
set_option maxRecDepth 100000 in
set_option maxHeartbeats 400000 in
/-- slices.Delete(l, 0, 1). -/
theorem delFirst_any (w : World) (ad : Addr) (c : Nat) (x : ByteArray) (R : List ByteArray) (h : Win rkI w (.slice (some ad) (R.length + 1) c) (R.length + 1) (sv (x :: R))) :
    Calls Try.prog 24 #[.slice (some ad) (R.length + 1) c, .int .i64 0, .int .i64 1] w fun e w2 => e = .returned (.slice (some ad) R.length c) ∧ Win rkI w2 (.slice (some ad) R.length c) R.length (sv R) ∧ Chg (fun g => g = ad.block) w w2 := by
  have hsm := h.small
  have hncc : R.length + 1 ≤ c := by
    obtain ⟨A0, n0, e0, hnc, _, _⟩ := h.open_
    injection e0 with e1 e2 e3
    omega
  have had : ad = ⟨ad.block, ad.off, none⟩ := by
    rcases h.2 with ⟨e, _⟩ | ⟨g, o, c2, cur, e, _⟩
    · cases e
    · injection e with e1
      injection e1 with e1
      rw [e1]
  have hw0 := h.hi (k := 0) (Nat.zero_le _)
  have hrd := (h.lo (k := 1) (by omega)).rds
  simp only [Nat.zero_mul, List.take_zero, Nat.one_mul, show rkI.size = 1 from rfl, Nat.add_sub_cancel] at hw0 hrd
  have hrd2 : Rds w 1 (cutA (some ad) c 1 1) R.length (sv R) := hrd
  have q1 : ∀ w : World, (Instr.slice 26 (.slice (some ad) (R.length + 1) c) none (some (.int .i64 0)) none).run Try.prog w = .ok (.slice (some ad) 0 c) w :=
    fun w => run_slice_hi Try.underlying26 (by kernel_rfl) (i := 0) (k := 0) rfl (by omega) _ _ w
  have q2 : ∀ w : World, (Instr.slice 26 (.slice (some ad) (R.length + 1) c) (some (.int .i64 1)) none none).run Try.prog w = .ok (.slice (cutA (some ad) c 1 1) R.length (c - 1)) w := by
    intro w
    exact run_slice_lo Try.underlying26 1 (by kernel_rfl) (by kernel_rfl) (i := 1) (k := 1) rfl (by omega) _ _ w
  have q3 : ∀ w : World, (Instr.slice 26 (.slice (some ad) R.length c) (some (.int .i64 (R.length : Int))) (some (.int .i64 ((R.length : Int) + 1))) none).run Try.prog w = .ok (.slice (some ⟨ad.block, ad.off + R.length, none⟩) 1 (c - R.length)) w := by
    intro w
    have := run_slice_mid (P := Try.prog) (kl := .i64) (kh := .i64) Try.underlying26 1 (by kernel_rfl) (by kernel_rfl) (i := (R.length : Int)) (j := (R.length : Int) + 1) (k := R.length) (m := R.length + 1) rfl rfl (by omega) (c := c) (by omega) (some ad) R.length w
    rw [this]
    unfold cutA
    rw [if_neg (by omega), Option.map_some, Nat.mul_one, had, add_off, Nat.add_sub_cancel_left]
  have b1 : (0 : Int) ≤ (R.length : Int) := by omega
  generalize hcut : cutA (some ad) c 1 1 = B at hrd2 q2
  clear hcut hrd had
  go_enter Try.func24, Try.ntmps24
  go_wp2_with fail
  refine st_region_tail 6 6 Non [] [] (fun _ _ _ _ => True) (fun _ _ _ _ => True) (fun _ _ _ => True) (fun _ => True) (by kernel_rfl) (by kernel_rfl) (by kernel_rfl) (fun _ h => h.elim) trivial (fun _ _ _ => trivial) ?_
  repeat (first | (refine st_pass (by rfl) ?_; simp only [Act.put, List.setIfInBounds_toArray, List.set_cons_succ, List.set_cons_zero]) | (refine st_plain (Non) (w) rfl rfl (f := ?_) (by rfl) rfl rfl (fun w hC hG => ?_) ?_; rotate_left; (clear hG; first | (go_simp; done) | (go_simp; with_reducible rfl) | (simp [*, go_sem, ↓IntWalk.iteOmega]; done) | (simp [*, go_sem, ↓IntWalk.iteOmega]; with_reducible rfl)); simp only [Act.put, List.setIfInBounds_toArray, List.set_cons_succ, List.set_cons_zero]))
  refine st_tail Non w rfl rfl rfl (fun w5 hC5 _ _ => ?_)
  simp only [List.drop_succ_cons, List.drop_zero]
  refine appW_room (K := rkI) rfl (.tmp 22) (.tmp 25) rfl (hw0.non hC5) rfl (hrd2.non hC5) rfl (svI_one _) (by omega) ?_
  intro w6 h6 hc6
  simp only [Act.put, List.setIfInBounds_toArray, List.set_cons_succ, List.set_cons_zero]
  simp only [Nat.zero_add, List.nil_append] at h6 ⊢
  have hsome : (w6.cell? ⟨ad.block, ad.off + R.length + 0, none⟩).isSome = true ∧ w6.frozen? ⟨ad.block, ad.off + R.length + 0, none⟩ = false := by
    rcases h6.2 with ⟨e, _⟩ | ⟨g, o, c2, cur, e, hblk, _, _, hfit, _⟩
    · cases e
    · injection e with e1 e2 e3
      injection e1 with e1
      subst e1 e3
      refine ⟨?_, hblk.frozen _⟩
      rw [hblk.cell, Array.getElem?_eq_getElem (by simp only [show rkI.size = 1 from rfl] at hfit; simp only; omega)]
      rfl
  have q4 : ∀ ty, (Builtin.clear_ #[26] ty #[.slice (some ⟨ad.block, ad.off + R.length, none⟩) 1 (c - R.length)]).run Try.prog w6 = .ok (.tuple #[]) (w6.setCells ad.block (ad.off + R.length) [.string ⟨#[]⟩]) :=
    fun ty => Lib.run_clear_slice w6 26 27 ty (.string ⟨#[]⟩) Try.underlying26 (by intro w; kernel_rfl) rfl rfl ad.block (ad.off + R.length) 1 _ (by omega) (fun j hj => by have e : j = 0 := (by omega); subst e; exact hsome.1) (fun j hj => by have e : j = 0 := (by omega); subst e; exact hsome.2)
  have hend : Win rkI (w6.setCells ad.block (ad.off + R.length) [.string ⟨#[]⟩]) (.slice (some ad) R.length c) R.length (sv R) ∧ Chg (fun g => g = ad.block) w (w6.setCells ad.block (ad.off + R.length) [.string ⟨#[]⟩]) :=
    ⟨h6.beyond rfl (by simp [show rkI.size = 1 from rfl]) _, Chg.sets (S := fun g => g = ad.block) (.inl rfl) _ _ _ ((hC5.of_non).trans2 hc6 (fun b e => .inl (by have e : some ad.block = some b := e; exact (Option.some.inj e).symm)))⟩
  have Hend := Lib.hid hend
  clear hend h6 hc6 hsome hw0 hrd2 h
  go_wp2_with fail
  go_ret
  exact ⟨rfl, Hend.out.1, Hend.out.2⟩

end Go.Proofs.Ytogmnhneobdklaa
