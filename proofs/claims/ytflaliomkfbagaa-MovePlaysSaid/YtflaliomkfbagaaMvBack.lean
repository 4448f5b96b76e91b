/-
  slices.Contains over numbers, gleanerref1.In; move.Giver.Back.
-/
import Derived.Test.YtflaliomkfbagaaMvIn
namespace Go.Proofs.Ytflaliomkfbagaa
open Go.RowKit
set_option linter.unusedVariables false
set_option linter.unusedSimpArgs false

/-- The first place of which something holds; -1: there is none. -/
def fIdx {α : Type} (L : List α) (p : α → Bool) : Int := match L.findIdx? p with | some k => (k : Int) | none => -1
theorem fIdx_some {α : Type} {L : List α} {p : α → Bool} {k : Nat} (hno : ∀ j x, j < k → L[j]? = some x → p x = false) {x : α} (hx : L[k]? = some x) (hp : p x = true) : fIdx L p = k := by
  have h : L.findIdx? p = some k := by
    rw [List.findIdx?_eq_some_iff_getElem]
    obtain ⟨hk, hx2⟩ := List.getElem?_eq_some_iff.1 hx
    refine ⟨hk, by rw [hx2]; exact hp, fun j hj => ?_⟩
    have := hno j L[j] hj (List.getElem?_eq_getElem _)
    rw [this]
    exact Bool.false_ne_true
  unfold fIdx
  rw [h]
theorem fIdx_none {α : Type} {L : List α} {p : α → Bool} (hno : ∀ x ∈ L, p x = false) : fIdx L p = -1 := by
  unfold fIdx
  rw [List.findIdx?_eq_none_iff.2 hno]
theorem fIdx_neg {α : Type} (L : List α) (p : α → Bool) : decide (fIdx L p < 0) = !L.any p := by
  cases h : L.findIdx? p with
  | none =>
    have h2 : fIdx L p = -1 := by unfold fIdx; rw [h]
    have : L.any p = false := by
      rw [List.any_eq_false]
      intro x hx
      have := List.findIdx?_eq_none_iff.1 h x hx
      simp [this]
    rw [h2, this]
    rfl
  | some k =>
    have h2 : fIdx L p = k := by unfold fIdx; rw [h]
    have : L.any p = true := by
      obtain ⟨hk, hp, _⟩ := List.findIdx?_eq_some_iff_getElem.1 h
      exact List.any_eq_true.2 ⟨_, List.getElem_mem hk, hp⟩
    rw [h2, this]
    simp
theorem fIdx_ge {α : Type} (L : List α) (p : α → Bool) : decide (0 ≤ fIdx L p) = L.any p := by
  have h := fIdx_neg L p
  cases hb : L.any p with
  | true =>
    rw [hb] at h
    have : ¬ fIdx L p < 0 := by simpa using h
    exact decide_eq_true (by omega)
  | false =>
    rw [hb] at h
    have : fIdx L p < 0 := by simpa using h
    exact decide_eq_false (by omega)

set_option maxRecDepth 100000 in
theorem indexInt_any (w : World) (A : Option Addr) (n c : Nat) (L : List Int) (x : Int) (h1 : Rds w 1 A n (iv L)) (hn : n ≤ 9223372036854775807) :
    Calls Try.prog 61 #[.slice A n c, .int .i64 x] w fun e w2 => e = .returned (.int .i64 (fIdx L fun y => x == y)) ∧ w = w2 := by
  have H1 := Lib.hid h1
  clear h1
  go_enter Try.func61, Try.ntmps61
  go_wp2_with fail
  go_loop [8] (fun i => ∃ k : Nat, k ≤ n ∧ i = .int .i64 k ∧ Hid (∀ j y, j < k → L[j]? = some y → (x == y) = false)) (fun i => n - (intOf i).toNat)
  case atStart => exact ⟨0, Nat.zero_le _, rfl, (fun j y h => by omega)⟩
  case round =>
    obtain ⟨k, hk, rfl, hno⟩ := hrel
    by_cases hlt : k < n
    · obtain ⟨ad, y, rfl, hx, hc⟩ := H1.out.getI hlt
      cases hp : x == y with
      | true =>
        have hres := fIdx_some (p := fun y => x == y) hno.out hx hp
        have Hres := Lib.hid hres
        clear hres hx hno
        go_wp2_with fail
        go_ret
        exact ⟨by rw [Hres.out]; rfl, rfl⟩
      | false =>
        have hno2 : Hid (∀ j y, j < k + 1 → L[j]? = some y → (x == y) = false) := by
          intro j z hj hz
          rcases Nat.lt_or_ge j k with h | h
          · exact hno.out j z h hz
          · obtain rfl : j = k := by omega
            rw [hx] at hz
            cases hz
            exact hp
        clear hx hno
        go_wp2_with fail
        go_round
        case rel => exact ⟨k + 1, by omega, by go_num, hno2⟩
        case measure => simp [intOf]; omega
    · have hres : fIdx L (fun y => x == y) = -1 := by
        refine fIdx_none fun y hy => ?_
        obtain ⟨j, hj⟩ := List.getElem?_of_mem hy
        have hjl := (List.getElem?_eq_some_iff.1 hj).1
        have hl := H1.out.lenMap (f := fun n : Int => .int .i64 n)
        exact hno.out j y (by omega) hj
      have Hres := Lib.hid hres
      clear hres hno
      go_wp2_with fail
      go_ret
      exact ⟨by rw [Hres.out]; rfl, rfl⟩

/-- Is a number in a list? -/
def inI (L : List Int) (x : Int) : Bool := L.any fun y => x == y
theorem containsInt_any (w : World) (A : Option Addr) (n c : Nat) (L : List Int) (x : Int) (h1 : Rds w 1 A n (iv L)) (hn : n ≤ 9223372036854775807) :
    Calls Try.prog 42 #[.slice A n c, .int .i64 x] w fun e w2 => e = .returned (.bool (inI L x)) ∧ w = w2 := by
  have hg := Lib.hid (fIdx_ge L fun y => x == y)
  go_enter Try.func42, Try.ntmps42
  go_wp2_with fail
  refine (indexInt_any w A n c L x h1 hn).mono ?_
  rintro e w2 ⟨rfl, rfl⟩
  generalize fIdx L (fun y => x == y) = q at hg ⊢
  go_wp2_with fail
  go_ret
  exact ⟨by unfold inI; rw [← hg.out]; rfl, rfl⟩

theorem any_step {α : Type} {L : List α} {p : α → Bool} {k : Nat} {m : α} (h : L[k]? = some m) : (L.take (k + 1)).any p = ((L.take k).any p || p m) := by
  rw [List.take_add_one, h]
  simp
theorem any_at {α : Type} {L : List α} {p : α → Bool} {k : Nat} {m : α} (h : L[k]? = some m) (hp : p m = true) : L.any p = true := List.any_eq_true.2 ⟨m, List.mem_of_getElem? h, hp⟩

set_option maxRecDepth 100000 in
set_option maxHeartbeats 600000 in
theorem refIn_any (w : World) (A : Option Addr) (n c : Nat) (L : List Int) (x : Int) (h1 : Rds w 1 A n (iv L)) (hn : n ≤ 9223372036854775807) :
    Calls Try.prog 20 #[.slice A n c, .int .i64 x] w fun e w2 => e = .returned (.bool (inI L x)) ∧ w = w2 := by
  have H1 := Lib.hid h1
  have Hl := Lib.hid h1.lenMap
  clear h1
  go_enter Try.func20, Try.ntmps20
  go_wp2_with fail
  go_loop [5] (fun i => ∃ k : Nat, k ≤ n ∧ i = .int .i64 k ∧ Hid ((L.take k).any (fun y => x == y) = false)) (fun i => n - (intOf i).toNat)
  case atStart => exact ⟨0, Nat.zero_le _, rfl, rfl⟩
  case round =>
    obtain ⟨k, hk, rfl, hno⟩ := hrel
    by_cases hlt : k < n
    · obtain ⟨ad, y, rfl, hx, hc⟩ := H1.out.getI hlt
      cases hp : y == x with
      | true =>
        have Hy : Hid (inI L x = true) := any_at (p := fun y : Int => x == y) hx (by rw [show (x == y) = (y == x) from BEq.comm]; exact hp)
        clear hx hno
        go_wp2_with fail
        go_ret
        exact ⟨by rw [Hy.out]; rfl, rfl⟩
      | false =>
        have hst : Hid ((L.take (k + 1)).any (fun y => x == y) = false) := by have h9 := any_step (p := fun y : Int => x == y) hx; rw [hno.out, show (x == y) = (y == x) from BEq.comm, hp] at h9; exact h9
        clear hx hno
        go_wp2_with fail
        go_round
        case rel => exact ⟨k + 1, by omega, by go_num, hst⟩
        case measure => simp [intOf]; omega
    · have Hy : Hid (inI L x = false) := by have h9 := hno.out; rw [List.take_of_length_le (by have := Hl.out; omega)] at h9; exact h9
      clear hno
      go_wp2_with fail
      go_ret
      exact ⟨by rw [Hy.out]; rfl, rfl⟩


theorem Rds.chgN {w w2 : World} {size n : Nat} {A : Option Addr} {xs : List Value} {S : Nat → Prop} (h : Rds w size A n xs) (hc : Chg S w w2) (hn : 0 < n → ∀ ad, A = some ad → ¬ S ad.block) : Rds w2 size A n xs :=
  ⟨h.1, fun h0 => by
    obtain ⟨ad, e, hx⟩ := h.2 h0
    exact ⟨ad, e, fun j u hu => hc.cell (hx j u hu) (by rw [block_add]; exact hn h0 ad e)⟩⟩


def hasL (W : List ByteArray) (c : ByteArray) : Bool := W.any fun b => decide (b = c)
theorem hasL_true {W : List ByteArray} {c : ByteArray} : hasL W c = true ↔ c ∈ W := by
  unfold hasL
  rw [List.any_eq_true]
  constructor
  · rintro ⟨x, h, e⟩
    rw [← of_decide_eq_true e]
    exact h
  · exact fun h => ⟨c, h, decide_eq_true rfl⟩
theorem hasL_snoc (W : List ByteArray) (x c : ByteArray) : hasL (W ++ [x]) c = (hasL W c || decide (c = x)) := by
  unfold hasL
  rw [List.any_append]
  simp only [List.any_cons, List.any_nil, Bool.or_false]
  congr 1
  by_cases h : c = x
  · simp [h]
  · have h2 : ¬ x = c := fun e => h e.symm
    simp [h, h2]
/-- What comes back of offers to the nodes I. -/
def backs (I : List Int) (s : GvS) (a : ByteArray) : Bool := match s.off a with | some o => inI I o.to | none => false
def backS (s : GvS) (W : List ByteArray) : GvS := { s with has := fun c => hasL W c || s.has c, off := fun c => if hasL W c then none else s.off c }
theorem backS_nil (s : GvS) : backS s [] = s := rfl
theorem backS_has (s : GvS) (W : List ByteArray) (x : ByteArray) : (fun c => decide (c = x) || (backS s W).has c) = (backS s (W ++ [x])).has := by
  funext c
  show (decide (c = x) || (hasL W c || s.has c)) = (hasL (W ++ [x]) c || s.has c)
  rw [hasL_snoc]
  cases decide (c = x) <;> cases hasL W c <;> rfl
theorem backS_off (s : GvS) (W : List ByteArray) (x : ByteArray) : setO (backS s W).off x none = (backS s (W ++ [x])).off := by
  funext c
  show (if c = x then none else (if hasL W c then none else s.off c)) = (if hasL (W ++ [x]) c then none else s.off c)
  rw [hasL_snoc]
  by_cases h : c = x <;> cases hasL W c <;> simp [h]
theorem field_to (w : World) (a b c : Int) : (Instr.field 95 (.agg #[.int .i64 a, .int .i64 b, .int .i64 c]) 0).run Try.prog w = .ok (.int .i64 a) w := by kernel_rfl
def BackPost (w : World) (F : Nat → Prop) (g sm om ns no : Nat) (s : GvS) (I : List Int) (e : Ending) (w2 : World) : Prop :=
  ∃ A m c L, e = .returned (.slice A m c) ∧ RisesS L ∧ (∀ x, x ∈ L ↔ backs I s x = true) ∧ m = L.length ∧ m ≤ no ∧ OwnR rkI w2 w.heap.size (.slice A m c) m (sv L) ∧ (∃ ns2 no2, ns2 ≤ ns + no ∧ no2 ≤ no ∧ Gv w2 F g sm om ns2 no2 (backS s L)) ∧ Chg F w w2

set_option maxRecDepth 100000 in
set_option maxHeartbeats 8000000 in
theorem gvBack_any (w : World) (F : Nat → Prop) (g sm om ns no : Nat) (s : GvS) (h : Gv w F g sm om ns no s) (A : Option Addr) (q c : Nat) (I : List Int) (hr : Rds w 1 A q (iv I)) (hA : ∀ ad, A = some ad → 0 < q → ¬ F ad.block) (hq : q ≤ 1000000) (hn : ns ≤ 1000000) (hno : no ≤ 1000000) :
    Calls Try.prog 21 #[.pointer (some ⟨g, 0, none⟩), .slice A q c] w (BackPost w F g sm om ns no s I) := by
  have c2 : w.cell? ⟨g, 2, none⟩ = some (.map (some om)) := h.hb.cell 2
  have gl := h.hb.lt
  have hK := offKeys w (some om)
  have hS := offSorted w om no _ h.ho (by omega)
  have H := Lib.hid h
  have Hr := Lib.hid hr
  have HA := Lib.hid hA
  clear h hr hA
  go_enter Try.func21, Try.ntmps21
  go_wp2_with fail
  refine hK.mono ?_
  rintro e w2 ⟨rfl, rfl⟩
  go_wp2_with fail
  refine hS.mono ?_
  clear hK hS c2 gl
  rintro e w3 ⟨v3, q3, L, rfl, hq3, hql, hrise, hmem, hsz, hown, hc3⟩
  obtain ⟨A3, c3, rfl, _, _, hr3, ho3⟩ := hown.open_
  have Ho3 : Hid (∀ ad, A3 = some ad → w.heap.size ≤ ad.block) := fun ad e => (hown.lt (ho3 ad e)).1
  have Hmem := Lib.hid hmem
  have Hsz := Lib.hid hsz
  have Hrise := Lib.hid hrise
  have Hr3 := Lib.hid hr3
  have Hql := Lib.hid hql
  have hqn : q3 ≤ 1000000 := by omega
  have hG3 := H.out.non hc3
  have Hc3 := Lib.hid hc3
  have Hq3 : Hid (q3 ≤ no) := by show _ ≤ _; omega
  clear hmem hsz hrise hr3 hown hq3 hql ho3
  go_wp2_with fail
  go_loopw [5, 15] (fun o i wr => ∃ (k m ns2 no2 : Nat) (A2 : Option Addr) (c2 : Nat), k ≤ q3 ∧ m ≤ k ∧ i = .int .i64 k ∧ o = .slice A2 m c2 ∧ OwnR rkI wr w3.heap.size (.slice A2 m c2) m (sv ((L.take k).filter (backs I s))) ∧ ns2 ≤ ns + k ∧ no2 ≤ no ∧ Gv wr F g sm om ns2 no2 (backS s ((L.take k).filter (backs I s))) ∧ Chg F w3 wr) (fun _ i _ => q3 - (intOf i).toNat)
  case atStart => exact ⟨0, 0, ns, no, none, 0, Nat.zero_le _, Nat.le_refl _, rfl, rfl, OwnR.nil _ _ _, Nat.le_refl _, Nat.le_refl _, hG3, Chg.refl _ _⟩
  case round =>
    clear hG3 hc3
    obtain ⟨k, m, ns2, no2, A2, c2, hk, hmk, rfl, rfl, hown, hns2, hno2, hG, hC⟩ := hrel
    have hFw : ∀ b, F b → b < w.heap.size := fun b hb => H.out.lt b hb
    by_cases hlt : k < q3
    · obtain ⟨ad, x, rfl, hx, hcx⟩ := Hr3.out.getS hlt
      have a0 := hC.cell hcx (fun e => by rw [block_add] at e; have := hFw _ e; have := Ho3.out ad rfl; omega)
      have al := World.block_lt_of_cell? wr _ a0
      have hxs := Hsz.out x (List.mem_of_getElem? hx)
      have hin := (Hmem.out x).1 (List.mem_of_getElem? hx)
      have hst : (L.take (k + 1)).filter (backs I s) = (L.take k).filter (backs I s) ++ (if backs I s x then [x] else []) := by
        rw [List.take_add_one, hx, List.filter_append]
        cases hb : backs I s x <;> simp [hb]
      have hxn : x ∉ L.take k := by
        intro hm
        have hnd := rises_nodupS Hrise.out
        obtain ⟨j, hj, hjx⟩ := List.getElem_of_mem hm
        rw [List.length_take] at hj
        rw [List.getElem_take] at hjx
        obtain ⟨hkl, hkx⟩ := List.getElem?_eq_some_iff.1 hx
        have := (List.getElem_inj hnd).1 (hjx.trans hkx.symm)
        omega
      cases hfo : s.off x with
      | none => rw [hfo] at hin; cases hin
      | some o =>
        have hbk : backs I s x = inI I o.to := by unfold backs; rw [hfo]
        have hoW : (backS s ((L.take k).filter (backs I s))).off x = some o := by
          show (if hasL ((L.take k).filter (backs I s)) x then none else s.off x) = some o
          rw [if_neg (by rw [hasL_true]; exact fun h => hxn (List.mem_filter.1 h).1)]
          exact hfo
        generalize (L.take k).filter (backs I s) = W at hown hG hst hoW
        have k2 : wr.cell? ⟨g, 2, none⟩ = some (.map (some om)) := hG.hb.cell 2
        have gl := hG.hb.lt
        have q1 := hG.ho.lookS Try.underlying46 (z := .agg #[.int .i64 0, .int .i64 0, .int .i64 0]) (by kernel_rfl) hxs (u := some (ofV o)) (by rw [hoW]; rfl)
        simp only [ofV, Option.getD] at q1
        have q3 := field_to wr o.to o.epoch o.num
        have hrI := (Hr.out.non Hc3.out).chgN hC (fun h ad e => HA.out ad e h)
        have hcon := containsInt_any wr A q c I o.to hrI (by omega)
        rw [← hbk] at hcon
        have Hbk : Hid (backs I s x = inI I o.to) := hbk
        have HG := Lib.hid hG
        have hsO : ((backS s W).off x).isSome = true := by rw [hoW]; rfl
        have HsO := Lib.hid hsO
        clear hx hcx hin hxn hfo hbk hoW hrI hG hsO
        cases hb : backs I s x with
        | false =>
          rw [hb] at hcon hst
          have hst2 : Hid ((L.take (k + 1)).filter (backs I s) = W) := by show _ = _; rw [hst]; simp
          clear hst hb
          go_wp2_with fail
          refine hcon.mono ?_
          rintro e w5 ⟨rfl, rfl⟩
          clear hcon
          go_wp2_with fail
          go_roundw
          case rel => exact ⟨k + 1, m, ns2, no2, A2, c2, by omega, by omega, by go_num, rfl, by rw [hst2.out]; exact hown, by omega, hno2, by rw [hst2.out]; exact HG.out, hC⟩
          case measure => simp [intOf]; omega
        | true =>
          rw [hb] at hcon hst
          have hst2 : Hid ((L.take (k + 1)).filter (backs I s) = W ++ [x]) := by show _ = _; rw [hst]; simp
          have hog : g ≠ om := fun e => HG.out.ho.apart HG.out.hb e.symm
          have hsg : g ≠ sm := fun e => HG.out.hs.apart HG.out.hb e.symm
          have hvF : ∀ b, (Value.slice A2 m c2).ownBlock = some b → ¬ F b := fun b h h2 => by have := (hown.lt h).1; have := hFw _ h2; have := Hc3.out.size; omega
          have Hvf := Lib.hid hvF
          clear hst hb hvF
          go_wp2_with fail
          refine hcon.mono ?_
          rintro e w5 ⟨rfl, rfl⟩
          clear hcon
          go_wp2_with (first
            | (at_delete; refine wp_delete_Mp (K := nmKey) rfl (.tmp 31) (.tmp 32) 46 rfl HG.out.ho Try.underlying46 rfl (b := x) hxs rfl ?_; intro w6 hm6 hc6; have hb6 := HG.out.hb.chg hc6 hog; have hs6 := HG.out.hs.chg hc6 (fun e => HG.out.ne e); have k0 : w6.cell? ⟨g, 0, none⟩ = some (.map (some sm)) := hb6.cell 0; have gl6 := hb6.lt; have hC6 : Chg F w3 w6 := hC.trans2 hc6 (fun b e => .inl (by rw [show b = om from e]; exact HG.out.Fo)); have hown6 := hown.chg hc6 (fun b hb e => Hvf.out b hb (by rw [show b = om from e]; exact HG.out.Fo)); rw [of_del, backS_off] at hm6; clear hc6)
            | (at_mapUpdate; refine wp_store_Mp (K := nmKey) rfl (.tmp 36) (.tmp 37) (.const (.bool true)) 45 rfl hs6 Try.underlying45 (by unfold maxLen; omega) rfl (b := x) hxs rfl (u := .bool true) rfl ?_; intro w7 hm7 hc7; have hC7 : Chg F w3 w7 := hC6.trans2 hc7 (fun b e => .inl (by rw [show b = sm from e]; exact HG.out.Fs)); have hown7 := hown6.chg hc7 (fun b hb e => Hvf.out b hb (by rw [show b = sm from e]; exact HG.out.Fs)); have hz7 := hC7.size; have hb7 := hb6.chg hc7 hsg; have hm67 := hm6.chg hc7 (fun e => HG.out.ne e.symm); have hl7 : ∀ b, F b → b < w7.heap.size := (fun b hb => by have h3 := hC7.size; have h4 := H.out.lt b hb; have h5 := Hc3.out.size; omega); clear hc7 hm6 hb6 hs6 k0)
            | (at_builtin; refine appR1 (K := rkI) rfl (.tmp 38) (.tmp 40) rfl hown7 rfl (cs := #[.string x]) rfl rfl (svI_one [x]) ?_ ?_ ?_; (next => omega); (next => exact hz7); intro v8 w8 h8 hc8 hv8; obtain ⟨A8, c8, rfl, _⟩ := h8.open_))
          rw [inB_set, backS_has] at hm7
          have hno6 : (if (((backS s W).off x).map ofV).isSome then no2 - 1 else no2) ≤ no := by split <;> omega
          generalize (if (((backS s W).off x).map ofV).isSome then no2 - 1 else no2) = no6 at hm67 hno6
          have hns7 : (if (inB (backS s W).has x).isSome then ns2 else ns2 + 1) ≤ ns2 + 1 := by split <;> omega
          generalize (if (inB (backS s W).has x).isSome then ns2 else ns2 + 1) = ns7 at hm7 hns7
          have hG7 : Gv w7 F g sm om ns7 no6 (backS s (W ++ [x])) := ⟨hb7, hm7, hm67, HG.out.ne, HG.out.Fg, HG.out.Fs, HG.out.Fo, hl7⟩
          have hC8 : Chg F w3 w8 := OwnR.chgApp hown7 hC7 (Nat.le_refl _) hc8
          have hG8 := hG7.chg hc8 (fun b hb e => Hvf.out b e hb)
          have h9 : OwnR rkI w8 w3.heap.size (.slice A8 (m + 1) c8) (m + 1) (sv ((L.take (k + 1)).filter (backs I s))) := by
            rw [hst2.out, show sv (W ++ [x]) = sv W ++ (#[.string x] : Array Value).toList by simp [sv]]
            exact h8
          rw [← hst2.out] at hG8
          go_roundw
          case rel => exact ⟨k + 1, m + 1, ns7, no6, A8, c8, by omega, by omega, by go_num, rfl, h9, by omega, hno6, hG8, hC8⟩
          case measure => simp [intOf]; omega
    · have hst : L.take k = L := List.take_of_length_le (by have := Hql.out; omega)
      rw [hst] at hown hG
      have hW : ∀ x, x ∈ L.filter (backs I s) ↔ backs I s x = true := fun x => by
        rw [List.mem_filter, Hmem.out]
        refine ⟨fun h => h.2, fun h => ⟨?_, h⟩⟩
        unfold backs at h
        cases hk : s.off x with
        | none => rw [hk] at h; cases h
        | some o => rfl
      have HW := Lib.hid hW
      clear hst hW
      have hlen : m = (L.filter (backs I s)).length := by have := hown.len; rw [show (sv (L.filter (backs I s))).length = (L.filter (backs I s)).length from List.length_map ..] at this; exact (by simpa [rkI] using this.symm)
      have Hlen := Lib.hid hlen
      clear hlen
      go_wp2_with fail
      go_ret
      exact ⟨A2, m, c2, L.filter (backs I s), rfl, Hrise.out.filter _, HW.out, Hlen.out, by have := Hq3.out; omega, hown.mono Hc3.out.size, ⟨ns2, no2, by have := Hq3.out; omega, hno2, hG⟩, (Hc3.out.of_non).trans2 hC (fun b e => .inl e)⟩
end Go.Proofs.Ytflaliomkfbagaa
