/-
  Rows of members (api.Member); functions that are handed over: slices.IndexFunc, slices.ContainsFunc; view.at, and whom view.Without refuses.
-/
import Derived.Test.YtojlglkefiddnaaRows
import Derived.Test.YtojlglkefiddnaaFlat
import Derived.Test.YtojlglkefiddnaaWin
import Derived.Test.YtojlglkefiddnaaGet
import Derived.Test.YtojlglkefiddnaaLaw
namespace Go.Proofs.Ytojlglkefiddnaa
open Go.RowKit
set_option linter.unusedVariables false
set_option linter.unusedSimpArgs false

abbrev rkM : RowKind Try.prog where
  t := 24
  e := 43
  z := .agg #[.int .i64 0, .int .i64 0]
  size := 2
  bytes := 16
  ht := Try.underlying24
  info := by kernel_rfl
  hz := rfl
  hs := by decide
  hb := by decide

/-- A member: a node, a life. -/
abbrev Mb := Int × Int
def cellM (m : Mb) : List Value := [.int .i64 m.1, .int .i64 m.2]
def mv (L : List Mb) : List Value := L.flatMap cellM
theorem cellM_len (m : Mb) : (cellM m).length = 2 := rfl
theorem cellM_one (m : Mb) : ∀ u ∈ cellM m, u.oneCell' = true := by
  intro u hu
  simp only [cellM, List.mem_cons, List.not_mem_nil, or_false] at hu
  rcases hu with rfl | rfl <;> rfl
theorem mv_one (L : List Mb) : ∀ u ∈ mv L, u.oneCell' = true := flat_one cellM_one L
theorem mv_snoc (L : List Mb) (m : Mb) : mv (L ++ [m]) = mv L ++ cellM m := flat_snoc _ _ _
theorem mv_len {w : World} {A : Option Addr} {n : Nat} {L : List Mb} (h : Rds w 2 A n (mv L)) : n = L.length := flat_eq cellM_len (by decide) h
theorem Rds.getM {w : World} {A : Option Addr} {n : Nat} {L : List Mb} (h : Rds w 2 A n (mv L)) {k : Nat} (hk : k < n) :
    ∃ ad m, A = some ad ∧ L[k]? = some m ∧ w.cell? (ad.add (k * 2)) = some (.int .i64 m.1) ∧ w.cell? ⟨(ad.add (k * 2)).block, (ad.add (k * 2)).off + 1, none⟩ = some (.int .i64 m.2) := by
  obtain ⟨ad, m, h1, h2, h3, h4⟩ := h.getN cellM_len (by decide) hk
  exact ⟨ad, m, h1, h2, h3 _ rfl, h4 0 _ rfl⟩

/-- The first place of which something holds; -1: there is none. -/
def fIdx {α : Type} (L : List α) (p : α → Bool) : Int := match L.findIdx? p with | some k => (k : Int) | none => -1
theorem fIdx_some {α : Type} {L : List α} {p : α → Bool} {k : Nat} (hno : ∀ j x, j < k → L[j]? = some x → p x = false) {x : α} (hx : L[k]? = some x) (hp : p x = true) : fIdx L p = k := by
  have h : L.findIdx? p = some k := by
    rw [List.findIdx?_eq_some_iff_getElem]
    obtain ⟨hk, hx2⟩ := List.getElem?_eq_some_iff.1 hx
    refine ⟨hk, by rw [hx2]; exact hp, fun j hj => ?_⟩
    have := hno j L[j] hj (List.getElem?_eq_getElem _)
    rw [this]
    exact Bool.false_ne_true
  unfold fIdx
  rw [h]
theorem fIdx_none {α : Type} {L : List α} {p : α → Bool} (hno : ∀ x ∈ L, p x = false) : fIdx L p = -1 := by
  unfold fIdx
  rw [List.findIdx?_eq_none_iff.2 hno]
theorem fIdx_neg {α : Type} (L : List α) (p : α → Bool) : decide (fIdx L p < 0) = !L.any p := by
  cases h : L.findIdx? p with
  | none =>
    have h2 : fIdx L p = -1 := by unfold fIdx; rw [h]
    have : L.any p = false := by
      rw [List.any_eq_false]
      intro x hx
      have := List.findIdx?_eq_none_iff.1 h x hx
      simp [this]
    rw [h2, this]
    rfl
  | some k =>
    have h2 : fIdx L p = k := by unfold fIdx; rw [h]
    have : L.any p = true := by
      obtain ⟨hk, hp, _⟩ := List.findIdx?_eq_some_iff_getElem.1 h
      exact List.any_eq_true.2 ⟨_, List.getElem_mem hk, hp⟩
    rw [h2, this]
    simp
theorem fIdx_ge {α : Type} (L : List α) (p : α → Bool) : decide (0 ≤ fIdx L p) = L.any p := by
  have h := fIdx_neg L p
  cases hb : L.any p with
  | true =>
    rw [hb] at h
    have : ¬ fIdx L p < 0 := by simpa using h
    exact decide_eq_true (by omega)
  | false =>
    rw [hb] at h
    have : fIdx L p < 0 := by simpa using h
    exact decide_eq_false (by omega)

theorem enters {P : Program} {f : FuncId} {fn : Func} {c : Code} (hf : P.funcs[f]? = some fn) (hname : (fn.name == "runtime.NumGoroutine") = false) (hb : fn.body = some c) (args : Array Value) (w : World) :
    (callFunc f args).run P w = .ok (.enter f args) w := by
  have h1 : fn.name ≠ "runtime.NumGoroutine" := by simpa using hname
  simp [callFunc, hf, h1, hb]

set_option maxRecDepth 100000 in
/-- slices.IndexFunc over members, of a function that is handed over with one thing that it holds. -/
theorem indexFuncM_any (w : World) (A : Option Addr) (n c : Nat) (L : List Mb) (fid : Nat) (v : Value) (p : Mb → Bool) (h1 : Rds w 2 A n (mv L)) (hn : n ≤ 9223372036854775807)
    (hcf : ∀ (args : Array Value) (w : World), (callFunc fid args).run Try.prog w = .ok (.enter fid args) w) (hf : Hid (∀ w2 m, Chg Non w w2 → m ∈ L → Calls Try.prog fid #[.agg #[.int .i64 m.1, .int .i64 m.2], v] w2 fun e w3 => e = .returned (.bool (p m)) ∧ Chg Non w2 w3)) :
    Calls Try.prog 41 #[.slice A n c, .func (.func fid) #[] #[v]] w fun e w2 => e = .returned (.int .i64 (fIdx L p)) ∧ Chg Non w w2 := by
  have H1 := Lib.hid h1
  clear h1
  go_enter Try.func41, Try.ntmps41
  go_wp2_with fail
  go_loopw [8] (fun i wr => ∃ k : Nat, k ≤ n ∧ i = .int .i64 k ∧ Hid (∀ j x, j < k → L[j]? = some x → p x = false) ∧ Chg Non w wr) (fun i _ => n - (intOf i).toNat)
  case atStart => exact ⟨0, Nat.zero_le _, rfl, (fun j x h => by omega), Chg.refl _ _⟩
  case round =>
    obtain ⟨k, hk, rfl, hno, hC⟩ := hrel
    by_cases hlt : k < n
    · obtain ⟨ad, m, rfl, hx, hc0, hc1⟩ := H1.out.getM hlt
      have a0 := hC.cell hc0 id
      have a1 := hC.cell hc1 id
      have hm := List.mem_of_getElem? hx
      have b1 : (0 : Int) ≤ (k : Int) := by omega
      have b2 : (k : Int) < n := by omega
      cases hp : p m with
      | true =>
        have hres := fIdx_some hno.out hx hp
        have Hres := Lib.hid hres
        have Hp := Lib.hid hp
        clear hres hp hx hno hc0 hc1
        go_wp2_with fail
        refine (hf.out _ m hC hm).mono ?_
        rintro e w3 ⟨rfl, hc3⟩
        rw [Hp.out]
        go_wp2_with fail
        go_ret
        exact ⟨by rw [Hres.out]; rfl, hC.non hc3⟩
      | false =>
        have hno2 : Hid (∀ j x, j < k + 1 → L[j]? = some x → p x = false) := by
          intro j x hj hx2
          rcases Nat.lt_or_ge j k with h | h
          · exact hno.out j x h hx2
          · obtain rfl : j = k := by omega
            rw [hx] at hx2
            cases hx2
            exact hp
        have Hp := Lib.hid hp
        clear hp hx hno hc0 hc1
        go_wp2_with fail
        refine (hf.out _ m hC hm).mono ?_
        rintro e w3 ⟨rfl, hc3⟩
        rw [Hp.out]
        go_wp2_with fail
        go_roundw
        case rel => exact ⟨k + 1, by omega, by go_num, hno2, hC.non hc3⟩
        case measure => simp [intOf]; omega
    · have hres : fIdx L p = -1 := by
        refine fIdx_none fun x hx => ?_
        obtain ⟨j, hj⟩ := List.getElem?_of_mem hx
        have hjl := (List.getElem?_eq_some_iff.1 hj).1
        have hl := mv_len H1.out
        exact hno.out j x (by omega) hj
      have Hres := Lib.hid hres
      clear hres hno
      go_wp2_with fail
      go_ret
      exact ⟨by rw [Hres.out]; rfl, hC⟩

set_option maxRecDepth 100000 in
/-- The same over numbers. -/
theorem indexFuncI_any (w : World) (A : Option Addr) (n c : Nat) (L : List Int) (fid : Nat) (v : Value) (p : Int → Bool) (h1 : Rds w 1 A n (iv L)) (hn : n ≤ 9223372036854775807)
    (hcf : ∀ (args : Array Value) (w : World), (callFunc fid args).run Try.prog w = .ok (.enter fid args) w) (hf : Hid (∀ w2 m, Chg Non w w2 → m ∈ L → Calls Try.prog fid #[.int .i64 m, v] w2 fun e w3 => e = .returned (.bool (p m)) ∧ Chg Non w2 w3)) :
    Calls Try.prog 40 #[.slice A n c, .func (.func fid) #[] #[v]] w fun e w2 => e = .returned (.int .i64 (fIdx L p)) ∧ Chg Non w w2 := by
  have H1 := Lib.hid h1
  clear h1
  go_enter Try.func40, Try.ntmps40
  go_wp2_with fail
  go_loopw [8] (fun i wr => ∃ k : Nat, k ≤ n ∧ i = .int .i64 k ∧ Hid (∀ j x, j < k → L[j]? = some x → p x = false) ∧ Chg Non w wr) (fun i _ => n - (intOf i).toNat)
  case atStart => exact ⟨0, Nat.zero_le _, rfl, (fun j x h => by omega), Chg.refl _ _⟩
  case round =>
    obtain ⟨k, hk, rfl, hno, hC⟩ := hrel
    by_cases hlt : k < n
    · obtain ⟨ad, m, rfl, hx, hc0⟩ := H1.out.getI hlt
      have a0 := hC.cell hc0 id
      have hm := List.mem_of_getElem? hx
      have b1 : (0 : Int) ≤ (k : Int) := by omega
      have b2 : (k : Int) < n := by omega
      cases hp : p m with
      | true =>
        have hres := fIdx_some hno.out hx hp
        have Hres := Lib.hid hres
        have Hp := Lib.hid hp
        clear hres hp hx hno hc0
        go_wp2_with fail
        refine (hf.out _ m hC hm).mono ?_
        rintro e w3 ⟨rfl, hc3⟩
        rw [Hp.out]
        go_wp2_with fail
        go_ret
        exact ⟨by rw [Hres.out]; rfl, hC.non hc3⟩
      | false =>
        have hno2 : Hid (∀ j x, j < k + 1 → L[j]? = some x → p x = false) := by
          intro j x hj hx2
          rcases Nat.lt_or_ge j k with h | h
          · exact hno.out j x h hx2
          · obtain rfl : j = k := by omega
            rw [hx] at hx2
            cases hx2
            exact hp
        have Hp := Lib.hid hp
        clear hp hx hno hc0
        go_wp2_with fail
        refine (hf.out _ m hC hm).mono ?_
        rintro e w3 ⟨rfl, hc3⟩
        rw [Hp.out]
        go_wp2_with fail
        go_roundw
        case rel => exact ⟨k + 1, by omega, by go_num, hno2, hC.non hc3⟩
        case measure => simp [intOf]; omega
    · have hres : fIdx L p = -1 := by
        refine fIdx_none fun x hx => ?_
        obtain ⟨j, hj⟩ := List.getElem?_of_mem hx
        have hjl := (List.getElem?_eq_some_iff.1 hj).1
        have hl := H1.out.lenMap (f := fun n : Int => .int .i64 n)
        exact hno.out j x (by omega) hj
      have Hres := Lib.hid hres
      clear hres hno
      go_wp2_with fail
      go_ret
      exact ⟨by rw [Hres.out]; rfl, hC⟩

theorem containsFuncI_any (w : World) (A : Option Addr) (n c : Nat) (L : List Int) (fid : Nat) (v : Value) (p : Int → Bool) (h1 : Rds w 1 A n (iv L)) (hn : n ≤ 9223372036854775807)
    (hcf : ∀ (args : Array Value) (w : World), (callFunc fid args).run Try.prog w = .ok (.enter fid args) w) (hf : Hid (∀ w2 m, Chg Non w w2 → m ∈ L → Calls Try.prog fid #[.int .i64 m, v] w2 fun e w3 => e = .returned (.bool (p m)) ∧ Chg Non w2 w3)) :
    Calls Try.prog 25 #[.slice A n c, .func (.func fid) #[] #[v]] w fun e w2 => e = .returned (.bool (L.any p)) ∧ Chg Non w w2 := by
  have hg := Lib.hid (fIdx_ge L p)
  go_enter Try.func25, Try.ntmps25
  go_wp2_with fail
  refine (indexFuncI_any w A n c L fid v p h1 hn hcf hf).mono ?_
  rintro e w2 ⟨rfl, hc2⟩
  generalize fIdx L p = q at hg ⊢
  go_wp2_with fail
  go_ret
  exact ⟨by rw [← hg.out]; rfl, hc2⟩

theorem at1_any (w : World) (a b : Int) (p : Nat) (n : Int) (hp : Blk w p 3 #[.int .i64 n]) :
    Calls Try.prog 42 #[.agg #[.int .i64 a, .int .i64 b], .pointer (some ⟨p, 0, none⟩)] w fun e w2 => e = .returned (.bool (a == n)) ∧ Chg Non w w2 := by
  have c0 := hp.cell 0
  simp only [List.getElem?_toArray, List.getElem?_cons_zero] at c0
  have hlt := hp.lt
  clear hp
  go_enter Try.func42, Try.ntmps42
  go_wp2_with fail
  go_ret
  exact ⟨rfl, (Chg.refl _ _).alloc _⟩

/-- A view's value: its epoch, its members. -/
def VwIs (w : World) (v : Value) (ep : Int) (L : List Mb) : Prop := ∃ A n c, v = .agg #[.int .i64 ep, .slice A n c] ∧ Rds w 2 A n (mv L) ∧ n ≤ c ∧ c ≤ maxLen

theorem viewAt_any (w : World) (ep : Int) (A : Option Addr) (n c : Nat) (L : List Mb) (x : Int) (h1 : Rds w 2 A n (mv L)) (hn : n ≤ 9223372036854775807) :
    Calls Try.prog 27 #[.agg #[.int .i64 ep, .slice A n c], .int .i64 x] w fun e w2 => e = .returned (.int .i64 (fIdx L fun m => m.1 == x)) ∧ Chg Non w w2 := by
  have hC : Chg Non w ((w.alloc (.cells #[.int .i64 ep, .slice A n c] 26)).alloc (.cells #[.int .i64 x] 3)) := ((Chg.refl _ _).alloc _).alloc _
  have hb : Blk ((w.alloc (.cells #[.int .i64 ep, .slice A n c] 26)).alloc (.cells #[.int .i64 x] 3)) (w.heap.size + 1) 3 #[.int .i64 x] := by
    have := Blk.new (w.alloc (.cells #[.int .i64 ep, .slice A n c] 26)) 3 #[.int .i64 x]
    simpa using this
  have hmf : ∀ (fn : Fn) (first cap : Array Value) (w : World), (Instr.makeFunc fn first cap).run Try.prog w = .ok (.func fn first cap) w := fun _ _ _ _ => rfl
  go_enter Try.func27, Try.ntmps27
  go_wp2_with fail
  refine (indexFuncM_any _ A n c L 42 _ _ (h1.non hC) hn (enters Try.func42 (by kernel_rfl) rfl) (fun w2 m hc2 _ => at1_any w2 m.1 m.2 _ x (hb.non hc2))).mono ?_
  rintro e w2 ⟨rfl, hc2⟩
  go_wp2_with fail
  go_ret
  exact ⟨rfl, hC.non hc2⟩

/-- Has a row of members a node? -/
def hasN (L : List Mb) (x : Int) : Bool := L.any fun m => m.1 == x

theorem without1_any (w : World) (x : Int) (pv : Nat) (ep : Int) (A : Option Addr) (n c : Nat) (L : List Mb) (hb : Blk w pv 26 #[.int .i64 ep, .slice A n c]) (h1 : Rds w 2 A n (mv L)) (hn : n ≤ 9223372036854775807) :
    Calls Try.prog 26 #[.int .i64 x, .pointer (some ⟨pv, 0, none⟩)] w fun e w2 => e = .returned (.bool (x == 0 || !hasN L x)) ∧ Chg Non w w2 := by
  have c0 := hb.cell 0
  have c1 := hb.cell 1
  simp only [List.getElem?_toArray, List.getElem?_cons_zero, List.getElem?_cons_succ] at c0 c1
  cases hx : x == 0 with
  | true =>
    go_enter Try.func26, Try.ntmps26
    go_wp2_with fail
    go_ret
    exact ⟨rfl, Chg.refl _ _⟩
  | false =>
    have hg := Lib.hid (fIdx_neg L fun m => m.1 == x)
    go_enter Try.func26, Try.ntmps26
    go_wp2_with fail
    refine (viewAt_any w ep A n c L x h1 hn).mono ?_
    rintro e w2 ⟨rfl, hc2⟩
    generalize fIdx L (fun m => m.1 == x) = q at hg ⊢
    go_wp2_with fail
    go_ret
    exact ⟨by unfold hasN; rw [← hg.out]; rfl, hc2⟩
end Go.Proofs.Ytojlglkefiddnaa
