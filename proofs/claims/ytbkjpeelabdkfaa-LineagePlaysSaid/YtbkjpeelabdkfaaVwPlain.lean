/-
  Rows of members (api.Member); slices.IndexFunc over them; views as plain words.
-/
import Derived.Test.YtbkjpeelabdkfaaRows
import Derived.Test.YtbkjpeelabdkfaaFlat
import Derived.Test.YtbkjpeelabdkfaaWin
import Derived.Test.YtbkjpeelabdkfaaGet
import Derived.Test.YtbkjpeelabdkfaaLaw
namespace Go.Proofs.Ytbkjpeelabdkfaa
open Go.RowKit
set_option linter.unusedVariables false
set_option linter.unusedSimpArgs false

abbrev rkM : RowKind Try.prog where
  t := 32
  e := 68
  z := .agg #[.int .i64 0, .int .i64 0]
  size := 2
  bytes := 16
  ht := Try.underlying32
  info := by kernel_rfl
  hz := rfl
  hs := by decide
  hb := by decide
/-- A member: a node, a life. -/
abbrev Mb := Int × Int
def cellM (m : Mb) : List Value := [.int .i64 m.1, .int .i64 m.2]
def mv (L : List Mb) : List Value := L.flatMap cellM
theorem cellM_len (m : Mb) : (cellM m).length = 2 := rfl
theorem cellM_one (m : Mb) : ∀ u ∈ cellM m, u.oneCell' = true := by
  intro u hu
  simp only [cellM, List.mem_cons, List.not_mem_nil, or_false] at hu
  rcases hu with rfl | rfl <;> rfl
theorem mv_one (L : List Mb) : ∀ u ∈ mv L, u.oneCell' = true := flat_one cellM_one L
theorem mv_snoc (L : List Mb) (m : Mb) : mv (L ++ [m]) = mv L ++ cellM m := flat_snoc _ _ _
theorem mv_len {w : World} {A : Option Addr} {n : Nat} {L : List Mb} (h : Rds w 2 A n (mv L)) : n = L.length := flat_eq cellM_len (by decide) h
theorem Rds.getM {w : World} {A : Option Addr} {n : Nat} {L : List Mb} (h : Rds w 2 A n (mv L)) {k : Nat} (hk : k < n) :
    ∃ ad m, A = some ad ∧ L[k]? = some m ∧ w.cell? (ad.add (k * 2)) = some (.int .i64 m.1) ∧ w.cell? ⟨(ad.add (k * 2)).block, (ad.add (k * 2)).off + 1, none⟩ = some (.int .i64 m.2) := by
  obtain ⟨ad, m, h1, h2, h3, h4⟩ := h.getN cellM_len (by decide) hk
  exact ⟨ad, m, h1, h2, h3 _ rfl, h4 0 _ rfl⟩
/-- The first place of which something holds; -1: there is none. -/
def fIdx {α : Type} (L : List α) (p : α → Bool) : Int := match L.findIdx? p with | some k => (k : Int) | none => -1
theorem fIdx_some {α : Type} {L : List α} {p : α → Bool} {k : Nat} (hno : ∀ j x, j < k → L[j]? = some x → p x = false) {x : α} (hx : L[k]? = some x) (hp : p x = true) : fIdx L p = k := by
  have h : L.findIdx? p = some k := by
    rw [List.findIdx?_eq_some_iff_getElem]
    obtain ⟨hk, hx2⟩ := List.getElem?_eq_some_iff.1 hx
    refine ⟨hk, by rw [hx2]; exact hp, fun j hj => ?_⟩
    have := hno j L[j] hj (List.getElem?_eq_getElem _)
    rw [this]
    exact Bool.false_ne_true
  unfold fIdx
  rw [h]
theorem fIdx_none {α : Type} {L : List α} {p : α → Bool} (hno : ∀ x ∈ L, p x = false) : fIdx L p = -1 := by
  unfold fIdx
  rw [List.findIdx?_eq_none_iff.2 hno]
theorem fIdx_neg {α : Type} (L : List α) (p : α → Bool) : decide (fIdx L p < 0) = !L.any p := by
  cases h : L.findIdx? p with
  | none =>
    have h2 : fIdx L p = -1 := by unfold fIdx; rw [h]
    have : L.any p = false := by
      rw [List.any_eq_false]
      intro x hx
      have := List.findIdx?_eq_none_iff.1 h x hx
      simp [this]
    rw [h2, this]
    rfl
  | some k =>
    have h2 : fIdx L p = k := by unfold fIdx; rw [h]
    have : L.any p = true := by
      obtain ⟨hk, hp, _⟩ := List.findIdx?_eq_some_iff_getElem.1 h
      exact List.any_eq_true.2 ⟨_, List.getElem_mem hk, hp⟩
    rw [h2, this]
    simp
theorem fIdx_ge {α : Type} (L : List α) (p : α → Bool) : decide (0 ≤ fIdx L p) = L.any p := by
  have h := fIdx_neg L p
  cases hb : L.any p with
  | true =>
    rw [hb] at h
    have : ¬ fIdx L p < 0 := by simpa using h
    exact decide_eq_true (by omega)
  | false =>
    rw [hb] at h
    have : fIdx L p < 0 := by simpa using h
    exact decide_eq_false (by omega)
theorem enters {P : Program} {f : FuncId} {fn : Func} {c : Code} (hf : P.funcs[f]? = some fn) (hname : (fn.name == "runtime.NumGoroutine") = false) (hb : fn.body = some c) (args : Array Value) (w : World) :
    (callFunc f args).run P w = .ok (.enter f args) w := by
  have h1 : fn.name ≠ "runtime.NumGoroutine" := by simpa using hname
  simp [callFunc, hf, h1, hb]
set_option maxRecDepth 100000 in
/-- slices.IndexFunc over members, of a function that is handed over with one thing that it holds. -/
theorem indexFuncM_any (w : World) (A : Option Addr) (n c : Nat) (L : List Mb) (fid : Nat) (v : Value) (p : Mb → Bool) (h1 : Rds w 2 A n (mv L)) (hn : n ≤ 9223372036854775807)
    (hcf : ∀ (args : Array Value) (w : World), (callFunc fid args).run Try.prog w = .ok (.enter fid args) w) (hf : Hid (∀ w2 m, Chg Non w w2 → m ∈ L → Calls Try.prog fid #[.agg #[.int .i64 m.1, .int .i64 m.2], v] w2 fun e w3 => e = .returned (.bool (p m)) ∧ Chg Non w2 w3)) :
    Calls Try.prog 44 #[.slice A n c, .func (.func fid) #[] #[v]] w fun e w2 => e = .returned (.int .i64 (fIdx L p)) ∧ Chg Non w w2 := by
  have H1 := Lib.hid h1
  clear h1
  go_enter Try.func44, Try.ntmps44
  go_wp2_with fail
  go_loopw [8] (fun i wr => ∃ k : Nat, k ≤ n ∧ i = .int .i64 k ∧ Hid (∀ j x, j < k → L[j]? = some x → p x = false) ∧ Chg Non w wr) (fun i _ => n - (intOf i).toNat)
  case atStart => exact ⟨0, Nat.zero_le _, rfl, (fun j x h => by omega), Chg.refl _ _⟩
  case round =>
    obtain ⟨k, hk, rfl, hno, hC⟩ := hrel
    by_cases hlt : k < n
    · obtain ⟨ad, m, rfl, hx, hc0, hc1⟩ := H1.out.getM hlt
      have a0 := hC.cell hc0 id
      have a1 := hC.cell hc1 id
      have hm := List.mem_of_getElem? hx
      have b1 : (0 : Int) ≤ (k : Int) := by omega
      have b2 : (k : Int) < n := by omega
      cases hp : p m with
      | true =>
        have hres := fIdx_some hno.out hx hp
        have Hres := Lib.hid hres
        have Hp := Lib.hid hp
        clear hres hp hx hno hc0 hc1
        go_wp2_with fail
        refine (hf.out _ m hC hm).mono ?_
        rintro e w3 ⟨rfl, hc3⟩
        rw [Hp.out]
        go_wp2_with fail
        go_ret
        exact ⟨by rw [Hres.out]; rfl, hC.non hc3⟩
      | false =>
        have hno2 : Hid (∀ j x, j < k + 1 → L[j]? = some x → p x = false) := by
          intro j x hj hx2
          rcases Nat.lt_or_ge j k with h | h
          · exact hno.out j x h hx2
          · obtain rfl : j = k := by omega
            rw [hx] at hx2
            cases hx2
            exact hp
        have Hp := Lib.hid hp
        clear hp hx hno hc0 hc1
        go_wp2_with fail
        refine (hf.out _ m hC hm).mono ?_
        rintro e w3 ⟨rfl, hc3⟩
        rw [Hp.out]
        go_wp2_with fail
        go_roundw
        case rel => exact ⟨k + 1, by omega, by go_num, hno2, hC.non hc3⟩
        case measure => simp [intOf]; omega
    · have hres : fIdx L p = -1 := by
        refine fIdx_none fun x hx => ?_
        obtain ⟨j, hj⟩ := List.getElem?_of_mem hx
        have hjl := (List.getElem?_eq_some_iff.1 hj).1
        have hl := mv_len H1.out
        exact hno.out j x (by omega) hj
      have Hres := Lib.hid hres
      clear hres hno
      go_wp2_with fail
      go_ret
      exact ⟨by rw [Hres.out]; rfl, hC⟩
/-- Has a row of members a node? -/
def hasN (L : List Mb) (x : Int) : Bool := L.any fun m => m.1 == x
def countB (n : Int) : Bool := decide (1 ≤ n) && decide (n ≤ 2147483647)
def nodeB (n : Int) : Bool := decide (0 ≤ n) && decide (n < 16)
/-- Members that rise from behind a number on, and can be. -/
def okFrom : Int → List Mb → Bool
  | _, [] => true
  | last, m :: r => decide (last < m.1) && nodeB m.1 && countB m.2 && okFrom m.1 r
/-- A view that can be. -/
def mayB (ep : Int) (L : List Mb) : Bool := okFrom (-1) L && countB ep && (match L with | [] => false | m :: _ => m.1 == 0)
theorem okFrom_drop {L : List Mb} {k : Nat} {m : Mb} (h : L[k]? = some m) (last : Int) : okFrom last (L.drop k) = (decide (last < m.1) && nodeB m.1 && countB m.2 && okFrom m.1 (L.drop (k + 1))) := by
  obtain ⟨hk, hm⟩ := List.getElem?_eq_some_iff.1 h
  rw [List.drop_eq_getElem_cons hk, hm]
  rfl
/-- Those that stay. -/
abbrev kept (p : Mb → Bool) (L : List Mb) : List Mb := L.filter fun m => !p m
theorem kept_step {p : Mb → Bool} {L : List Mb} {j : Nat} {m : Mb} (h : L[j]? = some m) : kept p (L.take (j + 1)) = kept p (L.take j) ++ (if p m then [] else [m]) := by
  rw [List.take_add_one, h]
  simp only [kept, List.filter_append, Option.toList_some]
  cases hp : p m <;> simp [hp]
theorem kept_all {p : Mb → Bool} {L : List Mb} (h : ∀ m ∈ L, p m = false) : kept p L = L := by
  rw [List.filter_eq_self]
  intro m hm
  rw [h m hm]
  rfl
theorem kept_le (p : Mb → Bool) (L : List Mb) (j : Nat) : (kept p (L.take j)).length ≤ j := Nat.le_trans (List.length_filter_le _ _) (List.length_take_le _ _)
/-- The first view's members. -/
def firstM (k : Nat) : List Mb := (List.range k).map fun (i : Nat) => ((i : Int), (1 : Int))
theorem firstM_step (k : Nat) : firstM (k + 1) = firstM k ++ [((k : Int), (1 : Int))] := by simp [firstM, List.range_succ]
theorem firstM_len (k : Nat) : (firstM k).length = k := by simp [firstM]
/-- What view.Without refuses: a view that can't be, no nodes, the root, one that is not there. -/
def outB (L : List Mb) (x : Int) : Bool := x == 0 || !hasN L x
def badB (ep : Int) (L : List Mb) (N : List Int) : Bool := !mayB ep L || N.isEmpty || N.any (outB L)
theorem may_count {ep : Int} {L : List Mb} (h : mayB ep L = true) : 1 ≤ ep ∧ ep ≤ 2147483647 := by
  unfold mayB countB at h
  simp only [Bool.and_eq_true, decide_eq_true_eq] at h
  exact h.1.2
/-- Is a number in a list? -/
def inI (L : List Int) (x : Int) : Bool := L.any fun y => x == y
/-- Are two members one? -/
def sameM (a b : Mb) : Bool := a.1 == b.1 && a.2 == b.2
theorem sameM_eq (a b : Mb) : sameM a b = decide (a = b) := by
  obtain ⟨a1, a2⟩ := a
  obtain ⟨b1, b2⟩ := b
  unfold sameM
  by_cases h1 : a1 = b1 <;> by_cases h2 : a2 = b2 <;> simp [h1, h2]
def inM (L : List Mb) (a b : Int) : Bool := L.any fun m => sameM (a, b) m
theorem any_step {α : Type} {L : List α} {p : α → Bool} {k : Nat} {m : α} (h : L[k]? = some m) : (L.take (k + 1)).any p = ((L.take k).any p || p m) := by
  rw [List.take_add_one, h]
  simp
theorem any_at {α : Type} {L : List α} {p : α → Bool} {k : Nat} {m : α} (h : L[k]? = some m) (hp : p m = true) : L.any p = true := List.any_eq_true.2 ⟨m, List.mem_of_getElem? h, hp⟩
theorem kept_three : kept (fun m => inI [1] m.1) (firstM 3) = [(0, 1), (2, 1)] := by decide
end Go.Proofs.Ytbkjpeelabdkfaa
