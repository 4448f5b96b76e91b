/-
  The code of a job's functions: what an instruction takes off and lays on the stack, where it goes; depths that fit. Plain.
  Names of tasks: plain.
  Rising lists of names (texts, byte by byte): put in one by one, or sorted at once: plain Lean.
-/
import Derived.Test.YteinbdifncdaiaaTdBase
import Derived.Sort.EncStr
import Derived.Sort.KeysCollected
namespace Go.Proofs.Yteinbdifncdaiaa
open Go.RowKit
set_option linter.unusedVariables false
set_option linter.unusedSimpArgs false

structure Fn where
  nm : ByteArray
  args : Int
  locs : Int
  cA : Option Addr
  cn : Nat
  cc : Nat
  code : List (Int × Int)
structure Jb where
  fA : Option Addr
  fn : Nat
  fc : Nat
  F : List Fn
  main : Int
  aA : Option Addr
  an : Nat
  ac : Nat
  args : List Int
  fuel : Int
  tasks : Int
def cellF (f : Fn) : List Value := [.string f.nm, .int .i64 f.args, .int .i64 f.locs, .slice f.cA f.cn f.cc]
def cellI (i : Int × Int) : List Value := [.int .i64 i.1, .int .i64 i.2]
theorem cellF_len (f : Fn) : (cellF f).length = 4 := rfl
theorem cellI_len (i : Int × Int) : (cellI i).length = 2 := rfl
def jbC (j : Jb) : Array Value := #[.slice j.fA j.fn j.fc, .int .i64 j.main, .slice j.aA j.an j.ac, .int .i64 j.fuel, .int .i64 j.tasks]
def fnC (f : Fn) : Array Value := #[.string f.nm, .int .i64 f.args, .int .i64 f.locs, .slice f.cA f.cn f.cc]

/-! Instructions. -/
def hasN (op : Int) : Bool := op == 1 || op == 5 || op == 6 || op == 14 || op == 15 || op == 16
def argsAt (F : List Fn) (n : Int) : Int := ((F[n.toNat]?).map (·.args)).getD 0
def popsP (F : List Fn) (i : Int × Int) : Int :=
  if i.1 = 2 ∨ i.1 = 3 ∨ i.1 = 6 ∨ i.1 = 15 ∨ i.1 = 17 ∨ i.1 = 18 ∨ i.1 = 19 then 1
  else if i.1 = 4 ∨ (7 ≤ i.1 ∧ i.1 ≤ 13) then 2
  else if i.1 = 16 ∧ 0 ≤ i.2 ∧ i.2 < F.length then argsAt F i.2 else 0
def pushP (i : Int × Int) : Int :=
  if i.1 = 1 ∨ i.1 = 5 ∨ (7 ≤ i.1 ∧ i.1 ≤ 13) ∨ i.1 = 16 ∨ i.1 = 17 then 1
  else if i.1 = 3 ∨ i.1 = 4 then 2 else 0
def nextP (i : Int × Int) (at_ : Int) : List Int :=
  if i.1 < 1 ∨ 17 < i.1 then []
  else if i.1 = 14 then [i.2]
  else if i.1 = 15 ∧ i.2 ≠ at_ + 1 then [at_ + 1, i.2] else [at_ + 1]
/-- The depth behind an instruction. -/
def nAt (F : List Fn) (d : Int) (i : Int × Int) : Int := IntKind.i64.wrap (IntKind.i64.wrap (d - popsP F i) + pushP i)
def ArgsOk (F : List Fn) : Prop := ∀ f ∈ F, 0 ≤ f.args ∧ f.args ≤ 8
theorem pushP_bd (i : Int × Int) : 0 ≤ pushP i ∧ pushP i ≤ 2 := by
  unfold pushP
  split
  · omega
  · split <;> omega
theorem argsAt_bd {F : List Fn} (h : ArgsOk F) (n : Int) : 0 ≤ argsAt F n ∧ argsAt F n ≤ 8 := by
  unfold argsAt
  cases hf : F[n.toNat]? with
  | none => simp
  | some f => exact h f (List.mem_of_getElem? hf)
theorem popsP_bd {F : List Fn} (h : ArgsOk F) (i : Int × Int) : 0 ≤ popsP F i ∧ popsP F i ≤ 8 := by
  unfold popsP
  split
  · omega
  · split
    · omega
    · split
      · exact argsAt_bd h _
      · omega
theorem nAt_is {F : List Fn} (h : ArgsOk F) {d : Int} (h0 : 0 ≤ d) (h1 : d ≤ 1000000) (i : Int × Int) : nAt F d i = d - popsP F i + pushP i := by
  have h2 := popsP_bd h i
  have h3 := pushP_bd i
  unfold nAt
  rw [IntKind.wrap_i64 (d - popsP F i)]
  have : (d - popsP F i + 9223372036854775808) % 18446744073709551616 - 9223372036854775808 = d - popsP F i := by omega
  rw [this, IntKind.wrap_i64]
  omega
def InsOk (nF : Nat) (f : Fn) (i : Int × Int) : Prop :=
  1 ≤ i.1 ∧ i.1 ≤ 19 ∧ ((i.1 = 5 ∨ i.1 = 6) → 0 ≤ i.2 ∧ i.2 < f.locs) ∧ ((i.1 = 14 ∨ i.1 = 15) → 0 ≤ i.2 ∧ i.2 < f.code.length) ∧ (i.1 = 16 → 0 ≤ i.2 ∧ i.2 < nF)
/-- Where an instruction goes is no place ahead of the first. -/
theorem next_low {nF : Nat} {f : Fn} {i : Int × Int} (h : InsOk nF f i) {at_ t : Int} (ha : 0 ≤ at_) (ht : t ∈ nextP i at_) : 0 ≤ t := by
  unfold nextP at ht
  obtain ⟨h1, h2, h3, h4, h5⟩ := h
  split at ht
  · cases ht
  · split at ht
    · rename_i e
      simp only [List.mem_singleton] at ht
      have := h4 (.inl e)
      omega
    · split at ht
      · rename_i e
        have := h4 (.inr e.1)
        simp only [List.mem_cons, List.not_mem_nil, or_false] at ht
        omega
      · simp only [List.mem_singleton] at ht
        omega

/-- Depths that fit the code. -/
structure Closed (F : List Fn) (code : List (Int × Int)) (D : List Int) : Prop where
  len : D.length = code.length
  zero : 0 < code.length → D[0]? = some 0
  low : ∀ d ∈ D, d ≤ 32
  step : ∀ (p : Nat) (i : Int × Int) (d : Int), code[p]? = some i → D[p]? = some d → 0 ≤ d → popsP F i ≤ d ∧ nAt F d i ≤ 32 ∧ ∀ t ∈ nextP i p, ∃ q : Nat, t = q ∧ q < code.length ∧ D[q]? = some (nAt F d i)
/-- What check finds of a function. -/
structure FnOk (nF : Nat) (f : Fn) : Prop where
  args : 0 ≤ f.args ∧ f.args ≤ 8
  locs : f.args ≤ f.locs ∧ f.locs ≤ 16
  code : 1 ≤ f.code.length ∧ f.code.length ≤ 256
  ins : ∀ i ∈ f.code, InsOk nF f i
structure JbOk (j : Jb) : Prop where
  nF : 1 ≤ j.F.length ∧ j.F.length ≤ 32
  fuel : 1 ≤ j.fuel ∧ j.fuel ≤ 5000
  tasks : 1 ≤ j.tasks ∧ j.tasks ≤ 500
  main : 0 ≤ j.main ∧ j.main < j.F.length
  args : (j.args.length : Int) = argsAt j.F j.main
  fns : ∀ f ∈ j.F, FnOk j.F.length f
  dep : ∀ f ∈ j.F, ∃ D, Closed j.F f.code D
theorem JbOk.argsOk {j : Jb} (h : JbOk j) : ArgsOk j.F := fun f hf => (h.fns f hf).args

/-! The search for depths: at each round one place whose depth is known is done. -/
structure Dst (F : List Fn) (code : List (Int × Int)) (D : List Int) (O : List Bool) : Prop where
  dl : D.length = code.length
  ol : O.length = code.length
  zero : 0 < code.length → D[0]? = some 0
  low : ∀ d ∈ D, d ≤ 32
  uniq : ∀ D2, Closed F code D2 → ∀ (p : Nat) (d : Int), D[p]? = some d → 0 ≤ d → D2[p]? = some d
  done_ : ∀ (p : Nat) (i : Int × Int), O[p]? = some true → code[p]? = some i → ∃ d, D[p]? = some d ∧ 0 ≤ d ∧ popsP F i ≤ d ∧ nAt F d i ≤ 32 ∧ ∀ t ∈ nextP i p, ∃ q : Nat, t = q ∧ q < code.length ∧ D[q]? = some (nAt F d i)
/-- All whose depth is known are done: the depths fit. -/
theorem Dst.closed {F : List Fn} {code : List (Int × Int)} {D : List Int} {O : List Bool} (h : Dst F code D O) (hall : ∀ (p : Nat) (d : Int), D[p]? = some d → 0 ≤ d → O[p]? = some true) : Closed F code D :=
  ⟨h.dl, h.zero, h.low, fun p i d hi hd h0 => by
    obtain ⟨d2, e1, e2, e3, e4, e5⟩ := h.done_ p i (hall p d hd h0) hi
    rw [hd] at e1
    obtain rfl := Option.some.inj e1
    exact ⟨e3, e4, e5⟩⟩
/-- One place is under way: those of 'ts' are laid. -/
structure Dmid (F : List Fn) (code : List (Int × Int)) (D : List Int) (O : List Bool) (at_ : Nat) (i : Int × Int) (d : Int) (ts : List Int) : Prop where
  dl : D.length = code.length
  ol : O.length = code.length
  zero : 0 < code.length → D[0]? = some 0
  low : ∀ d ∈ D, d ≤ 32
  uniq : ∀ D2, Closed F code D2 → ∀ (p : Nat) (d : Int), D[p]? = some d → 0 ≤ d → D2[p]? = some d
  done_ : ∀ (p : Nat) (i : Int × Int), p ≠ at_ → O[p]? = some true → code[p]? = some i → ∃ d, D[p]? = some d ∧ 0 ≤ d ∧ popsP F i ≤ d ∧ nAt F d i ≤ 32 ∧ ∀ t ∈ nextP i p, ∃ q : Nat, t = q ∧ q < code.length ∧ D[q]? = some (nAt F d i)
  hi : code[at_]? = some i
  hd : D[at_]? = some d
  h0 : 0 ≤ d
  pops : popsP F i ≤ d
  n32 : nAt F d i ≤ 32
  laid : ∀ t ∈ ts, ∃ q : Nat, t = q ∧ q < code.length ∧ D[q]? = some (nAt F d i)
theorem Dst.start {F : List Fn} {code : List (Int × Int)} {D : List Int} {O : List Bool} (h : Dst F code D O) {at_ : Nat} {i : Int × Int} {d : Int} (hi : code[at_]? = some i) (hd : D[at_]? = some d) (h0 : 0 ≤ d) (h1 : popsP F i ≤ d) (h2 : nAt F d i ≤ 32) : Dmid F code D (O.set at_ true) at_ i d [] :=
  ⟨h.dl, by rw [List.length_set]; exact h.ol, h.zero, h.low, h.uniq, fun p i hp ho hi => h.done_ p i (by rwa [List.getElem?_set_ne (fun e => hp e.symm)] at ho) hi, hi, hd, h0, h1, h2, fun t ht => by cases ht⟩
theorem set_same {D : List Int} {q k : Nat} {v u : Int} (hk : D[k]? = some u) (h : ∀ w, D[q]? = some w → 0 ≤ w → w = v) (h0 : 0 ≤ u) : (D.set q v)[k]? = some u := by
  by_cases e : q = k
  · subst e
    rw [List.getElem?_set_self (List.getElem?_eq_some_iff.1 hk).1, h u hk h0]
  · rw [List.getElem?_set_ne e]; exact hk
theorem Dmid.lay {F : List Fn} {code : List (Int × Int)} {D : List Int} {O : List Bool} {at_ : Nat} {i : Int × Int} {d : Int} {ts : List Int} (hA : ArgsOk F) (h : Dmid F code D O at_ i d ts) {q : Nat} (hq : q < code.length) (hqt : (q : Int) ∈ nextP i at_)
    (hold : ∀ w, D[q]? = some w → 0 ≤ w → w = nAt F d i) : Dmid F code (D.set q (nAt F d i)) O at_ i d (ts ++ [(q : Int)]) := by
  have hd32 := h.low d (List.mem_of_getElem? h.hd)
  have hn0 : ∀ (d : Int) (i : Int × Int), 0 ≤ d → d ≤ 32 → popsP F i ≤ d → 0 ≤ nAt F d i := fun d i h0 h1 h2 => by
    rw [nAt_is hA h0 (by omega)]
    have := pushP_bd i
    omega
  have hns := hn0 d i h.h0 hd32 h.pops
  refine ⟨by rw [List.length_set]; exact h.dl, h.ol, fun hl => set_same (h.zero hl) hold (Int.le_refl _), fun x hx => ?_, fun D2 hD2 p u hu hu0 => ?_, fun p i2 hp ho hi2 => ?_, h.hi, set_same h.hd hold h.h0, h.h0, h.pops, h.n32, fun t ht => ?_⟩
  · rcases List.mem_or_eq_of_mem_set hx with hx | rfl
    · exact h.low x hx
    · exact h.n32
  · by_cases e : q = p
    · subst e
      rw [List.getElem?_set_self (by rw [h.dl]; exact hq)] at hu
      obtain rfl := Option.some.inj hu
      obtain ⟨_, _, h3⟩ := hD2.step at_ i d h.hi (h.uniq D2 hD2 at_ d h.hd h.h0) h.h0
      obtain ⟨q2, e1, e2, e3⟩ := h3 _ hqt
      obtain rfl : q = q2 := by omega
      exact e3
    · rw [List.getElem?_set_ne e] at hu
      exact h.uniq D2 hD2 p u hu hu0
  · obtain ⟨d2, e1, e2, e3, e4, e5⟩ := h.done_ p i2 hp ho hi2
    refine ⟨d2, set_same e1 hold e2, e2, e3, e4, fun t ht => ?_⟩
    obtain ⟨q2, g1, g2, g3⟩ := e5 t ht
    exact ⟨q2, g1, g2, set_same g3 hold (hn0 d2 i2 e2 (h.low d2 (List.mem_of_getElem? e1)) e3)⟩
  · rcases List.mem_append.1 ht with ht | ht
    · obtain ⟨q2, g1, g2, g3⟩ := h.laid t ht
      exact ⟨q2, g1, g2, set_same g3 hold hns⟩
    · simp only [List.mem_singleton] at ht
      exact ⟨q, ht, hq, List.getElem?_set_self (by rw [h.dl]; exact hq)⟩
theorem Dmid.fin {F : List Fn} {code : List (Int × Int)} {D : List Int} {O : List Bool} {at_ : Nat} {i : Int × Int} {d : Int} (h : Dmid F code D O at_ i d (nextP i at_)) : Dst F code D O :=
  ⟨h.dl, h.ol, h.zero, h.low, h.uniq, fun p i2 ho hi2 => by
    by_cases e : p = at_
    · subst e
      rw [h.hi] at hi2
      obtain rfl := Option.some.inj hi2
      exact ⟨d, h.hd, h.h0, h.pops, h.n32, h.laid⟩
    · exact h.done_ p i2 e ho hi2⟩
/-- The three ways in which the search ends without depths: none fit. -/
theorem Dst.bad1 {F : List Fn} {code : List (Int × Int)} {D : List Int} {O : List Bool} (h : Dst F code D O) {at_ : Nat} {i : Int × Int} {d : Int} (hi : code[at_]? = some i) (hd : D[at_]? = some d) (h0 : 0 ≤ d) (hb : d < popsP F i ∨ 32 < nAt F d i) : ∀ D2, ¬ Closed F code D2 := fun D2 h2 => by
  obtain ⟨h3, h4, _⟩ := h2.step at_ i d hi (h.uniq D2 h2 at_ d hd h0) h0
  omega
theorem Dmid.bad2 {F : List Fn} {code : List (Int × Int)} {D : List Int} {O : List Bool} {at_ : Nat} {i : Int × Int} {d : Int} {ts : List Int} (h : Dmid F code D O at_ i d ts) {t : Int} (ht : t ∈ nextP i at_) (hb : (code.length : Int) ≤ t) : ∀ D2, ¬ Closed F code D2 := fun D2 h2 => by
  obtain ⟨_, _, h5⟩ := h2.step at_ i d h.hi (h.uniq D2 h2 at_ d h.hd h.h0) h.h0
  obtain ⟨q, e1, e2, _⟩ := h5 t ht
  omega
theorem Dmid.bad3 {F : List Fn} {code : List (Int × Int)} {D : List Int} {O : List Bool} {at_ : Nat} {i : Int × Int} {d : Int} {ts : List Int} (h : Dmid F code D O at_ i d ts) {q : Nat} (ht : (q : Int) ∈ nextP i at_) {v : Int} (hv : D[q]? = some v) (hv0 : 0 ≤ v) (hne : v ≠ nAt F d i) : ∀ D2, ¬ Closed F code D2 := fun D2 h2 => by
  obtain ⟨_, _, h5⟩ := h2.step at_ i d h.hi (h.uniq D2 h2 at_ d h.hd h.h0) h.h0
  obtain ⟨q2, e1, e2, e3⟩ := h5 _ ht
  obtain rfl : q = q2 := by omega
  rw [h.uniq D2 h2 q v hv hv0] at e3
  exact hne (Option.some.inj e3)

def okD (b : UInt8) : Bool := decide (b.toNat < 16)
/-- A name that can be. -/
def vid (s : ByteArray) : Bool := decide (s.size ≤ 12) && s.data.toList.all okD
def digit (b : UInt8) : UInt8 := if b.toNat < 10 then UInt8.ofNat (48 + b.toNat) else UInt8.ofNat (87 + b.toNat)
def txt (s : ByteArray) : ByteArray := if vid s then ⟨(114 :: s.data.toList.map digit).toArray⟩ else ⟨#[]⟩
def kid (s : ByteArray) (k : Int) : ByteArray × Bool := if vid s ∧ s.size < 12 ∧ 0 ≤ k ∧ k < 16 then (s ++ ⟨#[UInt8.ofNat k.toNat]⟩, true) else (⟨#[]⟩, false)
def up (s : ByteArray) : ByteArray × Int × Bool := if vid s ∧ 0 < s.size then (s.extract 0 (s.size - 1), ((s.data.toList.getD (s.size - 1) 0).toNat : Int), true) else (⟨#[]⟩, 0, false)
/-- How many bytes two texts begin with alike. -/
def lcpn : List UInt8 → List UInt8 → Nat
  | x :: a, y :: b => if x = y then lcpn a b + 1 else 0
  | _, _ => 0
def common : List ByteArray → ByteArray
  | [] => ⟨#[]⟩
  | x :: l => (x :: l).foldl (fun (o s : ByteArray) => o.extract 0 (lcpn o.data.toList s.data.toList)) x

theorem size_list (s : ByteArray) : s.data.toList.length = s.size := by rw [Array.length_toList]; rfl
theorem get_list (s : ByteArray) {k : Nat} (h : k < s.size) : s.data.toList[k]? = some s[k] := by
  rw [List.getElem?_eq_getElem (by rw [size_list]; exact h)]
  rfl
theorem take_step (s : ByteArray) {k : Nat} (h : k < s.size) : s.data.toList.take (k + 1) = s.data.toList.take k ++ [s[k]] := by
  rw [List.take_add_one, get_list s h]; rfl
theorem drop_step (s : ByteArray) {k : Nat} (h : k < s.size) : s.data.toList.drop k = s[k] :: s.data.toList.drop (k + 1) := by
  have h1 : k < s.data.toList.length := by rw [size_list]; exact h
  rw [List.drop_eq_getElem_cons h1]
  rfl
theorem take_whole (s : ByteArray) : s.data.toList.take s.size = s.data.toList := List.take_of_length_le (by rw [size_list]; exact Nat.le_refl _)
theorem vid_small {s : ByteArray} (h : vid s = true) : s.size ≤ 12 := by simp [vid] at h; exact h.1
theorem vid_at {s : ByteArray} (h : vid s = true) {k : Nat} (hk : k < s.size) : s[k].toNat < 16 := by
  simp only [vid, Bool.and_eq_true, List.all_eq_true] at h
  have := h.2 s[k] (List.mem_of_getElem? (get_list s hk))
  simpa [okD] using this
theorem lcpn_nil_left (b : List UInt8) : lcpn [] b = 0 := by cases b <;> rfl
theorem lcpn_nil_right (a : List UInt8) : lcpn a [] = 0 := by cases a <;> rfl
theorem lcpn_le (a b : List UInt8) : lcpn a b ≤ a.length := by
  induction a generalizing b with
  | nil => rw [lcpn_nil_left]; exact Nat.le_refl _
  | cons x a ih =>
    cases b with
    | nil => rw [lcpn_nil_right]; omega
    | cons y b =>
      unfold lcpn
      have := ih b
      split <;> simp <;> omega
theorem lcpn_self (a : List UInt8) : lcpn a a = a.length := by
  induction a with
  | nil => rfl
  | cons x a ih => unfold lcpn; simp [ih]
theorem ext_all (s : ByteArray) : s.extract 0 s.size = s := by
  apply ByteArray.ext
  rw [ByteArray.data_extract, show s.size = s.data.size from rfl]
  simp
theorem common_one (s : ByteArray) : common [s] = s := by
  unfold common
  simp only [List.foldl_cons, List.foldl_nil]
  rw [lcpn_self, size_list, ext_all]
theorem ext_empty (n : Nat) : (⟨#[]⟩ : ByteArray).extract 0 n = ⟨#[]⟩ := by
  apply ByteArray.ext
  simp [ByteArray.data_extract]
theorem fold_empty (l : List ByteArray) : l.foldl (fun (o s : ByteArray) => o.extract 0 (lcpn o.data.toList s.data.toList)) ⟨#[]⟩ = (⟨#[]⟩ : ByteArray) := by
  induction l with
  | nil => rfl
  | cons x l ih => rw [List.foldl_cons, ext_empty, ih]
theorem common_empty {l : List ByteArray} (h : l.head? = some ⟨#[]⟩) : common l = ⟨#[]⟩ := by
  cases l with
  | nil => rfl
  | cons x l =>
    simp at h
    subst h
    exact fold_empty _

abbrev bl (a : ByteArray) : List UInt8 := a.data.toList
theorem bl_inj {a b : ByteArray} (h : bl a = bl b) : a = b := by
  obtain ⟨⟨a⟩⟩ := a
  obtain ⟨⟨b⟩⟩ := b
  simp [bl] at h
  simp [h]
def mkB (l : List UInt8) : ByteArray := ⟨l.toArray⟩
theorem bl_mkB (l : List UInt8) : bl (mkB l) = l := rfl
theorem mkB_bl (a : ByteArray) : mkB (bl a) = a := bl_inj rfl
def ltS (a b : ByteArray) : Prop := bl a < bl b
instance (a b : ByteArray) : Decidable (ltS a b) := inferInstanceAs (Decidable (bl a < bl b))
theorem ltS_irrefl (a : ByteArray) : ¬ ltS a a := List.lt_irrefl _
theorem ltS_trans {a b c : ByteArray} (h : ltS a b) (g : ltS b c) : ltS a c := List.lt_trans h g
theorem ltS_tri (a b : ByteArray) : ltS a b ∨ a = b ∨ ltS b a := by
  by_cases h : ltS a b
  · exact .inl h
  · by_cases g : ltS b a
    · exact .inr (.inr g)
    · exact .inr (.inl (bl_inj (List.le_antisymm (List.not_lt.1 g) (List.not_lt.1 h))))
theorem ltS_ne {a b : ByteArray} (h : ltS a b) : a ≠ b := fun e => ltS_irrefl b (e ▸ h)
theorem ltS_asym {a b : ByteArray} (h : ltS a b) : ¬ ltS b a := fun g => ltS_irrefl a (ltS_trans h g)

/-- A name into a rising list, once. -/
def riseS (x : ByteArray) : List ByteArray → List ByteArray
  | [] => [x]
  | y :: l => if ltS y x then y :: riseS x l else if y = x then y :: l else x :: y :: l
abbrev RisesS (l : List ByteArray) : Prop := l.Pairwise ltS
theorem mem_riseS {x z : ByteArray} : ∀ {l : List ByteArray}, z ∈ riseS x l ↔ z = x ∨ z ∈ l
  | [] => by simp [riseS]
  | y :: l => by
    unfold riseS
    split
    · simp only [List.mem_cons, mem_riseS (l := l)]; constructor
      · rintro (h | h | h)
        · exact .inr (.inl h)
        · exact .inl h
        · exact .inr (.inr h)
      · rintro (h | h | h)
        · exact .inr (.inl h)
        · exact .inl h
        · exact .inr (.inr h)
    · split
      · rename_i h1 h2; subst h2; simp
      · simp
theorem rises_riseS {x : ByteArray} : ∀ {l : List ByteArray}, RisesS l → RisesS (riseS x l)
  | [], _ => by simp [riseS]
  | y :: l, h => by
    obtain ⟨h1, h2⟩ := List.pairwise_cons.1 h
    unfold riseS
    split
    · rename_i hyx
      refine List.pairwise_cons.2 ⟨fun z hz => ?_, rises_riseS h2⟩
      rcases mem_riseS.1 hz with rfl | hz
      · exact hyx
      · exact h1 z hz
    · split
      · exact h
      · rename_i h3 h4
        have hxy : ltS x y := by
          rcases ltS_tri x y with h | h | h
          · exact h
          · exact absurd h.symm h4
          · exact absurd h h3
        refine List.pairwise_cons.2 ⟨fun z hz => ?_, h⟩
        rcases List.mem_cons.1 hz with rfl | hz
        · exact hxy
        · exact ltS_trans hxy (h1 z hz)
/-- Two rising lists with the same members are one. -/
theorem rises_eqS : ∀ {l m : List ByteArray}, RisesS l → RisesS m → (∀ z, z ∈ l ↔ z ∈ m) → l = m
  | [], [], _, _, _ => rfl
  | [], y :: m, _, _, h => by have := (h y).2 (by simp); simp at this
  | x :: l, [], _, _, h => by have := (h x).1 (by simp); simp at this
  | x :: l, y :: m, hl, hm, h => by
    obtain ⟨a1, a2⟩ := List.pairwise_cons.1 hl
    obtain ⟨b1, b2⟩ := List.pairwise_cons.1 hm
    have hxy : x = y := by
      have h1 := (h x).1 (by simp)
      have h2 := (h y).2 (by simp)
      rcases List.mem_cons.1 h1 with e | e
      · exact e
      · rcases List.mem_cons.1 h2 with e2 | e2
        · exact e2.symm
        · exact absurd (b1 x e) (ltS_asym (a1 y e2))
    subst hxy
    rw [rises_eqS a2 b2 fun z => ?_]
    constructor
    · intro hz
      rcases List.mem_cons.1 ((h z).1 (List.mem_cons_of_mem _ hz)) with e | e
      · exact absurd (a1 z hz) (e ▸ ltS_irrefl _)
      · exact e
    · intro hz
      rcases List.mem_cons.1 ((h z).2 (List.mem_cons_of_mem _ hz)) with e | e
      · exact absurd (b1 z hz) (e ▸ ltS_irrefl _)
      · exact e
/-- All of a list, put in one by one. -/
def risenS (l : List ByteArray) : List ByteArray := l.foldl (fun a x => riseS x a) []
theorem risenS_snoc (l : List ByteArray) (x : ByteArray) : risenS (l ++ [x]) = riseS x (risenS l) := by simp [risenS, List.foldl_append]
theorem risenS_spec (l : List ByteArray) : RisesS (risenS l) ∧ ∀ z, z ∈ risenS l ↔ z ∈ l := by
  have : ∀ (l a : List ByteArray), RisesS a → RisesS (l.foldl (fun a x => riseS x a) a) ∧ ∀ z, z ∈ l.foldl (fun a x => riseS x a) a ↔ z ∈ a ∨ z ∈ l := by
    intro l
    induction l with
    | nil => intro a h; exact ⟨h, fun z => by simp⟩
    | cons x l ih =>
      intro a h
      obtain ⟨h1, h2⟩ := ih (riseS x a) (rises_riseS h)
      refine ⟨h1, fun z => ?_⟩
      rw [List.foldl_cons, h2, mem_riseS, List.mem_cons]
      constructor
      · rintro ((h | h) | h)
        · exact .inr (.inl h)
        · exact .inl h
        · exact .inr (.inr h)
      · rintro (h | h | h)
        · exact .inl (.inr h)
        · exact .inl (.inl h)
        · exact .inr h
  obtain ⟨h1, h2⟩ := this l [] List.Pairwise.nil
  exact ⟨h1, fun z => by rw [risenS, h2]; simp⟩
theorem risenS_le (l : List ByteArray) : (risenS l).length ≤ l.length := by
  have h2 : ∀ (x : ByteArray) (a : List ByteArray), (riseS x a).length ≤ a.length + 1 := by
    intro x a
    induction a with
    | nil => simp [riseS]
    | cons y a ih2 =>
      unfold riseS
      split
      · simp; exact ih2
      · split <;> simp
  have : ∀ (l a : List ByteArray), (l.foldl (fun a x => riseS x a) a).length ≤ a.length + l.length := by
    intro l
    induction l with
    | nil => intro a; simp
    | cons x l ih =>
      intro a
      have h1 := ih (riseS x a)
      have h3 := h2 x a
      rw [List.foldl_cons, List.length_cons]
      omega
  have := this l []
  simpa [risenS] using this
theorem rises_nodupS {l : List ByteArray} (h : RisesS l) : l.Nodup := h.imp fun h => ltS_ne h
theorem leB_tr (a b c : List UInt8) (h1 : leB a b = true) (h2 : leB b c = true) : leB a c = true := by simp only [leB, decide_eq_true_eq] at *; exact List.le_trans h1 h2
theorem leB_to (a b : List UInt8) : (leB a b || leB b a) = true := by simp only [leB, Bool.or_eq_true, decide_eq_true_eq]; exact List.le_total a b
/-- Of names of which none stands twice, sorting makes the same. -/
theorem sort_eqS {ss : List (List UInt8)} (h : ss.Nodup) : (ss.mergeSort leB).map mkB = risenS (ss.map mkB) := by
  obtain ⟨r1, r2⟩ := risenS_spec (ss.map mkB)
  have hs : (ss.mergeSort leB).Pairwise (fun a b => leB a b = true) := List.pairwise_mergeSort leB_tr leB_to ss
  have hp := List.mergeSort_perm ss leB
  have hn : (ss.mergeSort leB).Nodup := hp.nodup_iff.2 h
  refine rises_eqS ?_ r1 fun z => ?_
  · rw [RisesS, List.pairwise_map]
    refine List.Pairwise.imp₂ (fun a b h1 h2 => ?_) hs hn
    simp only [leB, decide_eq_true_eq] at h1
    show bl (mkB a) < bl (mkB b)
    rw [bl_mkB, bl_mkB]
    rcases ltS_tri (mkB a) (mkB b) with h | h | h
    · exact h
    · exact absurd (by rw [← bl_mkB a, h, bl_mkB]) h2
    · exact absurd (List.not_lt.2 h1) (fun k => k h)
  · rw [r2, List.mem_map, List.mem_map]
    exact ⟨fun ⟨a, h1, h2⟩ => ⟨a, hp.mem_iff.1 h1, h2⟩, fun ⟨a, h1, h2⟩ => ⟨a, hp.mem_iff.2 h1, h2⟩⟩
theorem risenS_id {l : List ByteArray} (h : RisesS l) : risenS l = l := rises_eqS (risenS_spec l).1 h (risenS_spec l).2
end Go.Proofs.Yteinbdifncdaiaa
