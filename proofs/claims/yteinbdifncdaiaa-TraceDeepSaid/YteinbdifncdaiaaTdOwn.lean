/-
  Bytes: append onto a row of bytes; slices.Clone of bytes.
  ident.Valid.
  ident.Kid.
  An element of a slice that reads as a list.
  Rows of names: slices.Clone; gleanerref1.SameIDs of two rows that are one (the first part of XIds, for seats without slices.Index).
-/
import Derived.Test.YteinbdifncdaiaaRows
import Derived.Test.YteinbdifncdaiaaTdBase
import Derived.Test.YteinbdifncdaiaaTdLaw
import Derived.Test.YteinbdifncdaiaaTdDeepCode
import Derived.Test.YteinbdifncdaiaaTdRegion
import Derived.Test.YteinbdifncdaiaaTdRow
namespace Go.Proofs.Yteinbdifncdaiaa
open Go.RowKit
set_option linter.unusedVariables false
set_option linter.unusedSimpArgs false

theorem info_u8 : (Try.prog.info? 5).map (fun i => (i.zero, i.size, i.bytes)) = some (some (.int .u8 0), 1, 1) := by kernel_rfl
theorem eql_bytes_nil (w : World) (a : Option Addr) (n c : Nat) : (binOp .eql 54 (.slice a n c) (.slice none 0 0)).run Try.prog w = .ok (.bool a.isNone) w := Lib.run_eql_slice_nil w _ _ a n c 0 0 Try.underlying54

/-- 'append' onto a row of bytes of the call's own. -/
theorem app8 {w : World} {ops : Array Oper} {rest : List Oper} {o : Oper} {a : Act} {Q : Exit → Act → World → Prop} (hgd : o.guard = none) (s x : Operand)
    (ho : o.op = .call { callee := .builtin .append, args := #[s, x], argTypes := #[54, 54] })
    {base : Nat} {v : Value} {n : Nat} {xs : List Value} (hown : w.ownsRow base 5 1 v n xs) (hs : a.eval s = v)
    {A : Option Addr} {m c : Nat} {news : List Value} (hr : Rds w 1 A m news) (hx : a.eval x = .slice A m c) (h1 : ∀ u ∈ news, u.oneCell' = true)
    (hb : n + m ≤ 140737488355328) (hbase : base ≤ w.heap.size)
    (h : ∀ v2 w2, w2.ownsRow base 5 1 v2 (n + m) (xs ++ news) → Chg (fun g => v.ownBlock = some g) w w2 → (v2.ownBlock = v.ownBlock ∨ v2.ownBlock = some w.heap.size) → wpList Try.prog ops Q rest (a.put o.dst v2) w2) : wpList Try.prog ops Q (o :: rest) a w := by
  obtain ⟨i0, hi, hz0, hz1, hz2⟩ := info_parts info_u8
  exact wpList_append_rds w hgd s x 54 ho base 5 i0 (.int .u8 0) 1 1 Try.underlying54 hi hz0 hz1 hz2 rfl (by decide) v n xs hs hown A m c news hx hr h1 (by unfold maxLen; omega) (by omega) hbase
    fun v2 w2 h2 h3 h4 => h v2 w2 h2 (Chg.of_grown h3) h4

/-- The value v is the call's own row of the bytes L. -/
def Own8 (w : World) (base : Nat) (v : Value) (L : List UInt8) : Prop := w.ownsRow base 5 1 v L.length (bv L)

theorem Own8.nil (w : World) (base : Nat) : Own8 w base (.slice none 0 0) [] := World.ownsRow_nil _ _ _ _
theorem Own8.alloc {w : World} {base : Nat} {v : Value} {L : List UInt8} (h : Own8 w base v L) (o : Obj) : Own8 (w.alloc o) base v L := World.ownsRow.alloc h o
theorem Own8.chg {S : Nat → Prop} {w w1 : World} {base : Nat} {v : Value} {L : List UInt8} (h : Own8 w base v L) (hc : Chg S w w1) (hn : ∀ g, v.ownBlock = some g → ¬ S g) : Own8 w1 base v L := Chg.own h hc hn
theorem Own8.non {w w1 : World} {base : Nat} {v : Value} {L : List UInt8} (h : Own8 w base v L) (hc : Chg Non w w1) : Own8 w1 base v L := Chg.own h hc fun _ _ => id
theorem Own8.rds {w : World} {base : Nat} {v : Value} {L : List UInt8} (h : Own8 w base v L) : ∃ A c, v = .slice A L.length c ∧ L.length ≤ c ∧ c ≤ maxLen ∧ Rds w 1 A L.length (bv L) := by
  obtain ⟨A, c, rfl, h1, h2, _⟩ := own_slice h
  exact ⟨A, c, rfl, h1, h2, Rds.of_own h⟩
/-- The same, its length a letter. -/
theorem Own8.open_ {w : World} {base : Nat} {v : Value} {L : List UInt8} (h : Own8 w base v L) : ∃ A n c, v = .slice A n c ∧ Hid (n = L.length) ∧ n ≤ c ∧ c ≤ maxLen ∧ Rds w 1 A n (bv L) := by
  obtain ⟨A, c, h1, h2, h3, h4⟩ := h.rds
  exact ⟨A, _, c, h1, rfl, h2, h3, h4⟩
theorem Own8.chgApp {S : Nat → Prop} {w w1 w2 : World} {base : Nat} {v : Value} {L : List UInt8} (h : Chg S w w1) (hown : Own8 w1 base v L) (hb : w.heap.size ≤ base) (k : Chg (fun g => v.ownBlock = some g) w1 w2) : Chg S w w2 :=
  h.app hown hb k

/-- 'append(b, x...)': bytes. -/
theorem app8b {w : World} {ops : Array Oper} {rest : List Oper} {o : Oper} {a : Act} {Q : Exit → Act → World → Prop} (hgd : o.guard = none) (s x : Operand)
    (ho : o.op = .call { callee := .builtin .append, args := #[s, x], argTypes := #[54, 54] })
    {base : Nat} {v : Value} {L : List UInt8} (hown : Own8 w base v L) (hs : a.eval s = v)
    {A : Option Addr} {m c : Nat} {M : List UInt8} (hr : Rds w 1 A m (bv M)) (hx : a.eval x = .slice A m c)
    (hb : L.length + M.length ≤ 140737488355328) (hbase : base ≤ w.heap.size)
    (h : ∀ v2 w2, Own8 w2 base v2 (L ++ M) → Chg (fun g => v.ownBlock = some g) w w2 → (v2.ownBlock = v.ownBlock ∨ v2.ownBlock = some w.heap.size) → wpList Try.prog ops Q rest (a.put o.dst v2) w2) : wpList Try.prog ops Q (o :: rest) a w := by
  have hm : m = M.length := by have := hr.1; rw [bv_len] at this; omega
  subst hm
  exact app8 hgd s x ho hown hs hr hx (bv_one _) hb hbase fun v2 w2 h2 h3 h4 => h v2 w2 (by unfold Own8; rw [List.length_append, bv_app]; exact h2) h3 h4

/-- 'append(b, q)': one byte, which the statement has just laid into a block of its own. -/
theorem app8c {w : World} {ops : Array Oper} {rest : List Oper} {o : Oper} {a : Act} {Q : Exit → Act → World → Prop} (hgd : o.guard = none) (s x : Operand)
    (ho : o.op = .call { callee := .builtin .append, args := #[s, x], argTypes := #[54, 54] })
    {base : Nat} {v : Value} {L : List UInt8} (hown : Own8 w base v L) (hs : a.eval s = v) {c : Nat} {y : Int} (hx : a.eval x = .slice (some ⟨w.heap.size, 0, none⟩) 1 c)
    (q : UInt8) (hy : y = (q.toNat : Int)) (hb : L.length + 1 ≤ 140737488355328) (hbase : base ≤ w.heap.size)
    (h : ∀ v2 w2, Own8 w2 base v2 (L ++ [q]) → Chg (fun g => v.ownBlock = some g) w w2 → wpList Try.prog ops Q rest (a.put o.dst v2) w2) : wpList Try.prog ops Q (o :: rest) a (w.alloc (.cells #[.int .u8 y] 5)) := by
  subst hy
  exact app8b hgd s x ho (hown.alloc _) hs (M := [q]) (Rds.one w _ _) hx hb (by simp; omega) fun v2 w2 h2 h3 _ => h v2 w2 h2 (((Chg.refl _ w).alloc _).trans h3)

theorem valid_any (s : ByteArray) (w : World) :
    Calls Try.prog 51 #[.string s] w fun e w2 => e = .returned (.bool (vid s)) ∧ w = w2 := by
  go_enter Try.func51, Try.ntmps51
  by_cases h12 : s.size ≤ 12
  · have hv : vid s = s.data.toList.all okD := by simp [vid, h12]
    have Hv := Lib.hid hv; clear hv
    go_wp2_with fail
    go_loop [9] (fun i => ∃ k : Nat, k ≤ s.size ∧ i = .int .i64 k ∧ Hid ((s.data.toList.take k).all okD = true)) (fun i => s.size - (intOf i).toNat)
    case atStart => exact ⟨0, Nat.zero_le _, rfl, rfl⟩
    case round =>
      obtain ⟨k, hk, rfl, hall⟩ := hrel
      by_cases hlt : k < s.size
      · have hst := take_step s hlt
        have hmem := List.mem_of_getElem? (get_list s hlt)
        by_cases hb : s[k].toNat < 16
        · have hall2 : Hid ((s.data.toList.take (k + 1)).all okD = true) := by
            show _ = _
            rw [hst, List.all_append, hall.out]
            simp [okD, hb]
          clear hst hmem hall
          go_wp2_with fail
          go_round
          case rel => exact ⟨k + 1, by omega, by go_num, hall2⟩
          case measure => simp [intOf]; omega
        · have hno : vid s = false := by
            rw [Hv.out, List.all_eq_false]
            exact ⟨s[k], hmem, by simp [okD]; omega⟩
          have Hno := Lib.hid hno
          clear hst hmem hall hno
          go_wp2_with fail
          go_ret
          exact ⟨by rw [Hno.out]; rfl, rfl⟩
      · have hyes : vid s = true := by
          rw [Hv.out, ← take_whole s, show s.size = k by omega]; exact hall.out
        have Hyes := Lib.hid hyes
        clear hyes hall
        go_wp2_with fail
        go_ret
        exact ⟨by rw [Hyes.out]; rfl, rfl⟩
  · have hv : vid s = false := by simp [vid, h12]
    have Hv := Lib.hid hv; clear hv
    go_wp2_with fail
    go_ret
    exact ⟨by rw [Hv.out]; rfl, rfl⟩

theorem kid_no {s : ByteArray} {k : Int} (h : ¬ (vid s = true ∧ s.size < 12 ∧ 0 ≤ k ∧ k < 16)) : kid s k = (⟨#[]⟩, false) := by unfold kid; rw [if_neg h]
theorem size_nil {s : ByteArray} (h : s.size = 0) : s.toList = [] := by
  rw [ByteArray.toList_eq]
  exact List.eq_nil_of_length_eq_zero (by rw [size_list]; exact h)
theorem is_nil (s : ByteArray) : s.toList.isEmpty = decide (s.size = 0) := by
  rw [ByteArray.toList_eq, Bool.eq_iff_iff, List.isEmpty_iff, decide_eq_true_eq, ← size_list]
  exact List.length_eq_zero_iff.symm

set_option maxRecDepth 100000 in
theorem kid_any (s : ByteArray) (k : Int) (w : World) (hk : i64 k) :
    Calls Try.prog 34 #[.string s, .int .i64 k] w fun e w2 => e = .returned (.tuple #[.string (kid s k).1, .bool (kid s k).2]) ∧ Chg Non w w2 := by
  unfold i64 at hk
  have hk1 := hk.1
  have hk2 := hk.2
  clear hk
  by_cases hall : vid s = true ∧ s.size < 12 ∧ 0 ≤ k ∧ k < 16
  · have hkd : kid s k = (s ++ ⟨#[UInt8.ofNat k.toNat]⟩, true) := by unfold kid; rw [if_pos hall]
    have Hkd := Lib.hid hkd
    obtain ⟨hv, h12, h0, h16⟩ := hall
    have hy : k = ((UInt8.ofNat k.toNat).toNat : Int) := by rw [UInt8.toNat_ofNat']; omega
    have q : (convert 54 26 (.slice (some ⟨w.heap.size, 0, none⟩) 1 1)).run Try.prog (w.alloc (.cells #[.int .u8 k] 5)) = .ok (.string ⟨#[UInt8.ofNat k.toNat]⟩) (w.alloc (.cells #[.int .u8 k] 5)) := by
      rw [show Value.int .u8 k = .int .u8 ((UInt8.ofNat k.toNat).toNat : Int) by rw [← hy]]
      exact run_string_rds (L := [UInt8.ofNat k.toNat]) Try.underlying54 Try.underlying5 Try.underlying26 (Rds.one w _ _) 1
    have h12b : ((s.size : Int) == 12) = false := by simp; omega
    have hs1 : (⟨#[UInt8.ofNat k.toNat]⟩ : ByteArray).size = 1 := rfl
    have Hy := Lib.hid hy
    clear hkd hy
    go_enter Try.func34, Try.ntmps34
    go_wp2_with (go_at_call 51; refine (valid_any s _).mono ?_; rintro e w9 ⟨rfl, rfl⟩; rw [hv])
    go_ret2
    exact ⟨by rw [Hkd.out]; rfl, (Chg.refl _ _).alloc _⟩
  · have Hkd := Lib.hid (kid_no hall)
    have hparts : vid s = false ∨ (vid s = true ∧ s.size = 12) ∨ (vid s = true ∧ s.size < 12 ∧ k < 0) ∨ (vid s = true ∧ s.size < 12 ∧ 0 ≤ k ∧ 16 ≤ k) := by
      cases hv : vid s with
      | false => exact .inl rfl
      | true =>
        have := vid_small hv
        simp only [hv, true_and] at hall
        simp only [true_and]
        omega
    clear hall
    rcases hparts with hv | ⟨hv, h12⟩ | ⟨hv, h12, h0⟩ | ⟨hv, h12, h0, h16⟩
    · go_enter Try.func34, Try.ntmps34
      go_wp2_with (go_at_call 51; refine (valid_any s _).mono ?_; rintro e w9 ⟨rfl, rfl⟩; rw [hv])
      go_ret2
      exact ⟨by rw [Hkd.out]; rfl, Chg.refl _ _⟩
    · have h12b : ((s.size : Int) == 12) = true := by simp; omega
      go_enter Try.func34, Try.ntmps34
      go_wp2_with (go_at_call 51; refine (valid_any s _).mono ?_; rintro e w9 ⟨rfl, rfl⟩; rw [hv])
      go_ret2
      exact ⟨by rw [Hkd.out]; rfl, Chg.refl _ _⟩
    all_goals
      have h12b : ((s.size : Int) == 12) = false := by simp; omega
      go_enter Try.func34, Try.ntmps34
      go_wp2_with (go_at_call 51; refine (valid_any s _).mono ?_; rintro e w9 ⟨rfl, rfl⟩; rw [hv])
      go_ret2
      exact ⟨by rw [Hkd.out]; rfl, Chg.refl _ _⟩

theorem Rds.getMap {α : Type} {f : α → Value} {w : World} {A : Option Addr} {n : Nat} {l : List α} (h : Rds w 1 A n (l.map f)) {k : Nat} (hk : k < n) :
    ∃ ad x, A = some ad ∧ l[k]? = some x ∧ w.cell? (ad.add k) = some (f x) := by
  obtain ⟨ad, u, h1, h2, h3⟩ := h.at_ hk
  rw [List.getElem?_map] at h2
  cases hx : l[k]? with
  | none => simp [hx] at h2
  | some x => simp [hx] at h2; exact ⟨ad, x, h1, rfl, by rw [h2]; exact h3⟩
theorem Rds.getI {w : World} {A : Option Addr} {n : Nat} {l : List Int} (h : Rds w 1 A n (iv l)) {k : Nat} (hk : k < n) :
    ∃ ad x, A = some ad ∧ l[k]? = some x ∧ w.cell? (ad.add k) = some (.int .i64 x) := h.getMap (f := fun n : Int => .int .i64 n) hk
theorem Rds.getB {w : World} {A : Option Addr} {n : Nat} {l : List UInt8} (h : Rds w 1 A n (bv l)) {k : Nat} (hk : k < n) :
    ∃ ad x, A = some ad ∧ l[k]? = some x ∧ w.cell? (ad.add k) = some (.int .u8 x.toNat) := h.getMap (f := fun b : UInt8 => .int .u8 b.toNat) hk
theorem Rds.lenMap {α : Type} {f : α → Value} {w : World} {A : Option Addr} {n : Nat} {l : List α} (h : Rds w 1 A n (l.map f)) : n = l.length := by
  have := h.1; rw [List.length_map] at this; omega

abbrev rkI : RowKind Try.prog where
  t := 39
  e := 26
  z := .string ⟨#[]⟩
  size := 1
  bytes := 16
  ht := Try.underlying39
  info := by kernel_rfl
  hz := rfl
  hs := by decide
  hb := by decide

def sv (L : List ByteArray) : List Value := L.map Value.string
theorem svI_one (L : List ByteArray) : ∀ u ∈ sv L, u.oneCell' = true := by
  intro u hu
  simp only [sv, List.mem_map] at hu
  obtain ⟨b, _, rfl⟩ := hu
  rfl
theorem Rds.getS {w : World} {A : Option Addr} {n : Nat} {l : List ByteArray} (h : Rds w 1 A n (sv l)) {k : Nat} (hk : k < n) :
    ∃ ad x, A = some ad ∧ l[k]? = some x ∧ w.cell? (ad.add k) = some (.string x) := h.getMap (f := Value.string) hk
theorem str_ne {a b : ByteArray} (h : a ≠ b) : (a.toList == b.toList) = false := by
  rw [beq_eq_false_iff_ne, ByteArray.toList_eq, ByteArray.toList_eq]
  intro e
  apply h
  obtain ⟨⟨a⟩⟩ := a
  obtain ⟨⟨b⟩⟩ := b
  simp at e
  rw [e]

theorem cloneI_any (A : Option Addr) (n c : Nat) (xs : List Value) (w : World) (hr : Rds w (rkI).size A n xs) (h1 : ∀ u ∈ xs, u.oneCell' = true) (hn : n ≤ 1099511627776) :
    Calls Try.prog 35 #[.slice A n c] w fun e w2 => ∃ v, e = .returned v ∧ OwnR rkI w2 w.heap.size v n xs ∧ Chg Non w w2 := by
  have q : ∀ (w : World) (a : Option Addr) (n c : Nat), (binOp .eql 39 (.slice a n c) (.slice none 0 0)).run Try.prog w = .ok (.bool a.isNone) w := fun w a n c => Lib.run_eql_slice_nil w _ _ a n c 0 0 Try.underlying39
  cases A with
  | none =>
    have h0 : n = 0 := by
      rcases Nat.eq_zero_or_pos n with h0 | h0
      · exact h0
      · obtain ⟨_, h, _⟩ := hr.2 h0; cases h
    subst h0
    have hx : xs = [] := List.eq_nil_of_length_eq_zero (by have := hr.1; omega)
    subst hx
    go_enter Try.func35, Try.ntmps35
    go_wp2_with fail
    go_ret
    exact ⟨_, rfl, OwnR.nil _ _ _, Chg.refl _ _⟩
  | some ad =>
    have hown : OwnR rkI (w.alloc (.cells #[] (rkI).e)) w.heap.size (.slice (some ⟨w.heap.size, 0, none⟩) 0 0) 0 [] := World.ownsRow_made w #[] 0 (Nat.le_refl _) (by unfold maxLen; omega) rfl
    have hr2 := hr.non ((Chg.refl _ w).alloc (.cells #[] (rkI).e))
    go_enter Try.func35, Try.ntmps35
    go_wp2_with (at_builtin; refine appR (K := rkI) rfl (.tmp 5) (.tmp 6) rfl hown rfl hr2 rfl h1 ?_ ?_ ?_; rotate_right; intro v2 w2 h2 h3 h4)
    · go_ret
      exact ⟨_, rfl, by simpa using h2, OwnR.chgApp hown ((Chg.refl _ w).alloc _) (Nat.le_refl _) h3⟩
    all_goals (first | omega | (simp; done))

set_option maxRecDepth 100000 in
theorem sameIDs_same (w : World) (A : Option Addr) (n c : Nat) (B : Option Addr) (c2 : Nat) (L : List ByteArray) (h1 : Rds w 1 A n (sv L)) (h2 : Rds w 1 B n (sv L)) (hn : n ≤ 9223372036854775807) :
    Calls Try.prog 11 #[.slice A n c, .slice B n c2] w fun e w2 => e = .returned (.bool true) ∧ Chg Non w w2 := by
  have H1 := Lib.hid h1
  have H2 := Lib.hid h2
  clear h1 h2
  go_enter Try.func11, Try.ntmps11
  go_wp2_with fail
  go_loopw [5] (fun i wr => ∃ k : Nat, k ≤ n ∧ i = .int .i64 k ∧ Chg Non w wr) (fun i _ => n - (intOf i).toNat)
  case atStart => exact ⟨0, Nat.zero_le _, rfl, Chg.refl _ _⟩
  case round =>
    obtain ⟨k, hk, rfl, hC⟩ := hrel
    by_cases hlt : k < n
    · obtain ⟨ad, x, rfl, hx, hc⟩ := H1.out.getS hlt
      obtain ⟨ad2, x2, rfl, hx2, hc2⟩ := H2.out.getS hlt
      obtain rfl : x2 = x := by rw [hx] at hx2; exact (Option.some.inj hx2).symm
      have a0 := hC.cell hc id
      have b0 := hC.cell hc2 id
      have b1 : (0 : Int) ≤ (k : Int) := by omega
      have b2 : (k : Int) < n := by omega
      clear hc hc2 hx hx2
      go_wp2_with fail
      go_quiet (fail)
      go_wp2_with fail
      go_roundw
      case rel => exact ⟨k + 1, by omega, by go_num, hC.drewN _⟩
      case measure => simp [intOf]; omega
    · go_wp2_with fail
      go_ret
      exact ⟨rfl, hC⟩
end Go.Proofs.Yteinbdifncdaiaa
