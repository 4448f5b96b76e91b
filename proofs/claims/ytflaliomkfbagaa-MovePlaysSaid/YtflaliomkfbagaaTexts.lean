/-
  pack.Bytes, gleanerref1.Bytes: texts behind bytes.
-/
import Derived.Test.YtflaliomkfbagaaPackInt
import Derived.Test.YtflaliomkfbagaaApp
import Derived.Test.YtflaliomkfbagaaGet
namespace Go.Proofs.Ytflaliomkfbagaa
open Go.RowKit
set_option linter.unusedVariables false

def text (t : List UInt8) : List UInt8 := num t.length ++ t
def texts (X : List (List UInt8)) : List UInt8 := X.flatMap text
theorem texts_step {X : List (List UInt8)} {k : Nat} {L : List UInt8} (h : X[k]? = some L) : texts (X.take (k + 1)) = texts (X.take k) ++ (num L.length ++ L) := by
  rw [List.take_add_one, h]; simp [texts, text]
theorem texts_drop {X : List (List UInt8)} {k : Nat} {L : List UInt8} (h : X[k]? = some L) : texts (X.drop k) = num L.length ++ L ++ texts (X.drop (k + 1)) := by
  have h1 := List.getElem?_eq_some_iff.1 h
  rw [List.drop_eq_getElem_cons h1.1, h1.2]
  simp [texts, text]
theorem texts_le (X : List (List UInt8)) (k : Nat) : (texts (X.take k)).length ≤ (texts X).length := by
  have h : texts X = texts (X.take k) ++ texts (X.drop k) := by unfold texts; rw [← List.flatMap_append, List.take_append_drop]
  rw [h, List.length_append]; omega
theorem texts_bound {X : List (List UInt8)} {q : Nat} (h : ∀ L ∈ X, L.length ≤ q) : (texts X).length ≤ (q + 10) * X.length := by
  induction X with
  | nil => simp [texts]
  | cons L X ih =>
    have h1 := ih fun M hM => h M (by simp [hM])
    have h2 := h L (by simp)
    have h3 := (num_len (L.length : Int)).2
    have h4 : texts (L :: X) = num L.length ++ L ++ texts X := by simp [texts, text]
    rw [h4, List.length_append, List.length_append, List.length_cons, Nat.mul_add]
    omega

theorem texts_ge (X : List (List UInt8)) : X.length ≤ (texts X).length := by
  induction X with
  | nil => simp
  | cons L X ih =>
    have h3 := (num_len (L.length : Int)).1
    have h4 : texts (L :: X) = num L.length ++ L ++ texts X := by simp [texts, text]
    rw [h4, List.length_append, List.length_append, List.length_cons]
    omega

/-- A row of texts as it lies. -/
def Txts (w : World) (A : Option Addr) (n : Nat) (X : List (List UInt8)) : Prop :=
  n = X.length ∧ ∀ k L, X[k]? = some L → ∃ ad B m c, A = some ad ∧ w.cell? (ad.add k) = some (.slice B m c) ∧ m ≤ c ∧ c ≤ maxLen ∧ Rds w 1 B m (bv L)
theorem Txts.non {w w2 : World} {A : Option Addr} {n : Nat} {X : List (List UInt8)} (h : Txts w A n X) (hc : Chg Non w w2) : Txts w2 A n X :=
  ⟨h.1, fun k L hk => by
    obtain ⟨ad, B, m, c, e, h1, h2, h3, h4⟩ := h.2 k L hk
    exact ⟨ad, B, m, c, e, hc.cell h1 id, h2, h3, h4.non hc⟩⟩
theorem Txts.get {w : World} {A : Option Addr} {n : Nat} {X : List (List UInt8)} (h : Txts w A n X) {k : Nat} (hk : k < n) :
    ∃ ad B m c L, A = some ad ∧ X[k]? = some L ∧ w.cell? (ad.add k) = some (.slice B m c) ∧ m ≤ c ∧ c ≤ maxLen ∧ Rds w 1 B m (bv L) := by
  have hl : k < X.length := by have := h.1; omega
  obtain ⟨ad, B, m, c, e, h1, h2, h3, h4⟩ := h.2 k _ (List.getElem?_eq_getElem hl)
  exact ⟨ad, B, m, c, _, e, List.getElem?_eq_getElem hl, h1, h2, h3, h4⟩

set_option maxRecDepth 100000 in
set_option maxHeartbeats 400000 in
theorem packBytes_any (A : Option Addr) (n c : Nat) (b : List UInt8) (A2 : Option Addr) (m c2 : Nat) (X : List (List UInt8)) (w : World) (hr : Rds w 1 A n (bv b)) (hx : Txts w A2 m X)
    (hn : b.length + (texts X).length ≤ 140737488350000) :
    Calls Try.prog 76 #[.slice A n c, .slice A2 m c2] w fun e w2 => ∃ v, e = .returned v ∧ Own8 w2 w.heap.size v (b ++ texts X) ∧ Chg Non w w2 := by
  have hml := hx.1
  have hmb : m ≤ 140737488350000 := by have := texts_ge X; omega
  go_enter Try.func76, Try.ntmps76
  have Hml := Lib.hid hml; clear hml
  go_wp2_with (go_at_call 75; refine (clone_any _ _ _ _ _ hr (by omega)).mono ?_; rintro e w1 ⟨v, rfl, hown, hchg⟩)
  go_loopw [0, 6, 11] (fun v _ i wr => ∃ k : Nat, k ≤ m ∧ i = .int .i64 k ∧ Own8 wr w.heap.size v (b ++ texts (X.take k)) ∧ Chg Non w wr) (fun _ _ i _ => m - (intOf i).toNat)
  case atStart => exact ⟨0, Nat.zero_le _, rfl, by simpa [texts] using hown, hchg⟩
  case round =>
    clear hown hchg
    obtain ⟨k, hk, rfl, hown, hchg⟩ := hrel
    by_cases hlt : k < m
    · obtain ⟨ad, B, m3, c3, L, rfl, hX, hcell, hm3, hc3, hrL⟩ := hx.get hlt
      have hc2 := hchg.cell hcell (by exact id)
      have hst := texts_step hX
      have hle := texts_le X (k + 1)
      have hm3L := hrL.lenMap
      have h64 : m3 ≤ 9223372036854775807 := by unfold maxLen at hc3; omega
      have hlen : b.length + (texts (X.take k)).length + (num L.length).length + L.length ≤ 140737488350000 := by
        rw [hst] at hle; simp only [List.length_append] at hle; omega
      have Hst := Lib.hid hst; clear hst hle
      have hrLw := hrL.non hchg
      obtain ⟨A5, n5, c5, rfl, hn5, h51, h52, hr5⟩ := hown.open_
      have HmL := Lib.hid hm3L; clear hm3L
      have hL64 : i64 (m3 : Int) := by unfold i64; omega
      go_wp2_with fail
      have hC1 : Chg Non wr (wr.alloc (.cells #[.int .i64 (m3 : Int)] 3)) := (Chg.refl _ _).alloc _
      refine (packInt_any _ _ _ (b ++ texts (X.take k)) _ _ _ [(m3 : Int)] _ (hr5.non hC1) (Rds.one wr _ _) (by simpa using hL64) (by simp; omega)).mono ?_
      rintro e w4 ⟨v4, rfl, h7, hc5⟩
      have hC5 : Chg Non wr w4 := hC1.non hc5
      have h8 : Own8 w4 w.heap.size v4 (b ++ texts (X.take k) ++ num m3) := by
        have := own_mono h7 (show w.heap.size ≤ _ from Nat.le_trans hchg.size hC1.size)
        simpa [nums, Own8] using this
      have hrL5 := hrLw.non hC5
      have hC6 := hchg.non hC5
      clear h7
      go_wp2_with (at_builtin; refine app8b rfl (.tmp 19) (.tmp 20) rfl h8 rfl hrL5 rfl ?_ ?_ ?_; (next => (have := HmL.out; subst this; simp; omega)); (next => exact hC6.size); intro v2 w2 h2 h3 h4)
      go_roundw
      case rel => exact ⟨k + 1, by omega, by go_num, by rw [Hst.out, ← HmL.out]; simpa using h2, h8.chgApp hC6 (Nat.le_refl _) h3⟩
      case measure => simp [intOf]; omega
    · go_wp2_with fail
      go_ret
      exact ⟨_, rfl, by rw [List.take_of_length_le (by have := Hml.out; omega)] at hown; exact hown, hchg⟩
end Go.Proofs.Ytflaliomkfbagaa
