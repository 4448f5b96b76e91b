/-
  gleanerref14: has, without; Giver: place, note, Own, drop.
-/
import Derived.Test.YtflaliomkfbagaaMpRefS
import Derived.Test.YtflaliomkfbagaaMpSmall
namespace Go.Proofs.Ytflaliomkfbagaa
section
open Go.RowKit
set_option linter.unusedVariables false
set_option linter.unusedSimpArgs false

theorem flat_take {α : Type} {f : α → List Value} {m : Nat} (hf : ∀ x, (f x).length = m) : ∀ (L : List α) (k : Nat), (L.flatMap f).take (k * m) = (L.take k).flatMap f
  | [], k => by simp
  | x :: L, 0 => by simp
  | x :: L, k + 1 => by
    rw [List.flatMap_cons, List.take_succ_cons, List.flatMap_cons, Nat.succ_mul, Nat.add_comm, ← hf x, List.take_length_add_append, hf x, flat_take hf L k]
theorem flat_drop {α : Type} {f : α → List Value} {m : Nat} (hf : ∀ x, (f x).length = m) : ∀ (L : List α) (k : Nat), (L.flatMap f).drop (k * m) = (L.drop k).flatMap f
  | [], k => by simp
  | x :: L, 0 => by simp
  | x :: L, k + 1 => by
    rw [List.flatMap_cons, List.drop_succ_cons, Nat.succ_mul, Nat.add_comm, ← hf x, List.drop_length_add_append, hf x, flat_drop hf L k]
theorem OwnR.lenS2 {w : World} {base n : Nat} {v : Value} {l : List ByteArray} (h : OwnR rkI w base v n (sv l)) : n = l.length := by
  have h1 := h.len
  have e : (rkI).size = 1 := rfl
  rw [e] at h1
  simp [sv] at h1
  exact h1.symm
theorem hasL_false {W : List ByteArray} {c : ByteArray} : hasL W c = false ↔ c ∉ W := by
  rw [← hasL_true, Bool.not_eq_true]
theorem refHas_any (w : World) (A : Option Addr) (n c : Nat) (L : List ByteArray) (s : ByteArray) (h1 : Rds w 1 A n (sv L)) (hn : n ≤ 9223372036854775807) :
    Calls Try.prog 44 #[.slice A n c, .string s] w fun e w2 => e = .returned (.bool (hasL L s)) ∧ w = w2 := by
  have H1 := Lib.hid h1
  clear h1
  go_enter Try.func44, Try.ntmps44
  go_wp2_with fail
  go_loop [5] (fun i => ∃ k : Nat, k ≤ n ∧ i = .int .i64 k ∧ Hid (∀ j, j < k → L[j]? ≠ some s)) (fun i => n - (intOf i).toNat)
  case atStart => exact ⟨0, Nat.zero_le _, rfl, (fun j h => by omega)⟩
  case round =>
    obtain ⟨k, hk, rfl, hno⟩ := hrel
    by_cases hlt : k < n
    · obtain ⟨ad, x, rfl, hx, hc⟩ := H1.out.getS hlt
      by_cases heq : x = s
      · subst heq
        have Hres := Lib.hid (hasL_true.2 (List.mem_of_getElem? hx))
        clear hx hno
        go_wp2_with fail
        go_ret
        exact ⟨by rw [Hres.out]; rfl, rfl⟩
      · have e2 := str_ne heq
        have hno2 : Hid (∀ j, j < k + 1 → L[j]? ≠ some s) := by
          intro j hj
          rcases Nat.lt_or_ge j k with h | h
          · exact hno.out j h
          · obtain rfl : j = k := by omega
            rw [hx]
            intro e
            exact heq (Option.some.inj e)
        clear heq hx hno
        go_wp2_with fail
        go_round
        case rel => exact ⟨k + 1, by omega, by go_num, hno2⟩
        case measure => simp [intOf]; omega
    · have hres : hasL L s = false := by
        rw [hasL_false]
        intro hm
        obtain ⟨j, hj⟩ := List.getElem?_of_mem hm
        have hjl := (List.getElem?_eq_some_iff.1 hj).1
        have hl := H1.out.lenMap (f := Value.string)
        exact hno.out j (by omega) hj
      have Hres := Lib.hid hres
      clear hres hno
      go_wp2_with fail
      go_ret
      exact ⟨by rw [Hres.out]; rfl, rfl⟩

theorem rem_snoc (L : List ByteArray) (x s : ByteArray) : remL (L ++ [x]) s = if x = s then remL L s else remL L s ++ [x] := by
  unfold remL
  rw [List.filter_append]
  by_cases h : x = s <;> simp [h]
theorem rem_le (L : List ByteArray) (s : ByteArray) : (remL L s).length ≤ L.length := List.length_filter_le _ _

set_option maxRecDepth 100000 in
theorem refWithout_any (w : World) (A : Option Addr) (n c : Nat) (L : List ByteArray) (s : ByteArray) (h1 : Rds w 1 A n (sv L)) (hn : n ≤ 1000000) :
    Calls Try.prog 47 #[.slice A n c, .string s] w fun e w2 => ∃ v m, e = .returned v ∧ m = (remL L s).length ∧ OwnR rkI w2 w.heap.size v m (sv (remL L s)) ∧ Chg Non w w2 := by
  have H1 := Lib.hid h1
  have Hnl := Lib.hid (h1.lenMap (f := Value.string))
  clear h1
  go_enter Try.func47, Try.ntmps47
  go_wp2_with fail
  go_loopw [5, 6] (fun v i wr => ∃ k m : Nat, k ≤ n ∧ i = .int .i64 k ∧ m ≤ k ∧ Hid (m = (remL (L.take k) s).length) ∧ OwnR rkI wr w.heap.size v m (sv (remL (L.take k) s)) ∧ Chg Non w wr) (fun _ i _ => n - (intOf i).toNat)
  case atStart => exact ⟨0, 0, Nat.zero_le _, rfl, Nat.le_refl _, rfl, OwnR.nil _ _ _, Chg.refl _ _⟩
  case round =>
    obtain ⟨k, m, hk, rfl, hmk, hm, ho, hC⟩ := hrel
    by_cases hlt : k < n
    · obtain ⟨ad, x, rfl, hx, hc0⟩ := H1.out.getS hlt
      have a0 := hC.cell hc0 id
      have hst : remL (L.take (k + 1)) s = if x = s then remL (L.take k) s else remL (L.take k) s ++ [x] := by
        rw [List.take_add_one, hx]
        exact rem_snoc _ _ _
      by_cases heq : x = s
      · subst heq
        rw [if_pos rfl] at hst
        rw [← hst] at ho hm
        clear hx hst hc0
        go_wp2_with fail
        go_roundw
        case rel => exact ⟨k + 1, m, by omega, by go_num, by omega, hm, ho, hC⟩
        case measure => simp [intOf]; omega
      · rw [if_neg heq] at hst
        have Hst := Lib.hid hst
        have e2 := str_ne heq
        clear hx hst heq hc0
        have hsz := hC.size
        go_wp2_with (at_builtin; refine appR1 (K := rkI) rfl (.tmp 19) (.tmp 24) rfl ho rfl (cs := #[.string x]) rfl rfl (sv_one [x]) ?_ ?_ ?_; (next => omega); (next => omega); intro v6 w6 o6 c6 _)
        have hC6 := ho.chgApp hC (Nat.le_refl _) c6
        rw [show sv (remL (L.take k) s) ++ (#[.string x] : Array Value).toList = sv (remL (L.take (k + 1)) s) from by rw [Hst.out]; simp [sv]] at o6
        have hm6 : Hid (m + 1 = (remL (L.take (k + 1)) s).length) := by show _ = _; rw [Hst.out, List.length_append, List.length_singleton, ← hm.out]
        clear ho hC c6
        go_roundw
        case rel => exact ⟨k + 1, m + 1, by omega, by go_num, by omega, hm6, o6, hC6⟩
        case measure => simp [intOf]; omega
    · have hst : L.take k = L := List.take_of_length_le (by have := Hnl.out; omega)
      rw [hst] at ho hm
      clear hst
      go_wp2_with fail
      go_ret
      exact ⟨_, m, rfl, hm.out, ho, hC⟩

set_option maxRecDepth 100000 in
set_option maxHeartbeats 1000000 in
theorem refPlace_any (w : World) (F : Nat → Prop) (g : Nat) (r : RgS) (a : ByteArray) (h : Rg w F g r) :
    Calls Try.prog 45 #[.pointer (some ⟨g, 0, none⟩), .string a] w fun e w2 => e = .returned (.int .i64 (iO r.O a)) ∧ w = w2 := by
  obtain ⟨A1, n1, c1, A, n, c, h, hF⟩ := h
  have hn := h.hn2
  have c2 : w.cell? ⟨g, 2, none⟩ = some (.slice A n c) := h.hb.cell 2
  have hg := h.hb.lt
  have Ho := Lib.hid h.hO
  have h2 : n ≤ c ∧ c ≤ maxLen := by obtain ⟨A', c', e, h1, h2, _⟩ := h.hO.open_; injection e with _ _ e3; subst e3; exact ⟨h1, h2⟩
  unfold maxLen at h2
  obtain ⟨h1, h2⟩ := h2
  obtain ⟨O, hO⟩ : ∃ O, r.O = O := ⟨_, rfl⟩
  rw [hO] at hn Ho ⊢
  clear h hF hO
  go_enter Try.func45, Try.ntmps45
  go_wp2_with fail
  go_loop [5] (fun i => ∃ k : Nat, k ≤ n ∧ i = .int .i64 k ∧ Hid (∀ j y, j < k → O[j]? = some y → y.id ≠ a)) (fun i => n - (intOf i).toNat)
  case atStart => exact ⟨0, Nat.zero_le _, rfl, fun j y h => by omega⟩
  case round =>
    obtain ⟨k, hk, rfl, hno⟩ := hrel
    by_cases hlt : k < n
    · obtain ⟨gb, cc, hv, _⟩ := Ho.out.form (by omega)
      injection hv with e1 e2 e3
      subst e1 e3
      have hkl : k < O.length := by have := hn.out; omega
      obtain ⟨x, hx⟩ : ∃ x, O[k]? = some x := ⟨_, List.getElem?_eq_getElem hkl⟩
      have q : w.cell? ⟨gb, k * 4, none⟩ = some (.string x.id) := Ho.out.cellN cellRg_len hx (j := 0) rfl
      by_cases he : x.id = a
      · have Hi := Lib.hid (iO_some (pO_at hno.out hx he))
        have t1 : (x.id.toList == a.toList) = true := by rw [he]; exact beq_self_eq_true _
        clear hx hno he
        go_wp2_with fail
        go_ret
        exact ⟨by rw [Hi.out]; rfl, rfl⟩
      · have hno2 : Hid (∀ j y, j < k + 1 → O[j]? = some y → y.id ≠ a) := by
          intro j y hj hy
          by_cases h : j < k
          · exact hno.out j y h hy
          · obtain rfl : j = k := by omega
            rw [hx] at hy
            cases hy
            exact he
        have t1 := str_ne he
        clear hx hno he
        go_wp2_with fail
        go_round
        case rel => exact ⟨k + 1, by omega, by go_num, hno2⟩
        case measure => simp [intOf]; omega
    · have Hi := Lib.hid (iO_none (L := O) (a := a) (pO_no (fun y hy => by
        obtain ⟨j, hj, e⟩ := List.getElem_of_mem hy
        exact hno.out j y (by have := hn.out; omega) (by rw [List.getElem?_eq_getElem hj, e]))))
      clear hno
      go_wp2_with fail
      go_ret
      exact ⟨by rw [Hi.out]; rfl, rfl⟩

set_option maxRecDepth 100000 in
set_option maxHeartbeats 2000000 in
theorem refNote_any (w : World) (x : Oe) : Calls Try.prog 48 #[.agg #[.string x.id, .int .i64 x.o.to, .int .i64 x.o.epoch, .int .i64 x.o.num]] w fun e w2 => e = .returned (offV x.o x.id) ∧ Chg Non w w2 := by
  obtain ⟨a, ⟨to, ep, nm⟩⟩ := x
  go_enter Try.func48, Try.ntmps48
  go_wp2_with fail
  refine bodyPost_ret (v := offV ⟨to, ep, nm⟩ a) (by simp [results, Try.results48, go_sem, offV, offN, NtC, Nt.zero]) rfl ⟨rfl, ((Chg.refl _ _).alloc _).alloc _⟩

def dropR (r : RgS) (k : Nat) : RgS := { r with O := r.O.eraseIdx k }
set_option maxRecDepth 100000 in
set_option maxHeartbeats 2000000 in
theorem refDrop_any (w : World) (F : Nat → Prop) (g : Nat) (r : RgS) (k : Nat) (h : Rg w F g r) (hk : k < r.O.length) (hl : r.O.length ≤ 1000000) :
    Calls Try.prog 50 #[.pointer (some ⟨g, 0, none⟩), .int .i64 k] w fun e w2 => e = .returned (.tuple #[]) ∧ ∃ F3, Rg w2 F3 g (dropR r k) ∧ (∀ b, F3 b → F b ∨ w.heap.size ≤ b) ∧ Chg F w w2 := by
  obtain ⟨A1, n1, c1, A, n, c, h, hF⟩ := h
  have Hp := Lib.hid hF
  have hn := h.hn2.out
  have c2 : w.cell? ⟨g, 2, none⟩ = some (.slice A n c) := h.hb.cell 2
  have hcap : n ≤ c := by obtain ⟨_, _, e, hh, _⟩ := h.hO.open_; injection e with _ _ e3; omega
  have hrU := h.hO.rds.cutA (k := k + 1) (c := c) (by omega) hcap
  have hrD := h.hO.rds.upto (k := k) (by omega)
  have eU : (Rgvs r.O).drop ((k + 1) * 4) = Rgvs (r.O.drop (k + 1)) := flat_drop cellRg_len _ _
  have eD : (Rgvs r.O).take (k * 4) = Rgvs (r.O.take k) := flat_take cellRg_len _ _
  rw [show (rkRg).size = 4 from rfl] at hrU hrD
  rw [eU] at hrU
  rw [eD] at hrD
  have s1 : ∀ wx, (Instr.slice 77 (.slice A n c) (some (.int .i64 ((k : Int) + 1))) none none).run Try.prog wx = .ok (.slice (cutA A c (k + 1) 4) (n - (k + 1)) (c - (k + 1))) wx := fun wx =>
    run_slice_lo (P := Try.prog) Try.underlying77 4 (by kernel_rfl) (by kernel_rfl) (kl := .i64) (i := (k : Int) + 1) (k := k + 1) (n := n) (by omega) (by omega) A c wx
  have s2 : ∀ wx, (Instr.slice 77 (.slice A n c) none (some (.int .i64 (k : Int))) none).run Try.prog wx = .ok (.slice A k c) wx := fun wx =>
    run_slice_hi (P := Try.prog) Try.underlying77 (by kernel_rfl) (kl := .i64) (i := (k : Int)) (k := k) rfl (by omega) A n wx
  have HA := Lib.hid h
  have hgl := h.hb.lt
  have hO : Hid (r.O.take k ++ r.O.drop (k + 1) = r.O.eraseIdx k) := (List.eraseIdx_eq_take_drop_succ _ _).symm
  have Hn := Lib.hid hn
  have hkn : k < n := by omega
  have hnm : n ≤ 1000000 := by omega
  clear h hF eU eD hn hk hl
  go_enter Try.func50, Try.ntmps50
  go_wp2_with (first
    | (at_builtin; refine appRn (K := rkRg) rfl (.tmp 11) rfl hrU rfl (flat_one cellRg_one _) (by omega) ?_; intro A5 d5 w5 o5 C5; have c25 := C5.cell c2 id; have hg5 := C5.size; have hrD5 := hrD.non C5)
    | (at_builtin; refine appRn (K := rkRg) rfl (.tmp 19) rfl hrD5 rfl (flat_one cellRg_one _) (by omega) ?_; intro A6 d6 w6 o6 C6; have o56 := o5.non C6; have hg6 := C6.size)
    | (at_builtin; refine appRs (K := rkRg) rfl (.tmp 20) (.tmp 21) rfl o6 rfl o56.rds rfl (flat_one cellRg_one _) (by omega) (by omega) ?_; intro A7 d7 w7 o7 C7 hv7; have C57 := (C5.trans C6).trans2 C7 (fun b e => .inr (by have := (o6.lt e).1; omega)); have hb7 := HA.out.hb.non C57; have f7 := hb7.frozen 2; have k7 : w7.cell? ⟨g, 2, none⟩ = some (.slice A n c) := hb7.cell 2; have hgl7 := hb7.lt))
  go_end0
  have o8 : OwnR rkRg w7 0 (.slice A7 (k + (n - (k + 1))) d7) (k + (n - (k + 1))) (Rgvs (r.O.eraseIdx k)) := by
    rw [← hO.out]
    have := o7.mono (b2 := 0) (Nat.zero_le _)
    rwa [show Rgvs (r.O.take k) ++ Rgvs (r.O.drop (k + 1)) = Rgvs (r.O.take k ++ r.O.drop (k + 1)) from (List.flatMap_append ..).symm] at this
  obtain ⟨F3, h2, h3, h4⟩ := (HA.out.swapO (R := r.O.eraseIdx k) C57 (fun _ e => e.elim) o8 (by rw [List.length_eraseIdx, if_pos (by have := Hn.out; omega)]; have := Hn.out; omega) (fun b hb => .inr ((hv7 b hb).elim (fun e => by have := (o6.lt e).1; omega) (fun e => by omega)))).ref
  rw [Hp.out]
  exact ⟨rfl, F3, h2, h3, h4⟩
end

section
open Go.RowKit
set_option linter.unusedVariables false
set_option linter.unusedSimpArgs false

/-- What a call leaves, its result told. -/
theorem Rg.open_ {w : World} {F : Nat → Prop} {g : Nat} {r : RgS} (h : Rg w F g r) : ∃ A n c A2 n2 c2, RgAt w g r A n c A2 n2 c2 ∧ Hid (F = F2 g (.slice A n c) (.slice A2 n2 c2)) ∧ n = r.H.length ∧ n2 = r.O.length := by
  obtain ⟨A, n, c, A2, n2, c2, h, hF⟩ := h
  exact ⟨A, n, c, A2, n2, c2, h, hF, h.hn.out, h.hn2.out⟩
theorem Rg.Fg {w : World} {F : Nat → Prop} {g : Nat} {r : RgS} (h : Rg w F g r) : F g := by
  obtain ⟨A, n, c, A2, n2, c2, h, rfl⟩ := h
  exact .inl rfl

set_option maxRecDepth 100000 in
set_option maxHeartbeats 4000000 in
theorem refOwn_any (w : World) (F : Nat → Prop) (g : Nat) (r : RgS) (h : Rg w F g r) (hok : okR r) (hHl : r.H.length ≤ 500000) (A : Option Addr) (q c : Nat) (I : List ByteArray) (hr : Rds w 1 A q (sv I)) (hA : ∀ ad, A = some ad → 0 < q → ¬ F ad.block) (hq : q ≤ 100000) (hI : ∀ a ∈ I, a.size ≤ 1000000) :
    Calls Try.prog 25 #[.pointer (some ⟨g, 0, none⟩), .slice A q c] w (RgPost w F g (.int .i64 (ownR r I).2) (ownR r I).1) := by
  have Hll := Lib.hid (hr.lenMap (f := Value.string))
  have HI := Lib.hid hI
  have hAl : ∀ ad, A = some ad → 0 < q → ad.block < w.heap.size := fun ad e h => by
    obtain ⟨ad2, x, e2, _, h3⟩ := hr.getS h
    rw [e] at e2
    obtain rfl := Option.some.inj e2
    have h4 := World.block_lt_of_cell? w _ h3
    rw [block_add] at h4
    exact h4
  have Hr := Lib.hid hr
  have Hbd : Hid (∀ k, k ≤ q → (ownR r (I.take k)).1.H.length ≤ 600000 ∧ 0 ≤ (ownR r (I.take k)).2 ∧ (ownR r (I.take k)).2 ≤ k) := fun k hk => by
    have h1 := ownR_len r hok (I.take k)
    have h2 : (I.take k).length ≤ k := by rw [List.length_take]; omega
    have h3 : ∀ (I : List ByteArray) (p : RgS × Int), p.2 ≤ (I.foldl ownR1 p).2 ∧ (I.foldl ownR1 p).2 ≤ p.2 + I.length := by
      intro I
      induction I with
      | nil => intro p; simp
      | cons a I ih =>
        intro p
        have := ih (ownR1 p a)
        rw [List.foldl_cons, List.length_cons]
        have h4 : p.2 ≤ (ownR1 p a).2 ∧ (ownR1 p a).2 ≤ p.2 + 1 := by
          unfold ownR1
          split
          · exact ⟨by show p.2 ≤ p.2 + 1; omega, by show p.2 + 1 ≤ p.2 + 1; omega⟩
          · omega
        omega
    have h5 := h3 (I.take k) (r, 0)
    have h6 : (ownR r (I.take k)).2 = ((I.take k).foldl ownR1 (r, 0)).2 := rfl
    exact ⟨by omega, by rw [h6]; exact h5.1, by rw [h6]; have := h5.2; show _ ≤ _; have e : ((r, (0 : Int)) : RgS × Int).2 = 0 := rfl; rw [e] at this; omega⟩
  clear hr hI hok hHl
  go_enter Try.func25, Try.ntmps25
  go_wp2_with fail
  go_loopw [5, 6] (fun p i wr => ∃ (k : Nat) (F3 : Nat → Prop), k ≤ q ∧ i = .int .i64 k ∧ p = .int .i64 (ownR r (I.take k)).2 ∧ Rg wr F3 g (ownR r (I.take k)).1 ∧ (∀ b, F3 b → F b ∨ w.heap.size ≤ b) ∧ Chg F w wr) (fun _ i _ => q - (intOf i).toNat)
  case atStart => exact ⟨0, F, Nat.zero_le _, rfl, rfl, h, fun b h => .inl h, Chg.refl _ _⟩
  case round =>
    clear h
    obtain ⟨k, F3, hk, rfl, rfl, hRg, hF3, hC⟩ := hrel
    by_cases hlt : k < q
    · obtain ⟨ad, a, rfl, ha, hca⟩ := Hr.out.getS hlt
      have hTF : ¬ F3 ad.block := fun h => (hF3 _ h).elim (hA ad rfl (by omega)) (fun h => by have := hAl ad rfl (by omega); omega)
      have a0 := hC.cell hca (by rw [block_add]; exact hA ad rfl (by omega))
      have al := World.block_lt_of_cell? wr _ a0
      have has := HI.out a (List.mem_of_getElem? ha)
      have hst := ownR_step ha r
      have hval := refValid_any a wr (by omega)
      obtain ⟨hb1, hb2, hb3⟩ := Hbd.out k hk
      generalize hT : ownR r (I.take k) = T at hst hRg hb1 hb2 hb3 ⊢
      clear ha hca hT
      obtain ⟨r2, cnt⟩ := T
      have hRg : Rg wr F3 g r2 := hRg
      have hb1 : r2.H.length ≤ 600000 := hb1
      have hb2 : 0 ≤ cnt := hb2
      have hb3 : cnt ≤ (k : Int) := hb3
      show _
      cases hv : vid a with
      | false =>
        have hst2 : Hid (ownR r (I.take (k + 1)) = (r2, cnt)) := by show _ = _; rw [hst]; unfold ownR1; rw [hv]; rfl
        rw [hv] at hval
        clear hst hv
        go_wp2_with fail
        refine hval.mono ?_
        rintro e w9 ⟨rfl, rfl⟩
        go_wp2_with fail
        go_quiet (fail)
        go_wp2_with fail
        go_roundw
        case rel => exact ⟨k + 1, F3, by omega, by go_num, by rw [hst2.out], by rw [hst2.out]; exact hRg.non ((Chg.refl _ _).drewN _), hF3, hC.drewN _⟩
        case measure => simp [intOf]; omega
      | true =>
        rw [hv] at hval
        have hpl : ∀ j, Calls Try.prog 45 #[.pointer (some ⟨g, 0, none⟩), .string a] (wr.drewN j) fun e w2 => e = .returned (.int .i64 (iO r2.O a)) ∧ wr.drewN j = w2 := fun j => refPlace_any (wr.drewN j) F3 g r2 a (hRg.non ((Chg.refl _ _).drewN _))
        have HRg := Lib.hid hRg
        have hFg := hRg.Fg
        obtain ⟨A1, n1, c1, A2, n2, c2, hat, hF, hn1, hn2⟩ := hRg.open_
        have hn1l : n1 ≤ 600000 := by omega
        have k1 : wr.cell? ⟨g, 1, none⟩ = some (.slice A1 n1 c1) := hat.hb.cell 1
        have hgl := hat.hb.lt
        have hhas : ∀ j, Calls Try.prog 44 #[.slice A1 n1 c1, .string a] (wr.drewN j) fun e w2 => e = .returned (.bool (hasL r2.H a)) ∧ wr.drewN j = w2 := fun j => refHas_any (wr.drewN j) A1 n1 c1 r2.H a (hat.hH.rds.non ((Chg.refl _ _).drewN _)) (by omega)
        have Hat := Lib.hid hat
        clear hat hRg hn1 hn2
        cases hh : hasL r2.H a with
        | true =>
          rw [hh] at hhas
          have hst2 : Hid (ownR r (I.take (k + 1)) = (r2, cnt)) := by show _ = _; rw [hst]; unfold ownR1; rw [hh]; simp
          clear hst hv hh
          go_wp2_with fail
          refine hval.mono ?_
          rintro e w9 ⟨rfl, rfl⟩
          go_wp2_with fail
          go_quiet (first | (go_at_call 44; exact quietW (hhas _)) | (go_at_call 45; exact quietW (hpl _)))
          go_wp2_with fail
          go_roundw
          case rel => exact ⟨k + 1, F3, by omega, by go_num, by rw [hst2.out], by rw [hst2.out]; exact HRg.out.non ((Chg.refl _ _).drewN _), hF3, hC.drewN _⟩
          case measure => simp [intOf]; omega
        | false =>
        rw [hh] at hhas
        cases hf : pO r2.O a with
        | some j =>
          rw [iO_some hf] at hpl
          have hst2 : Hid (ownR r (I.take (k + 1)) = (r2, cnt)) := by show _ = _; rw [hst]; unfold ownR1; rw [hf]; simp
          have hjn : (0 : Int) ≤ (j : Int) := by omega
          clear hst hv hf hh
          go_wp2_with fail
          refine hval.mono ?_
          rintro e w9 ⟨rfl, rfl⟩
          go_wp2_with fail
          go_quiet (first | (go_at_call 44; exact quietW (hhas _)) | (go_at_call 45; exact quietW (hpl _)))
          go_wp2_with fail
          go_roundw
          case rel => exact ⟨k + 1, F3, by omega, by go_num, by rw [hst2.out], by rw [hst2.out]; exact HRg.out.non ((Chg.refl _ _).drewN _), hF3, hC.drewN _⟩
          case measure => simp [intOf]; omega
        | none =>
          rw [iO_none hf] at hpl
          have hst2 : Hid (ownR r (I.take (k + 1)) = ({ r2 with H := riseS a r2.H }, cnt + 1)) := by show _ = _; rw [hst]; unfold ownR1; rw [hf, hh, hv]; simp
          have hwr : IntKind.i64.wrap (cnt + 1) = cnt + 1 := by rw [IntKind.wrap_i64]; omega
          clear hst hv hf hh
          go_wp2_with fail
          refine hval.mono ?_
          rintro e w9 ⟨rfl, rfl⟩
          go_wp2_with fail
          go_quiet (first | (go_at_call 44; exact quietW (hhas _)) | (go_at_call 45; exact quietW (hpl _)))
          obtain ⟨wq, hwq⟩ : ∃ wq, wr.drewN nq = wq := ⟨_, rfl⟩
          have hcq : Chg Non wr wq := hwq ▸ (Chg.refl _ wr).drewN _
          have hat2 := Hat.out.non hcq
          have Hat2 := Lib.hid hat2
          have hcell := hcq.cell a0 id
          have k1q : wq.cell? ⟨g, 1, none⟩ = some (.slice A1 n1 c1) := hat2.hb.cell 1
          have hglq := hat2.hb.lt
          have alq := World.block_lt_of_cell? wq _ hcell
          have hCq := hC.non hcq
          rw [hwq]
          have kk : ∀ wx, Chg Non wq wx → wx.cell? ⟨g, 1, none⟩ = some (.slice A1 n1 c1) := fun wx h => h.cell k1q id
          have ka : ∀ wx, Chg Non wq wx → wx.cell? (ad.add k) = some (.string a) := fun wx h => h.cell hcell id
          have b1 : (0 : Int) ≤ (k : Int) := by omega
          have b2 : (k : Int) < q := by omega
          have hglx : ∀ wx, Chg Non wq wx → g < wx.heap.size := fun wx h => Nat.lt_of_lt_of_le hglq h.size
          clear hwq hat2 k1 hgl a0 al
          go_wp2_with fail
          refine st_region_tail 8 12 Non [9] [] (fun _ _ v w2 => ∃ m, OwnR rkI w2 0 v m (sv (riseS a r2.H)) ∧ ∀ b, v.ownBlock = some b → (Value.slice A1 n1 c1).ownBlock = some b ∨ wq.heap.size ≤ b) (fun _ _ _ _ => True) (fun _ _ v => ∃ A n c, v = .slice A n c) (fun _ => True) (by kernel_rfl) (by kernel_rfl) (by kernel_rfl) (fun _ h => h.elim) trivial (fun _ _ h => h) ?_
          repeat (first | (refine st_pass (by rfl) ?_; simp only [Act.put, List.setIfInBounds_toArray, List.set_cons_succ, List.set_cons_zero]) | (refine st_plain (Non) (wq) rfl rfl (f := ?_) (by rfl) rfl rfl (fun w hC hG => ?_) ?_; rotate_left; (clear hG; first | (go_simp; done) | (go_simp; with_reducible rfl) | (simp [*, go_sem, ↓IntWalk.iteOmega]; done) | (simp [*, go_sem, ↓IntWalk.iteOmega]; with_reducible rfl)); simp only [Act.put, List.setIfInBounds_toArray, List.set_cons_succ, List.set_cons_zero]))
          refine st_major (Non) (wq) rfl rfl (by rfl) rfl (⟨.slice none 0 0, none, 0, 0, rfl⟩) (fun _ _ _ _ _ _ => trivial) (fun v wx ob h => h.imp fun m h => ⟨h.1.alloc ob, h.2⟩) (fun w hC hG hS => settle_of (r2 := ?_) ?_ ?_) ?_
          rotate_left
          (first | (go_simp; done) | (go_simp; rfl))
          · refine settle_enter ((putS_any w 0 (.slice A1 n1 c1) n1 r2.H a (Hat2.out.hH.non hC) (Nat.zero_le _) (by omega)).mono ?_)
            rintro e w6 ⟨v6, m6, rfl, o6, c6, hv6⟩
            obtain ⟨A6, d6, rfl, _⟩ := o6.open_
            exact ⟨_, rfl, ⟨_, _, _, rfl⟩, c6, ⟨m6, o6, fun b hb => (hv6 b hb).imp id (fun h => Nat.le_trans hC.size h)⟩, trivial⟩
          rintro v4 ⟨A6, m6, d6, rfl⟩
          simp only [Act.put, List.setIfInBounds_toArray, List.set_cons_succ, List.set_cons_zero]
          repeat (first | (refine st_pass (by rfl) ?_; simp only [Act.put, List.setIfInBounds_toArray, List.set_cons_succ, List.set_cons_zero]) | (refine st_plain (Non) (wq) rfl rfl (f := ?_) (by rfl) rfl rfl (fun w hC hG => ?_) ?_; rotate_left; (clear hG; first | (go_simp; done) | (go_simp; with_reducible rfl) | (simp [*, go_sem, ↓IntWalk.iteOmega]; done) | (simp [*, go_sem, ↓IntWalk.iteOmega]; with_reducible rfl)); simp only [Act.put, List.setIfInBounds_toArray, List.set_cons_succ, List.set_cons_zero]))
          refine st_tail Non wq rfl rfl rfl (fun w6 c6 hS7 _ => ?_)
          simp only [List.drop_succ_cons, List.drop_zero]
          obtain ⟨m7, o6, hv6⟩ : ∃ m, OwnR rkI w6 0 (.slice A6 m6 d6) m (sv (riseS a r2.H)) ∧ ∀ b, (Value.slice A6 m6 d6).ownBlock = some b → (Value.slice A1 n1 c1).ownBlock = some b ∨ wq.heap.size ≤ b := hS7
          obtain rfl : m6 = m7 := by obtain ⟨_, _, e, _⟩ := o6.open_; injection e
          have hsw := Lib.hid (Hat2.out.swapH (R := riseS a r2.H) c6 (fun _ e => e.elim) o6 o6.lenS2 hv6)
          have k6 := Hat2.out.hb.non c6
          have f6 := k6.frozen 1
          have c16 : w6.cell? ⟨g, 1, none⟩ = some (.slice A1 n1 c1) := k6.cell 1
          have hgl6 := k6.lt
          clear k6 o6 hv6 k1q hglq hcell alq kk ka hglx
          go_wp2_with fail
          obtain ⟨F4, h2, h3, h4⟩ := hsw.out.ref
          rw [← hF.out] at h3 h4
          have hC4 : Chg F w (w6.setCell ⟨g, 1, none⟩ (.slice A6 m6 d6)) := hCq.trans2 h4 hF3
          have hF4 : ∀ b, F4 b → F b ∨ w.heap.size ≤ b := fun b hb => (h3 b hb).elim (hF3 b) (fun h => .inr (Nat.le_trans hCq.size h))
          go_roundw
          case rel => exact ⟨k + 1, F4, by omega, by go_num, by rw [hst2.out], by rw [hst2.out]; exact h2, hF4, hC4⟩
          case measure => simp [intOf]; omega
    · have hst : I.take k = I := List.take_of_length_le (by have := Hll.out; omega)
      rw [hst] at hRg ⊢
      clear hst
      go_wp2_with fail
      go_ret
      exact ⟨rfl, F3, hRg, hF3, hC⟩

def offGood (r : RgS) (a : ByteArray) (to epoch : Int) : Bool := hasL r.H a && !(to == r.node) && decide (0 ≤ to) && decide (to < 16) && decide (0 ≤ epoch) && decide (epoch ≤ 2147483647)
set_option maxRecDepth 100000 in
set_option maxHeartbeats 4000000 in
theorem refOffer_no (w : World) (F : Nat → Prop) (g : Nat) (r : RgS) (h : Rg w F g r) (a : ByteArray) (to epoch : Int) (hno : offGood r a to epoch = false) :
    Calls Try.prog 26 #[.pointer (some ⟨g, 0, none⟩), .string a, .int .i64 to, .int .i64 epoch] w fun e w2 => e = .returned (.tuple #[noneV, .int .i64 1]) ∧ Chg Non w w2 := by
  obtain ⟨A1, n1, c1, A2, n2, c2, hat, hF, hn1, hn2⟩ := h.open_
  have hb := hat.hb
  have hrd := hat.hH.rds
  have hcm : n1 ≤ 9223372036854775807 := by obtain ⟨_, _, e, hh, hm, _⟩ := hat.hH.open_; injection e with _ _ e3; unfold maxLen at hm; omega
  unfold offGood at hno
  obtain ⟨nd, hnd⟩ : ∃ nd, r.node = nd := ⟨_, rfl⟩
  rw [hnd] at hno hb
  obtain ⟨w1, hw1⟩ : ∃ w1, w.alloc (.cells #[.int .i64 0, .int .i64 0, .int .i64 0, .int .i64 0, .string ⟨#[]⟩, .int .i64 0, .slice none 0 0, .int .i64 0, .int .i64 0, .int .i64 0, .slice none 0 0] 59) = w1 := ⟨_, rfl⟩
  have hc1 : Chg Non w w1 := hw1 ▸ (Chg.refl _ _).alloc _
  have hb1 := hb.non hc1
  have k0 : w1.cell? ⟨g, 0, none⟩ = some (.int .i64 nd) := hb1.cell 0
  have k1 : w1.cell? ⟨g, 1, none⟩ = some (.slice A1 n1 c1) := hb1.cell 1
  have hgl := hb1.lt
  have hhas := refHas_any w1 A1 n1 c1 r.H a (hrd.non hc1) hcm
  have hcases : hasL r.H a = false ∨ (hasL r.H a = true ∧ (to == nd) = true) ∨ (hasL r.H a = true ∧ (to == nd) = false ∧ to < 0) ∨ (hasL r.H a = true ∧ (to == nd) = false ∧ 0 ≤ to ∧ 16 ≤ to) ∨ (hasL r.H a = true ∧ (to == nd) = false ∧ 0 ≤ to ∧ to < 16 ∧ epoch < 0) ∨ (hasL r.H a = true ∧ (to == nd) = false ∧ 0 ≤ to ∧ to < 16 ∧ 0 ≤ epoch ∧ 2147483647 < epoch) := by
    cases h1 : hasL r.H a with
    | false => exact .inl rfl
    | true =>
      cases h2 : to == nd with
      | true => exact .inr (.inl ⟨rfl, rfl⟩)
      | false =>
        rw [h1, h2] at hno
        simp at hno
        refine .inr (.inr ?_)
        by_cases h3 : to < 0
        · exact .inl ⟨rfl, rfl, h3⟩
        · by_cases h4 : 16 ≤ to
          · exact .inr (.inl ⟨rfl, rfl, by omega, h4⟩)
          · by_cases h5 : epoch < 0
            · exact .inr (.inr (.inl ⟨rfl, rfl, by omega, by omega, h5⟩))
            · exact .inr (.inr (.inr ⟨rfl, rfl, by omega, by omega, by omega, hno (by omega) (by omega) (by omega)⟩))
  clear hb hb1 hat hno hF hn1 hn2 h hnd
  rcases hcases with h1 | ⟨h1, h2⟩ | ⟨h1, h2, h3⟩ | ⟨h1, h2, h3, h4⟩ | ⟨h1, h2, h3, h4, h5⟩ | ⟨h1, h2, h3, h4, h5, h6⟩
  all_goals
    rw [h1] at hhas
    clear h1
    go_enter Try.func26, Try.ntmps26
    go_wp2_with fail
    refine hhas.mono ?_
    rintro e w9 ⟨rfl, rfl⟩
    subst hw1
    go_wp2_with fail
    refine bodyPost_ret (v := .tuple #[noneV, .int .i64 1]) (by simp [results, Try.results26, go_sem, noneV, NtC, Nt.zero]) rfl ⟨rfl, ?_⟩
    exact (Chg.refl _ _).alloc _
end

section
open Go.RowKit
set_option linter.unusedVariables false
set_option linter.unusedSimpArgs false

theorem RgAt.count {w : World} {g : Nat} {r : RgS} {A A2 : Option Addr} {n c n2 c2 : Nat} (h : RgAt w g r A n c A2 n2 c2) (k : Int) : RgAt (w.setCell ⟨g, 3, none⟩ (.int .i64 k)) g { r with no := k } A n c A2 n2 c2 := by
  have hc : Chg (fun b => b = g) w (w.setCell ⟨g, 3, none⟩ (.int .i64 k)) := (Chg.refl _ w).set1 3 _
  have hb := h.hb.put 3 (.int .i64 k)
  simp only [List.setIfInBounds_toArray, List.set_cons_succ, List.set_cons_zero] at hb
  exact ⟨h.hn, h.hn2, hb, h.hH.chg hc h.gH, h.hO.chg hc h.gO⟩
set_option maxRecDepth 100000 in
set_option maxHeartbeats 8000000 in
theorem refOffer_yes (w : World) (F : Nat → Prop) (g : Nat) (r : RgS) (h : Rg w F g r) (a : ByteArray) (to epoch : Int) (hgood : offGood r a to epoch = true) (hno : 0 ≤ r.no ∧ r.no ≤ 1000000) (hl : r.O.length ≤ 1000000) (hH : r.H.length ≤ 1000000) :
    Calls Try.prog 26 #[.pointer (some ⟨g, 0, none⟩), .string a, .int .i64 to, .int .i64 epoch] w (RgPost w F g (.tuple #[offV ⟨to, epoch, r.no + 1⟩ a, .int .i64 0]) (offerR r a to epoch)) := by
  obtain ⟨A1, n1, c1, A2, n2, c2, hat, hF, hn1, hn2⟩ := h.open_
  obtain ⟨w1, hw1⟩ : ∃ w1, w.alloc (.cells #[.int .i64 0, .int .i64 0, .int .i64 0, .int .i64 0, .string ⟨#[]⟩, .int .i64 0, .slice none 0 0, .int .i64 0, .int .i64 0, .int .i64 0, .slice none 0 0] 59) = w1 := ⟨_, rfl⟩
  have hc1 : Chg Non w w1 := hw1 ▸ (Chg.refl _ _).alloc _
  have hbR : Blk w1 w.heap.size 59 #[.int .i64 0, .int .i64 0, .int .i64 0, .int .i64 0, .string ⟨#[]⟩, .int .i64 0, .slice none 0 0, .int .i64 0, .int .i64 0, .int .i64 0, .slice none 0 0] := hw1 ▸ Blk.new _ _ _
  have hat1 := hat.non hc1
  have hgw := hat.hb.lt
  have hn1l : n1 ≤ 1000000 := by omega
  have hn2l : n2 ≤ 1000000 := by omega
  unfold offGood at hgood
  simp only [Bool.and_eq_true, Bool.not_eq_true', decide_eq_true_eq] at hgood
  obtain ⟨⟨⟨⟨⟨e1, e2⟩, e3⟩, e4⟩, e5⟩, e6⟩ := hgood
  obtain ⟨nd, hnd⟩ : ∃ nd, r.node = nd := ⟨_, rfl⟩
  have k0 : w1.cell? ⟨g, 0, none⟩ = some (.int .i64 nd) := by rw [← hnd]; exact hat1.hb.cell 0
  have k1 : w1.cell? ⟨g, 1, none⟩ = some (.slice A1 n1 c1) := hat1.hb.cell 1
  rw [hnd] at e2
  have hgl := hat1.hb.lt
  have hhas := refHas_any w1 A1 n1 c1 r.H a hat1.hH.rds (by omega)
  have hwo := refWithout_any w1 A1 n1 c1 r.H a hat1.hH.rds hn1l
  rw [e1] at hhas
  have HF := hF
  have Hat1 := Lib.hid hat1
  have Hw1 : Hid (w1.heap.size = w.heap.size + 1) := by show _ = _; rw [← hw1, World.size_alloc]
  have Hlt : Hid (∀ b, (Value.slice A2 n2 c2).ownBlock = some b → b < w.heap.size) := fun b hb => (hat.hO.lt hb).2
  have HbR := Lib.hid hbR
  have Hc1 := Lib.hid hc1
  have Hnd := Lib.hid hnd
  have Hno := Lib.hid hno
  obtain ⟨no1, hno1⟩ : ∃ no1, r.no + 1 = no1 := ⟨_, rfl⟩
  have Hno1 := Lib.hid hno1
  have hwr : IntKind.i64.wrap (r.no + 1) = no1 := by rw [IntKind.wrap_i64, ← hno1]; omega
  rw [hno1]
  clear hat hat1 hbR hc1 h hF hn1 hn2 e1 hnd hno hno1 hl hH
  go_enter Try.func26, Try.ntmps26
  go_wp2_with fail
  refine hhas.mono ?_
  rintro e w9 ⟨rfl, rfl⟩
  clear hhas
  go_wp2_with fail
  refine hwo.mono ?_
  rintro e w2 ⟨v2, m2, rfl, hm2, o2, hc2⟩
  obtain ⟨B, d, rfl, _⟩ := o2.open_
  have hs3 := Hat1.out.swapH (R := remL r.H a) hc2 (fun _ e => e.elim) (o2.mono (b2 := 0) (Nat.zero_le _)) hm2 (fun b hb => .inr (o2.lt hb).1)
  have k2 := Hat1.out.hb.non hc2
  have k21 : w2.cell? ⟨g, 1, none⟩ = some (.slice A1 n1 c1) := k2.cell 1
  have f21 := k2.frozen 1
  have hgl2 := k2.lt
  obtain ⟨w3, hw3⟩ : ∃ w3, w2.setCell ⟨g, 1, none⟩ (.slice B m2 d) = w3 := ⟨_, rfl⟩
  rw [hw3] at hs3
  have k33 : w3.cell? ⟨g, 3, none⟩ = some (.int .i64 r.no) := hs3.at_.hb.cell 3
  have f33 := hs3.at_.hb.frozen 3
  have hgl3 := hs3.at_.hb.lt
  obtain ⟨w4, hw4⟩ : ∃ w4, w3.setCell ⟨g, 3, none⟩ (.int .i64 no1) = w4 := ⟨_, rfl⟩
  have hat4 := hs3.at_.count no1
  rw [hw4] at hat4
  have hc4 : Chg (fun b => b = g) w3 w4 := hw4 ▸ (Chg.refl _ w3).set1 3 _
  have k43 : w4.cell? ⟨g, 3, none⟩ = some (.int .i64 no1) := hat4.hb.cell 3
  have hgl4 := hat4.hb.lt
  obtain ⟨w5, hw5⟩ : ∃ w5, w4.alloc (.cells #[.string a, .int .i64 to, .int .i64 epoch, .int .i64 no1] 113) = w5 := ⟨_, rfl⟩
  have hc5 : Chg Non w4 w5 := hw5 ▸ (Chg.refl _ _).alloc _
  have hbO : Blk w5 w4.heap.size 113 #[.string a, .int .i64 to, .int .i64 epoch, .int .i64 no1] := hw5 ▸ Blk.new _ _ _
  have hat5 := hat4.non hc5
  have p0 : w5.cell? ⟨w4.heap.size, 0, none⟩ = some (.string a) := hbO.cell 0
  have p1 : w5.cell? ⟨w4.heap.size, 1, none⟩ = some (.int .i64 to) := hbO.cell 1
  have p2 : w5.cell? ⟨w4.heap.size, 2, none⟩ = some (.int .i64 epoch) := hbO.cell 2
  have p3 : w5.cell? ⟨w4.heap.size, 3, none⟩ = some (.int .i64 no1) := hbO.cell 3
  have pl := hbO.lt
  have k52 : w5.cell? ⟨g, 2, none⟩ = some (.slice A2 n2 c2) := hat5.hb.cell 2
  have hgl5 := hat5.hb.lt
  have Hs3 := Lib.hid hs3
  have Hat5 := Lib.hid hat5
  have Hc4 := Lib.hid hc4
  have Hc5 := Lib.hid hc5
  have Hc2 := Lib.hid hc2
  have HbO := Lib.hid hbO
  have h4n : ∀ b, (Value.slice A2 n2 c2).ownBlock = some b → b ≠ w4.heap.size := fun b hb e => by have := (hat4.hO.lt hb).2; omega
  have H4n := Lib.hid h4n
  have Hb1 : Hid (∀ b, (Value.slice B m2 d).ownBlock = some b → w1.heap.size ≤ b) := fun b hb => (o2.lt hb).1
  clear hs3 hat4 hat5 k2 hm2 o2 hwo hc4 hc5 hc2 hbO h4n
  have kk : ∀ wx, Chg (fun b => (Value.slice A2 n2 c2).ownBlock = some b) w5 wx → wx.cell? ⟨g, 2, none⟩ = some (.slice A2 n2 c2) := fun wx h => (Hat5.out.hb.chg h (fun e => Hat5.out.gO _ e rfl)).cell 2
  have pp : ∀ wx, Chg (fun b => (Value.slice A2 n2 c2).ownBlock = some b) w5 wx → wx.cell? ⟨w4.heap.size, 0, none⟩ = some (.string a) ∧ wx.cell? ⟨w4.heap.size, 1, none⟩ = some (.int .i64 to) ∧ wx.cell? ⟨w4.heap.size, 2, none⟩ = some (.int .i64 epoch) ∧ wx.cell? ⟨w4.heap.size, 3, none⟩ = some (.int .i64 no1) := fun wx h => by
    have hx := HbO.out.chg h (fun e => H4n.out _ e rfl)
    exact ⟨hx.cell 0, hx.cell 1, hx.cell 2, hx.cell 3⟩
  have pp0 := fun wx h => (pp wx h).1
  have pp1 := fun wx h => (pp wx h).2.1
  have pp2 := fun wx h => (pp wx h).2.2.1
  have pp3 := fun wx h => (pp wx h).2.2.2
  have hgx : ∀ wx, Chg (fun b => (Value.slice A2 n2 c2).ownBlock = some b) w5 wx → g < wx.heap.size := fun wx h => Nat.lt_of_lt_of_le hgl5 h.size
  clear pp
  go_wp2_with fail
  refine st_region_tail 8 10 (fun b => (Value.slice A2 n2 c2).ownBlock = some b) [7] [6] (fun _ _ v w2 => OwnR rkRg w2 0 v (n2 + 1) (Rgvs r.O ++ cellRg ⟨a, ⟨to, epoch, no1⟩⟩) ∧ (∀ b, v.ownBlock = some b → (Value.slice A2 n2 c2).ownBlock = some b ∨ w5.heap.size ≤ b)) (fun _ _ _ _ => True) (fun _ _ v => ∃ A n c, v = .slice A n c) (fun w2 => OwnR rkRg w2 0 (.slice A2 n2 c2) n2 (Rgvs r.O)) (by kernel_rfl) (by kernel_rfl) (by kernel_rfl) (fun b h => (Hat5.out.hO.lt h).2) Hat5.out.hO (fun _ _ h => h.alloc _) ?_
  repeat (first | (refine st_pass (by rfl) ?_; simp only [Act.put, List.setIfInBounds_toArray, List.set_cons_succ, List.set_cons_zero]) | (refine st_plain (fun b => (Value.slice A2 n2 c2).ownBlock = some b) (w5) rfl rfl (f := ?_) (by rfl) rfl rfl (fun w hC hG => ?_) ?_; rotate_left; (clear hG; first | (go_simp; done) | (go_simp; with_reducible rfl) | (simp [*, go_sem, ↓IntWalk.iteOmega]; done) | (simp [*, go_sem, ↓IntWalk.iteOmega]; with_reducible rfl)); simp only [Act.put, List.setIfInBounds_toArray, List.set_cons_succ, List.set_cons_zero]))
  refine st_minor (fun b => (Value.slice A2 n2 c2).ownBlock = some b) w5 rfl rfl (ob := .cells #[.string a, .int .i64 to, .int .i64 epoch, .int .i64 no1] 113) (kd := some (1, 1)) (by rfl) rfl rfl (fun w hC hG => by clear hG; go_simp; rfl) (fun g2 => ?_)
  simp only [Act.put, List.setIfInBounds_toArray, List.set_cons_succ, List.set_cons_zero]
  refine st_major (fun b => (Value.slice A2 n2 c2).ownBlock = some b) (w5) rfl rfl (by rfl) rfl (⟨.slice none 0 0, none, 0, 0, rfl⟩) (fun _ _ _ _ _ _ => trivial) (fun v w ob h => ⟨h.1.alloc ob, h.2⟩) (fun w hC hG hS => ?_) ?_
  · have hB := Rds.blockN (m := 1) (size := 4) (show Blk w g2 113 #[.string a, .int .i64 to, .int .i64 epoch, .int .i64 no1] from (hG 6 rfl).2) rfl
    refine settle_appR (K := rkRg) (.tmp 71) (.tmp 73) rfl hS rfl hB rfl (cellRg_one ⟨a, ⟨to, epoch, no1⟩⟩) (by omega) (Nat.zero_le _) ?_
    intro v2 w2 i2 i3 i4
    obtain ⟨A4, c4, rfl, _⟩ := i2.open_
    refine ⟨⟨_, _, _, rfl⟩, i3, ⟨i2, fun b hb => ?_⟩, trivial⟩
    rcases i4 with i4 | i4
    · exact .inl (i4 ▸ hb)
    · rw [i4] at hb
      obtain rfl := Option.some.inj hb
      exact .inr (by have := hC.size; omega)
  rintro v4 ⟨A6, n6, d6, rfl⟩
  simp only [Act.put, List.setIfInBounds_toArray, List.set_cons_succ, List.set_cons_zero]
  repeat (first | (refine st_pass (by rfl) ?_; simp only [Act.put, List.setIfInBounds_toArray, List.set_cons_succ, List.set_cons_zero]) | (refine st_plain (fun b => (Value.slice A2 n2 c2).ownBlock = some b) (w5) rfl rfl (f := ?_) (by rfl) rfl rfl (fun w hC hG => ?_) ?_; rotate_left; (clear hG; first | (go_simp; done) | (go_simp; with_reducible rfl) | (simp [*, go_sem, ↓IntWalk.iteOmega]; done) | (simp [*, go_sem, ↓IntWalk.iteOmega]; with_reducible rfl)); simp only [Act.put, List.setIfInBounds_toArray, List.set_cons_succ, List.set_cons_zero]))
  refine st_tail (fun b => (Value.slice A2 n2 c2).ownBlock = some b) w5 rfl rfl rfl (fun w6 c6 hS7 _ => ?_)
  simp only [List.drop_succ_cons, List.drop_zero]
  obtain ⟨o6, hv6⟩ : OwnR rkRg w6 0 (.slice A6 n6 d6) (n2 + 1) (Rgvs r.O ++ cellRg ⟨a, ⟨to, epoch, no1⟩⟩) ∧ (∀ b, (Value.slice A6 n6 d6).ownBlock = some b → (Value.slice A2 n2 c2).ownBlock = some b ∨ w5.heap.size ≤ b) := hS7
  obtain rfl : n6 = n2 + 1 := by obtain ⟨_, _, e, _⟩ := o6.open_; injection e
  have hb6 := Hat5.out.hb.chg c6 (fun e => Hat5.out.gO _ e rfl)
  have f6 := hb6.frozen 2
  have k6 : w6.cell? ⟨g, 2, none⟩ = some (.slice A2 n2 c2) := hb6.cell 2
  have hgl6 := hb6.lt
  have hbO6 := HbO.out.chg c6 (fun e => H4n.out _ e rfl)
  obtain ⟨w7, hw7⟩ : ∃ w7, w6.setCell ⟨g, 2, none⟩ (.slice A6 (n2 + 1) d6) = w7 := ⟨_, rfl⟩
  have hc7 : Chg (fun b => b = g) w6 w7 := hw7 ▸ (Chg.refl _ w6).set1 2 _
  have hbO7 := hbO6.chg hc7 (fun e => by omega)
  have q0 : w7.cell? ⟨w4.heap.size, 0, none⟩ = some (.string a) := hbO7.cell 0
  have q1 : w7.cell? ⟨w4.heap.size, 1, none⟩ = some (.int .i64 to) := hbO7.cell 1
  have q2 : w7.cell? ⟨w4.heap.size, 2, none⟩ = some (.int .i64 epoch) := hbO7.cell 2
  have q3 : w7.cell? ⟨w4.heap.size, 3, none⟩ = some (.int .i64 no1) := hbO7.cell 3
  have ql := hbO7.lt
  clear hb6 hbO6 hbO7 hc7 kk pp0 pp1 pp2 pp3 hgx p0 p1 p2 p3 pl
  go_wp2_with fail
  refine (refNote_any _ ⟨a, ⟨to, epoch, no1⟩⟩).mono ?_
  rintro e w8 ⟨rfl, hc8⟩
  have hsw := Hat5.out.swapO (R := r.O ++ [⟨a, ⟨to, epoch, no1⟩⟩]) c6 (fun b e => e) (by rw [show Rgvs (r.O ++ [⟨a, ⟨to, epoch, no1⟩⟩]) = Rgvs r.O ++ cellRg ⟨a, ⟨to, epoch, no1⟩⟩ from flat_snoc _ _ _]; exact o6) (by rw [List.length_append, List.length_singleton, Hat5.out.hn2.out]) hv6
  rw [hw7] at hsw
  have hcg : Chg F w w8 := by
    have a1 : Chg F w w3 := (Hc1.out.of_non (S := F)).trans2 Hs3.out.chg (fun b e => .inl (by rw [HF.out]; exact e))
    have a2 : Chg F w w5 := (a1.trans2 Hc4.out (fun b e => .inl (by rw [HF.out]; exact .inl e))).non Hc5.out
    have a3 : Chg F w w7 := a2.trans2 hsw.chg (fun b e => (Hs3.out.sub b e).imp (fun e => by rw [HF.out]; exact e) (fun e => Nat.le_trans Hc1.out.size e))
    exact a3.non hc8
  have hsub : ∀ b, F2 g (.slice B m2 d) (.slice A6 (n2 + 1) d6) b → F b ∨ w.heap.size ≤ b := fun b hb => by
    rcases hsw.sub b hb with h | h
    · exact (Hs3.out.sub b h).imp (fun e => by rw [HF.out]; exact e) (fun e => Nat.le_trans Hc1.out.size e)
    · exact .inr (by have := Hc5.out.size; have := Hc4.out.size; have := Hs3.out.chg.size; have := Hc1.out.size; omega)
  have hR7 := ((((HbR.out.non Hc2.out).chg (Chg.refl (fun b => b = g) w2 |>.set1 1 (.slice B m2 d)) (fun e => by omega))))
  rw [hw3] at hR7
  have hR6 := ((hR7.chg Hc4.out (fun e => by omega)).non Hc5.out).chg c6 (fun e => by have := Hlt.out _ e; omega)
  have hR5 := hR6.chg (Chg.refl (fun b => b = g) w6 |>.set1 2 (.slice A6 (n2 + 1) d6)) (fun e => by omega)
  rw [hw7] at hR5
  have hR8 := hR5.non hc8
  have hat8 := hsw.at_.non hc8
  have hgR : g ≠ w.heap.size := by omega
  have hHR : ∀ b, (Value.slice B m2 d).ownBlock = some b → b ≠ w.heap.size := fun b hb e => by
    have := Hb1.out b hb; have := Hw1.out; omega
  have hOR : ∀ b, (Value.slice A6 (n2 + 1) d6).ownBlock = some b → b ≠ w.heap.size := fun b hb e => by
    rcases hv6 b hb with h | h
    · have := Hlt.out b h; omega
    · have := Hc5.out.size; have := Hc4.out.size; have := Hs3.out.chg.size; have := Hw1.out; omega
  have HgR := Lib.hid hgR
  have HHR := Lib.hid hHR
  have HOR := Lib.hid hOR
  have Hat8 := Lib.hid hat8
  have Hsub := Lib.hid hsub
  clear q0 q1 q2 q3 ql k0 k1 k21 f21 k33 f33 k43 k52 k6 f6 hgl hgl2 hgl3 hgl4 hgl5 hgl6 hR5 hR6 hR7 hat8 hsub hHR hOR hgR hsw c6 o6 hv6 hw1 hw3 hw4 hw5 hw7 hwr
  unfold offV offN Nt.zero NtC
  dsimp only
  have zd0 := hR8.cell 0
  have zd1 := hR8.cell 1
  have zd2 := hR8.cell 2
  have zd3 := hR8.cell 3
  have zd4 := hR8.cell 4
  have zd5 := hR8.cell 5
  have zd6 := hR8.cell 6
  have zd7 := hR8.cell 7
  have zd8 := hR8.cell 8
  have zd9 := hR8.cell 9
  have zd10 := hR8.cell 10
  simp only [List.getElem?_toArray, List.getElem?_cons_zero, List.getElem?_cons_succ] at zd0 zd1 zd2 zd3 zd4 zd5 zd6 zd7 zd8 zd9 zd10
  have f0 := hR8.frozen 0
  have f1 := hR8.frozen 1
  have f2 := hR8.frozen 2
  have f3 := hR8.frozen 3
  have f4 := hR8.frozen 4
  have f5 := hR8.frozen 5
  have f6 := hR8.frozen 6
  have f7 := hR8.frozen 7
  have f8 := hR8.frozen 8
  have f9 := hR8.frozen 9
  have f10 := hR8.frozen 10
  have rl := hR8.lt
  have hb4 := (((((((((((hR8.put 0 (.int .i64 4)).put 1 (.int .i64 0)).put 2 (.int .i64 no1)).put 3 (.int .i64 epoch)).put 4 (.string a)).put 5 (.int .i64 0)).put 6 (.slice none 0 0)).put 7 (.int .i64 0)).put 8 (.int .i64 0)).put 9 (.int .i64 0)).put 10 (.slice none 0 0))
  simp only [List.setIfInBounds_toArray, List.set_cons_succ, List.set_cons_zero] at hb4
  have r0 := hb4.cell 0
  have r1 := hb4.cell 1
  have r2 := hb4.cell 2
  have r3 := hb4.cell 3
  have r4 := hb4.cell 4
  have r5 := hb4.cell 5
  have r6 := hb4.cell 6
  have r7 := hb4.cell 7
  have r8 := hb4.cell 8
  have r9 := hb4.cell 9
  have r10 := hb4.cell 10
  simp only [List.getElem?_toArray, List.getElem?_cons_zero, List.getElem?_cons_succ] at r0 r1 r2 r3 r4 r5 r6 r7 r8 r9 r10
  have hD4 := ((((((((((((Chg.refl (fun b => b = w.heap.size) w8).set1 0 (.int .i64 4)).set1 1 (.int .i64 0)).set1 2 (.int .i64 no1)).set1 3 (.int .i64 epoch)).set1 4 (.string a)).set1 5 (.int .i64 0)).set1 6 (.slice none 0 0)).set1 7 (.int .i64 0)).set1 8 (.int .i64 0)).set1 9 (.int .i64 0)).set1 10 (.slice none 0 0))
  obtain ⟨w10, hw10⟩ : ∃ w10, (((((((((((w8.setCell ⟨w.heap.size, 0, none⟩ (.int .i64 4)).setCell ⟨w.heap.size, 1, none⟩ (.int .i64 0)).setCell ⟨w.heap.size, 2, none⟩ (.int .i64 no1)).setCell ⟨w.heap.size, 3, none⟩ (.int .i64 epoch)).setCell ⟨w.heap.size, 4, none⟩ (.string a)).setCell ⟨w.heap.size, 5, none⟩ (.int .i64 0)).setCell ⟨w.heap.size, 6, none⟩ (.slice none 0 0)).setCell ⟨w.heap.size, 7, none⟩ (.int .i64 0)).setCell ⟨w.heap.size, 8, none⟩ (.int .i64 0)).setCell ⟨w.heap.size, 9, none⟩ (.int .i64 0)).setCell ⟨w.heap.size, 10, none⟩ (.slice none 0 0)) = w10 := ⟨_, rfl⟩
  rw [hw10] at hb4 hD4 r0 r1 r2 r3 r4 r5 r6 r7 r8 r9 r10
  have hC4 := hcg.trans2 hD4 (fun b e => .inr (by rw [show b = w.heap.size from e]; exact Nat.le_refl _))
  have HD4 := Lib.hid hD4
  have HC4 := Lib.hid hC4
  clear hb4 hD4 hC4
  clear hR8 hcg
  go_wp2_with fail
  refine bodyPost_ret (v := .tuple #[.agg #[.int .i64 4, .int .i64 0, .int .i64 no1, .int .i64 epoch, .string a, .int .i64 0, .slice none 0 0, .int .i64 0, .int .i64 0, .int .i64 0, .slice none 0 0], .int .i64 0]) (by simp [results, Try.results26, go_sem, r0, r1, r2, r3, r4, r5, r6, r7, r8, r9, r10]) rfl ⟨rfl, F2 g (.slice B m2 d) (.slice A6 (n2 + 1) d6), ⟨_, _, _, _, _, _, ?_, rfl⟩, Hsub.out, HC4.out⟩
  obtain rfl := Hno1.out
  exact Hat8.out.chg HD4.out HgR.out HHR.out HOR.out
end
end Go.Proofs.Ytflaliomkfbagaa
