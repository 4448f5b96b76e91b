/-
  gleanerref14.Table: Wake. gleanerlaw16: Names, wipe.
-/
import Derived.Test.YtfglikgifkpfpaaTabRefMore
namespace Go.Proofs.Ytfglikgifkpfpaa
open Go.RowKit
set_option linter.unusedVariables false
set_option linter.unusedSimpArgs false

def RWakePost (w : World) (F : Nat → Prop) (g : Nat) (t : TrS) (on : List ByteArray) (e : Ending) (w2 : World) : Prop :=
  ∃ v m F2, e = .returned v ∧ m = (t.wakes on).length ∧ OwnR rkI w2 w.heap.size v m (sv (t.wakes on)) ∧ Rt w2 F2 g (t.woken on) ∧ (∀ b, F2 b → F b ∨ w.heap.size ≤ b) ∧ Chg F w w2

set_option maxRecDepth 100000 in
set_option maxHeartbeats 4000000 in
theorem rtWake_any (w : World) (F : Nat → Prop) (g : Nat) (t : TrS) (B : Option Addr) (m d : Nat) (on : List ByteArray) (h : Rt w F g t) (hr : Rds w 1 B m (sv on)) (hm : m ≤ 1000000) (hs : t.len ≤ 100000) :
    Calls Try.prog 27 #[.pointer (some ⟨g, 0, none⟩), .slice B m d] w (RWakePost w F g t on) := by
  obtain ⟨A, n, c, A2, n2, c2, A3, n3, c3, h, hF⟩ := h
  have Hp := Lib.hid hF
  have hlen : t.len = t.R.length + t.G.length + t.P.length := rfl
  have hnl : n ≤ 100000 := by have := h.hn.out; omega
  have hn3l : n3 ≤ 100000 := by have := h.hn3.out; omega
  have c3c := h.hb.cell 3
  simp only [List.getElem?_toArray, List.getElem?_cons_zero, List.getElem?_cons_succ] at c3c
  have HrP := Lib.hid h.hP.rds
  have Hr := Lib.hid hr
  have HA := Lib.hid h
  have hgl := h.hb.lt
  clear h hF hlen hr
  go_enter Try.func27, Try.ntmps27
  go_wp2_with fail
  go_loopw [5, 6, 7] (fun v u i wr => ∃ (k a b : Nat), k ≤ n3 ∧ i = .int .i64 k ∧ a ≤ k ∧ b ≤ k ∧ OwnR rkI wr w.heap.size v a (sv (risenS (((t.P.take k).filter (fun p => hasB on p.2)).map (·.1)))) ∧ Hid (b = ((t.P.take k).filter (fun p => !hasB on p.2)).length) ∧ OwnR rkP wr w.heap.size u b (pvs ((t.P.take k).filter (fun p => !hasB on p.2))) ∧ Chg Non w wr) (fun _ _ i _ => n3 - (intOf i).toNat)
  case atStart => exact ⟨0, 0, 0, Nat.zero_le _, rfl, Nat.le_refl _, Nat.le_refl _, OwnR.nil _ _ _, rfl, OwnR.nil _ _ _, Chg.refl _ _⟩
  case round =>
    obtain ⟨k, a, b, hk, rfl, hak, hbk, hO, hbl, hL, hC⟩ := hrel
    have k3 := hC.cell c3c id
    by_cases hlt : k < n3
    · obtain ⟨ad, ⟨x, o⟩, rfl, hx, hc0, hcN⟩ := HrP.out.getN cellP_len (by decide) hlt
      have a0 := hC.cell (hc0 _ rfl) id
      have a1 : wr.cell? ⟨(ad.add (k * 2)).block, (ad.add (k * 2)).off + 1, none⟩ = some (.string o) := hC.cell (hcN 0 _ rfl) id
      have hst : t.P.take (k + 1) = t.P.take k ++ [(x, o)] := by rw [List.take_add_one, hx]; rfl
      have h1 := refHas_any wr B m d on o (Hr.out.non hC) (by omega)
      have hadl := World.block_lt_of_cell? w _ (hc0 _ rfl)
      rw [block_add] at hadl
      have hsz := hC.size
      cases hw : hasB on o with
      | true =>
        have e1 : riseS x (risenS (((t.P.take k).filter (fun p => hasB on p.2)).map (·.1))) = risenS (((t.P.take (k + 1)).filter (fun p => hasB on p.2)).map (·.1)) := by
          rw [hst, List.filter_append, List.map_append, ← risenS_snoc]
          simp [hw]
        have e2 : (t.P.take (k + 1)).filter (fun p => !hasB on p.2) = (t.P.take k).filter (fun p => !hasB on p.2) := by
          rw [hst, List.filter_append]
          simp [hw]
        have E1 := Lib.hid e1
        rw [← e2] at hbl hL
        rw [hw] at h1
        clear hx hc0 hcN hst e1 e2 hw
        go_wp2_with fail
        refine h1.mono ?_
        rintro e w9 ⟨rfl, rfl⟩
        clear h1
        go_wp2_with fail
        refine (putS_any _ w.heap.size _ a _ x hO hC.size (by omega)).mono ?_
        rintro e w2 ⟨v2, a2, rfl, hO2, hc2, hv2⟩
        rw [E1.out] at hO2
        have ha2 : a2 ≤ k + 1 := by
          have h1 := hO2.len
          have h2 := risenS_le (((t.P.take (k + 1)).filter (fun p => hasB on p.2)).map (·.1))
          have h3 := List.length_filter_le (fun p : ByteArray × ByteArray => hasB on p.2) (t.P.take (k + 1))
          have h4 := List.length_take_le (k + 1) t.P
          rw [List.length_map] at h2
          have e : (rkI).size = 1 := rfl
          simp [sv, e] at h1
          omega
        have hL2 := hL.non hc2
        have hC2 := hC.non hc2
        clear hO hC hc2 k3 hL a0 a1
        go_wp2_with fail
        go_roundw
        case rel => exact ⟨k + 1, a2, b, by omega, by go_num, ha2, by omega, hO2, hbl, hL2, hC2⟩
        case measure => simp [intOf]; omega
      | false =>
        have e1 : risenS (((t.P.take (k + 1)).filter (fun p => hasB on p.2)).map (·.1)) = risenS (((t.P.take k).filter (fun p => hasB on p.2)).map (·.1)) := by
          rw [hst, List.filter_append, List.map_append]
          simp [hw]
        have e2 : (t.P.take (k + 1)).filter (fun p => !hasB on p.2) = (t.P.take k).filter (fun p => !hasB on p.2) ++ [(x, o)] := by
          rw [hst, List.filter_append]
          simp [hw]
        have E2 := Lib.hid e2
        rw [← e1] at hO
        rw [hw] at h1
        clear hx hc0 hcN hst e1 e2 hw
        go_wp2_with fail
        refine h1.mono ?_
        rintro e w9 ⟨rfl, rfl⟩
        clear h1
        go_wp2_with (at_builtin; refine appR1s (K := rkP) rfl (.tmp 37) (.tmp 45) rfl hL rfl (cs := #[.string x, .string o]) rfl rfl (cellP_one (x, o)) ?_ ?_ ?_; (next => omega); (next => exact hsz); intro A8 d8 w8 o8 c8 hv8)
        have hO8 := hO.chg c8 (fun b hb e => (hO.apart2 hL (by decide)) b hb e)
        have hC8 := hL.chgApp hC (Nat.le_refl _) c8
        have o8' : OwnR rkP w8 w.heap.size (.slice A8 (b + 1) d8) (b + 1) (pvs ((t.P.take (k + 1)).filter (fun p => !hasB on p.2))) := by
          rw [E2.out, pv_snoc]
          exact o8
        have hb8 : Hid (b + 1 = ((t.P.take (k + 1)).filter (fun p => !hasB on p.2)).length) := by show _ = _; rw [E2.out, List.length_append, List.length_singleton, ← hbl.out]
        clear hO hL hC c8 o8 k3 a0 a1
        go_roundw
        case rel => exact ⟨k + 1, a, b + 1, by omega, by go_num, by omega, by omega, hO8, hb8, o8', hC8⟩
        case measure => simp [intOf]; omega
    · have hst : t.P.take k = t.P := List.take_of_length_le (by have := HA.out.hn3.out; omega)
      rw [hst] at hO hbl hL
      have hkn : k ≤ 100000 := by omega
      obtain ⟨A5, d5, rfl, _, _, hr5, _⟩ := hO.open_
      obtain ⟨A6, d6, rfl, _⟩ := hL.open_
      have HO := Lib.hid hO
      have Hr5 := Lib.hid hr5
      have hsw := Lib.hid (HA.out.swapP (R := t.P.filter (fun p => !hasB on p.2)) hC (fun _ e => e.elim) (hL.mono (b2 := 0) (Nat.zero_le _)) hbl.out (fun b hb => .inr (hL.lt hb).1))
      have k6 := HA.out.hb.non hC
      have f6 := k6.frozen 3
      have hgl6 := k6.lt
      have hal : a = (t.wakes on).length := by have := hO.len; have e : (rkI).size = 1 := rfl; unfold TrS.wakes; simp [sv, e] at this; exact this.symm
      have Hal := Lib.hid hal
      obtain ⟨w7, hw7⟩ : ∃ w7, wr.setCell ⟨g, 3, none⟩ (.slice A6 b d6) = w7 := ⟨_, rfl⟩
      rw [hw7] at hsw
      have hS7 : Chg (fun b => b = g) wr w7 := hw7 ▸ (Chg.refl _ wr).set1 3 _
      have hO7 := hO.chg hS7 (fun b hb e => by have := (hO.lt hb).1; have e : b = g := e; omega)
      have hr7 := hO7.rds
      have k17 : w7.cell? ⟨g, 1, none⟩ = some (.slice A n c) := hsw.out.at_.hb.cell 1
      have hgl7 := hsw.out.at_.hb.lt
      clear hst k6 hL hO hr5 Hr5 HO hbl hal hS7
      go_wp2_with (at_builtin; refine appRs (K := rkI) rfl (.tmp 55) (.tmp 56) rfl hsw.out.at_.hR rfl hr7 rfl (svI_one _) ?_ ?_ ?_; (next => omega); (next => exact Nat.zero_le _); intro A8 d8 w8 o8 c8 hv8; have hb8 := hsw.out.at_.hb.chg c8 (fun e => hsw.out.at_.gR _ e rfl); have f8 := hb8.frozen 1; have k8 : w8.cell? ⟨g, 1, none⟩ = some (.slice A n c) := hb8.cell 1; have hgl8 := hb8.lt)
      go_ret
      have hsw2 := hsw.out.at_.swapR (R := t.R ++ t.wakes on) c8 (fun b e => e) (by rw [show sv (t.R ++ t.wakes on) = sv t.R ++ sv (t.wakes on) by simp [sv]]; exact o8) (by rw [List.length_append, ← Hal.out, HA.out.hn.out]) hv8
      have hO8 := hO7.chg c8 (fun b hb e => by have h1 := (hO7.lt hb).1; have h2 := (HA.out.hR.lt e).2; omega)
      have hO9 := hO8.chg ((Chg.refl (fun b => b = g) w8).set1 1 (.slice A8 (n + a) d8)) (fun b hb e => by have := (hO8.lt hb).1; have e : b = g := e; omega)
      obtain ⟨F2, h2, h3, h4⟩ := hsw2.rt
      rw [Hp.out]
      refine ⟨_, a, F2, rfl, Hal.out, hO9, h2, fun b hb => ?_, hsw.out.chg.trans2 h4 (fun b e => hsw.out.sub b e)⟩
      rcases h3 b hb with h | h
      · exact hsw.out.sub b h
      · exact .inr (by have := hsw.out.chg.size; omega)

/-- Are names short, and few? -/
def namesB (L : List ByteArray) : Bool := decide (L.length ≤ 100) && L.all fun x => decide (x.size ≤ 100)
theorem namesB_true {L : List ByteArray} : namesB L = true ↔ L.length ≤ 100 ∧ ∀ x ∈ L, x.size ≤ 100 := by simp [namesB]
set_option maxRecDepth 100000 in
theorem names_any (w : World) (A : Option Addr) (n c : Nat) (L : List ByteArray) (h1 : Rds w 1 A n (sv L)) (hn : n ≤ 9223372036854775807) (hL : ∀ x ∈ L, x.size ≤ 9223372036854775807) :
    Calls Try.prog 21 #[.slice A n c] w fun e w2 => e = .returned (.bool (namesB L)) ∧ w = w2 := by
  have H1 := Lib.hid h1
  have Hnl := Lib.hid (h1.lenMap (f := Value.string))
  have HL := Lib.hid hL
  clear h1 hL
  go_enter Try.func21, Try.ntmps21
  go_wp2_with fail
  go_loop [3] (fun i => ∃ k : Nat, k ≤ n ∧ k ≤ 200 ∧ i = .int .i64 k ∧ Hid (∀ x ∈ L.take k, x.size ≤ 100)) (fun i => n - (intOf i).toNat)
  case atStart => exact ⟨0, Nat.zero_le _, by omega, rfl, (fun x hx => by simp at hx)⟩
  case round =>
    obtain ⟨k, hk, hk2, rfl, hno⟩ := hrel
    by_cases hlt : k < n ∧ k < 200
    · obtain ⟨hlt, hlt2⟩ := hlt
      obtain ⟨ad, x, rfl, hx, hc⟩ := H1.out.getS hlt
      have hxs := HL.out x (List.mem_of_getElem? hx)
      by_cases heq : x.size ≤ 100
      · have hno2 : Hid (∀ y ∈ L.take (k + 1), y.size ≤ 100) := by
          intro y hy
          rw [List.take_add_one, hx] at hy
          rcases List.mem_append.1 hy with hy | hy
          · exact hno.out y hy
          · simp at hy; subst hy; exact heq
        clear hx hno
        go_wp2_with fail
        go_round
        case rel => exact ⟨k + 1, by omega, by omega, by go_num, hno2⟩
        case measure => simp [intOf]; omega
      · have Hres := Lib.hid (show namesB L = false by
          cases h : namesB L with
          | false => rfl
          | true => exact absurd ((namesB_true.1 h).2 x (List.mem_of_getElem? hx)) heq)
        have hgt : 100 < x.size := by omega
        clear hx hno heq
        go_wp2_with fail
        go_ret
        exact ⟨by rw [Hres.out]; rfl, rfl⟩
    · have hex : (¬ k < n) ∨ (k < n ∧ ¬ k < 200) := by omega
      clear hlt
      rcases hex with h1 | ⟨h1, h2⟩
      · have hst : L.take k = L := List.take_of_length_le (by have := Hnl.out; omega)
        rw [hst] at hno
        have Hres := Lib.hid (show namesB L = decide ((n : Int) ≤ 100) by
          unfold namesB
          rw [← Hnl.out]
          have : (L.all fun x => decide (x.size ≤ 100)) = true := by simpa using hno.out
          rw [this, Bool.and_true, decide_eq_decide]
          omega)
        clear hst hno
        go_wp2_with fail
        go_ret
        exact ⟨by rw [Hres.out]; rfl, rfl⟩
      · have Hres := Lib.hid (show namesB L = decide ((n : Int) ≤ 100) by unfold namesB; rw [← Hnl.out, decide_eq_false (show ¬ n ≤ 100 by omega), decide_eq_false (show ¬ (n : Int) ≤ 100 by omega)]; rfl)
        clear hno
        go_wp2_with fail
        go_ret
        exact ⟨by rw [Hres.out]; rfl, rfl⟩

set_option maxRecDepth 100000 in
theorem wipe_any (w : World) (base : Nat) (A : Option Addr) (n c : Nat) (xs : List Value) (h1 : OwnR rkI w base (.slice A n c) n xs) (hn : n ≤ 9223372036854775807) :
    Calls Try.prog 28 #[.slice A n c] w fun e w2 => e = .returned (.tuple #[]) ∧ Chg (fun b => (Value.slice A n c).ownBlock = some b) w w2 := by
  have H1 : Hid (∃ xs, OwnR rkI w base (.slice A n c) n xs) := ⟨xs, h1⟩
  clear h1
  go_enter Try.func28, Try.ntmps28
  go_wp2_with fail
  go_loopw [2] (fun i wr => ∃ j : Nat, j ≤ n ∧ i = .int .i64 j ∧ Hid (∃ xs, OwnR rkI wr base (.slice A n c) n xs) ∧ Chg (fun b => (Value.slice A n c).ownBlock = some b) w wr) (fun i _ => n - (intOf i).toNat)
  case atStart => exact ⟨0, Nat.zero_le _, rfl, H1, Chg.refl _ _⟩
  case round =>
    obtain ⟨j, hj, rfl, hl, hC⟩ := hrel
    clear H1
    by_cases hlt2 : j < n
    · obtain ⟨xs, hx⟩ := hl.out
      obtain ⟨gx, cap, hv, hg1, hg2⟩ := World.ownsRow.form hx (by omega)
      injection hv with e1 e2 e3
      subst e1 e3
      have hlen : xs.length = n * 1 := hx.1
      have q1 : wr.cell? ⟨gx, j, none⟩ = xs[j]? := World.ownsRow.cellAt hx j (by show j < n * 1; omega)
      rw [List.getElem?_eq_getElem (by omega)] at q1
      have f1 : wr.frozen? ⟨gx, j, none⟩ = false := World.ownsRow.frozenAt hx j
      have hst := (World.ownsRow.stored hx j (.string ⟨#[103, 111, 110, 101]⟩)).1
      have hl2 : Hid (∃ xs, OwnR rkI (wr.setCell ⟨gx, j, none⟩ (.string ⟨#[103, 111, 110, 101]⟩)) base (.slice (some ⟨gx, 0, none⟩) n c) n xs) := ⟨_, hst⟩
      have hC2 := hC.setCell (p := ⟨gx, j, none⟩) (.inl rfl) (.string ⟨#[103, 111, 110, 101]⟩)
      clear hst hx hl hC
      go_wp2_with fail
      go_roundw
      case rel => exact ⟨j + 1, by omega, by go_num, hl2, hC2⟩
      case measure => simp [intOf]; omega
    · clear hl
      go_wp2_with fail
      go_end0
      exact ⟨rfl, hC⟩
end Go.Proofs.Ytfglikgifkpfpaa
