/-
  gleanerlaw16.TableRoom: the walk.
-/
import Derived.Test.YtfglikgifkpfpaaTableNames
import Derived.Deep.CutBlock
namespace Go.Proofs.Ytfglikgifkpfpaa
open Go.ChangeShapes Go.WideShapes Go.ChangeAt Go.RowKit
set_option linter.unusedVariables false
set_option linter.unusedSimpArgs false

theorem id2_both {i j m n : Nat} (h1 : i < 256) (h2 : j < 256) (h3 : m < 256) (h4 : n < 256) (h : id2 i j = id2 m n) : i = m ∧ j = n := by
  unfold id2 at h
  injection h with h
  injection h with h
  injection h with a1 a2
  injection a2 with a2 _
  have b1 := congrArg UInt8.toNat a1
  have b2 := congrArg UInt8.toNat a2
  simp at b1 b2
  omega
/-- The k-th name. -/
def idk (k : Nat) : ByteArray := id2 (k % 16) (k / 16)
theorem idk_inj {j k : Nat} (hj : j < 256) (hk : k < 256) (h : idk j = idk k) : j = k := by
  have := id2_both (by omega) (by omega) (by omega) (by omega) h
  omega
theorem idk_vid {k : Nat} (h : k < 256) : vid (idk k) = true := id2_vid (by omega) (by omega)
theorem conk {k : Nat} (hk : k < 256) (w : World) : (convert 28 27 (.slice (some ⟨w.heap.size, 0, none⟩) 2 2)).run Try.prog (w.alloc (.cells #[.int .u8 ((k : Int) % 16), .int .u8 ((k : Int) / 16)] 5)) = .ok (.string (idk k)) (w.alloc (.cells #[.int .u8 ((k : Int) % 16), .int .u8 ((k : Int) / 16)] 5)) := by
  have := conv2 (j := k % 16) (k := k / 16) (by omega) (by omega) w
  rw [show ((k % 16 : Nat) : Int) = (k : Int) % 16 by omega, show ((k / 16 : Nat) : Int) = (k : Int) / 16 by omega] at this
  exact this

/-- What is known of a table behind k rounds. -/
structure Rm (s : TbS) (mx k : Nat) : Prop where
  mx : s.mx = mx
  G : ∀ b, s.G b = false
  ng : s.ng = 0
  nd : s.R.Nodup
  R : ∀ b ∈ s.R, s.K b = none ∧ ∃ j, j < k ∧ b = idk j
  K : ∀ b, (s.K b).isSome = true → ∃ j, j < k ∧ b = idk j
theorem Rm.start (mx : Nat) : Rm ⟨[], fun _ => false, 0, fun _ => none, 0, mx⟩ mx 0 := ⟨rfl, fun _ => rfl, rfl, List.nodup_nil, (fun b h => by cases h), (fun b h => by cases h)⟩
theorem Rm.more {s : TbS} {mx k : Nat} (h : Rm s mx k) : Rm s mx (k + 1) := ⟨h.mx, h.G, h.ng, h.nd, fun b hb => ⟨(h.R b hb).1, (h.R b hb).2.imp fun j hj => ⟨by omega, hj.2⟩⟩, fun b hb => (h.K b hb).imp fun j hj => ⟨by omega, hj.2⟩⟩
theorem Rm.fresh {s : TbS} {mx k : Nat} (h : Rm s mx k) (hk : k < 256) : s.K (idk k) = none ∧ idk k ∉ s.R := by
  constructor
  · cases hb : s.K (idk k) with
    | none => rfl
    | some o =>
      obtain ⟨j, hj, e⟩ := h.K _ (by rw [hb]; rfl)
      have := idk_inj (by omega) (by omega) e
      omega
  · intro hm
    obtain ⟨_, j, hj, e⟩ := h.R _ hm
    have := idk_inj (by omega) (by omega) e
    omega
theorem Rm.not {s : TbS} {mx k : Nat} (h : Rm s mx k) (hk : k < 256) : s.has (idk k) = false := by
  obtain ⟨h1, h2⟩ := h.fresh hk
  unfold TbS.has
  rw [h1, h.G, hasB_false.2 h2]
  rfl
theorem Rm.add {s : TbS} {mx k : Nat} (h : Rm s mx k) (hk : k < 256) : Rm { s with R := s.R ++ [idk k] } mx (k + 1) := by
  obtain ⟨h1, h2⟩ := h.fresh hk
  refine ⟨h.mx, h.G, h.ng, ?_, fun b hb => ?_, h.more.K⟩
  · rw [List.nodup_append]
    exact ⟨h.nd, by simp, fun a ha b hb e => by simp at hb; subst hb; exact h2 (e ▸ ha)⟩
  · rcases List.mem_append.1 hb with hb | hb
    · exact h.more.R b hb
    · simp at hb
      subst hb
      exact ⟨h1, k, by omega, rfl⟩
theorem Rm.park {s : TbS} {mx k : Nat} {R : List ByteArray} {x on : ByteArray} (h : Rm s mx k) (hR : s.R = R ++ [x]) :
    ∃ s5 : TbS, s5 = TbS.parks { s with R := R, G := fun b => decide (b = x) || s.G b, ng := cntP (s.G x) s.ng } x on ∧ Rm s5 mx k ∧ s5.R = R ∧ s5.np = s.np + 1 := by
  have hx := h.R x (by rw [hR]; simp)
  have hnd := h.nd
  rw [hR, List.nodup_append] at hnd
  have hxR : x ∉ R := fun hm => hnd.2.2 x hm x (by simp) rfl
  refine ⟨_, rfl, ⟨h.mx, fun b => ?_, ?_, hnd.1, fun b hb => ?_, fun b hb => ?_⟩, rfl, ?_⟩
  · show (!decide (b = x) && (decide (b = x) || s.G b)) = false
    rw [h.G]
    by_cases e : b = x <;> simp [e]
  · show cntD (decide (x = x) || s.G x) (cntP (s.G x) s.ng) = 0
    rw [h.G, h.ng]
    simp [cntD, cntP]
  · have hb2 : b ∈ R := hb
    have hbx : b ≠ x := fun e => hxR (e ▸ hb2)
    have := h.R b (by rw [hR]; exact List.mem_append_left _ hb2)
    refine ⟨?_, this.2⟩
    show (if b = x then some on else s.K b) = none
    rw [if_neg hbx]
    exact this.1
  · have hb : ((if b = x then some on else s.K b) : Option ByteArray).isSome = true := hb
    by_cases e : b = x
    · subst e
      exact hx.2
    · rw [if_neg e] at hb
      exact h.K b hb
  · show cntP (s.K x).isSome s.np = s.np + 1
    rw [hx.1]
    rfl
theorem Rm.fin {s : TbS} {mx k : Nat} {R : List ByteArray} {x : ByteArray} (h : Rm s mx k) (hR : s.R = R ++ [x]) :
    ∃ s5 : TbS, s5 = TbS.ends { s with R := R, G := fun b => decide (b = x) || s.G b, ng := cntP (s.G x) s.ng } x ∧ Rm s5 mx k ∧ s5.R = R ∧ s5.np = s.np := by
  have hnd := h.nd
  rw [hR, List.nodup_append] at hnd
  refine ⟨_, rfl, ⟨h.mx, fun b => ?_, ?_, hnd.1, fun b hb => ?_, h.K⟩, rfl, rfl⟩
  · show (!decide (b = x) && (decide (b = x) || s.G b)) = false
    rw [h.G]
    by_cases e : b = x <;> simp [e]
  · show cntD (decide (x = x) || s.G x) (cntP (s.G x) s.ng) = 0
    rw [h.G, h.ng]
    simp [cntD, cntP]
  · exact h.R b (by rw [hR]; exact List.mem_append_left _ hb)
theorem Rm.steal {s : TbS} {mx k : Nat} {R : List ByteArray} {x : ByteArray} (h : Rm s mx k) (hR : s.R = x :: R) : Rm { s with R := R } mx k := by
  have hnd := h.nd
  rw [hR, List.nodup_cons] at hnd
  exact ⟨h.mx, h.G, h.ng, hnd.2, fun b hb => h.R b (by rw [hR]; exact List.mem_cons_of_mem _ hb), h.K⟩
theorem num_any (x : Int) (w : World) : Calls Try.prog 14 #[.int .i64 x] w fun e w2 => e = .returned (.int .i64 x) ∧ w = w2 := by
  go_enter Try.func14, Try.ntmps14
  go_wp2_with fail
  go_ret
  exact ⟨rfl, rfl⟩
theorem tbReady_n (w : World) (F : Nat → Prop) (g : Nat) (s : TbS) (h : Tb w F g s) (n : Nat) (hn : s.R.length = n) (hs : n ≤ 1000000) :
    Calls Try.prog 13 #[.pointer (some ⟨g, 0, none⟩)] w fun e w2 => ∃ A c, e = .returned (.slice A n c) ∧ Chg Non w w2 := by
  subst hn
  refine (tbReady_any w F g s h (by omega)).mono ?_
  rintro e w2 ⟨v, rfl, ho, hc⟩
  obtain ⟨A, c, rfl, _⟩ := ho.open_
  exact ⟨A, c, rfl, hc⟩
theorem tbParked_n (w : World) (F : Nat → Prop) (g : Nat) (s : TbS) (h : Tb w F g s) (n : Nat) (hn : s.np = n) (hs : n ≤ 1000000) :
    Calls Try.prog 18 #[.pointer (some ⟨g, 0, none⟩)] w fun e w2 => ∃ A c, e = .returned (.slice A n c) ∧ Chg Non w w2 := by
  subst hn
  refine (tbParked_any w F g s h (by omega)).mono ?_
  rintro e w2 ⟨v, L, rfl, _, _, _, _, ho, hc⟩
  obtain ⟨A, c, rfl, _⟩ := ho.open_
  exact ⟨A, c, rfl, hc⟩
theorem tbGoing_n (w : World) (F : Nat → Prop) (g : Nat) (s : TbS) (h : Tb w F g s) (n : Nat) (hn : s.ng = n) (hs : n ≤ 1000000) :
    Calls Try.prog 19 #[.pointer (some ⟨g, 0, none⟩)] w fun e w2 => ∃ A c, e = .returned (.slice A n c) ∧ Chg Non w w2 := by
  subst hn
  refine (tbGoing_any w F g s h (by omega)).mono ?_
  rintro e w2 ⟨v, L, rfl, _, _, _, _, ho, hc⟩
  obtain ⟨A, c, rfl, _⟩ := ho.open_
  exact ⟨A, c, rfl, hc⟩
theorem tbLen_n (w : World) (F : Nat → Prop) (g : Nat) (s : TbS) (h : Tb w F g s) (n : Nat) (hn : s.R.length + s.ng + s.np = n) (hs : n ≤ 1000000) :
    Calls Try.prog 17 #[.pointer (some ⟨g, 0, none⟩)] w fun e w2 => e = .returned (.int .i64 (n : Int)) ∧ ∃ k, w2 = w.drewN k := by
  subst hn
  exact tbLen_any w F g s h (by omega)

theorem room_add (w w3 : World) (mx k nn : Nat) (F : Nat → Prop) (g : Nat) (s : TbS) (nm : ByteArray) (hnm : nn ≤ mx) (hT : Tb w3 F g s) (hv : vid nm = true) (hno : s.has nm = false) (hlen : s.R.length + s.ng + s.np = nn) (hsmx : s.mx = mx) (hadd : Rm { s with R := s.R ++ [nm] } mx (k + 1)) (hM : Rm s mx k) (hnn : Hid (nn = s.R.length + s.np)) (hF : ∀ b, F b → w.heap.size ≤ b) (hC : Chg Non w w3) (hm : mx ≤ 15) :
    Calls Try.prog 9 #[.pointer (some ⟨g, 0, none⟩), .string nm] w3 fun e w4 => ∃ (er : Int) (F4 : Nat → Prop) (s1 : TbS) (nn1 : Nat), e = .returned (.int .i64 er) ∧ Tb w4 F4 g s1 ∧ Hid (∀ b, F4 b → w.heap.size ≤ b) ∧ Rm s1 mx (k + 1) ∧ Hid (nn1 = s1.R.length + s1.np) ∧ nn1 ≤ mx ∧ Chg Non w w4 ∧ ((er = 0 ∧ nn1 = nn + 1 ∧ decide (nn < mx) = true) ∨ (er = 31 ∧ nn1 = nn ∧ decide (nn < mx) = false)) := by
  by_cases h : nn < mx
  · refine (tbAdd_yes w3 F g s nm hT hv hno (by rw [hlen, hsmx]; omega) (by rw [hlen]; omega)).mono ?_
    rintro e w4 ⟨rfl, F4, hT4, hF4, hc4⟩
    refine ⟨0, F4, _, nn + 1, rfl, hT4, ?_, hadd, ?_, by omega, hC.newF hc4 hF, .inl ⟨rfl, rfl, decide_eq_true (by omega)⟩⟩
    · exact fun b h => (hF4 b h).elim (hF b) (fun h => by have := hC.size; omega)
    · show nn + 1 = (s.R ++ [nm]).length + s.np
      rw [List.length_append, List.length_singleton, hnn.out]; omega
  · refine (tbAdd_full w3 F g s nm hT hv hno (by rw [hlen, hsmx]; omega) (by rw [hlen]; omega)).mono ?_
    rintro e w4 ⟨rfl, hc4⟩
    exact ⟨31, F, s, nn, rfl, hT.non hc4, hF, hM.more, hnn, hnm, hC.non hc4, .inr ⟨rfl, rfl, decide_eq_false (by omega)⟩⟩

set_option maxRecDepth 100000 in
set_option maxHeartbeats 16000000 in
theorem tableRoom_core (w : World) (mx : Nat) (hm1 : 1 ≤ mx) (hm2 : mx ≤ 15) (A : Option Addr) (n c : Nat) (l : List Int) (hr : Rds w 1 A n (iv l)) (hn : n ≤ 60) :
    Calls Try.prog 4 #[.int .i64 (mx : Int), .slice A n c] w fun e w2 => e = .returned (.bool true) ∧ Chg Non w w2 := by
  have Hr := Lib.hid hr
  have hmx : (if (mx : Int) ≤ 1 then (1 : Int) else (mx : Int)) = mx := by split <;> omega
  have Hmx := Lib.hid hmx
  clear hr hmx
  go_enter Try.func4, Try.ntmps4
  go_wp2_with fail
  refine (tb_alive _).mono ?_
  rintro e w1 ⟨rfl, hc1⟩
  go_wp2_with fail
  refine (tbNew_any mx _).mono ?_
  rintro e w2 ⟨g, rfl, hT, hc2⟩
  rw [Hmx.out] at hT
  have hC2 := hc1.non hc2
  have hF0 : ∀ b, (w1.heap.size ≤ b ∧ b < w2.heap.size) → w.heap.size ≤ b := fun b h => by have := hc1.size; omega
  clear hc1 hc2
  go_wp2_with fail
  go_loopw [7, 8] (fun v i wr => ∃ (k nn : Nat) (s : TbS) (F : Nat → Prop), k ≤ n ∧ i = .int .i64 k ∧ v = .int .i64 nn ∧ nn ≤ mx ∧ Hid (nn = s.R.length + s.np) ∧ Tb wr F g s ∧ Hid (∀ b, F b → w.heap.size ≤ b) ∧ Rm s mx k ∧ Chg Non w wr) (fun _ i _ => n - (intOf i).toNat)
  case atStart => exact ⟨0, 0, (⟨[], fun _ => false, 0, fun _ => none, 0, (mx : Int)⟩ : TbS), _, Nat.zero_le _, rfl, rfl, Nat.zero_le _, rfl, hT, hF0, Rm.start mx, hC2⟩
  case round =>
    clear hT hF0 hC2
    obtain ⟨k, nn, s, F, hk, rfl, rfl, hnm, Hnn, hT, hF, hM, hC⟩ := hrel
    by_cases hlt : k < n
    · obtain ⟨ad, x, rfl, hx, hcell⟩ := Hr.out.getI hlt
      have hcr := hC.cell hcell id
      obtain ⟨y, hy, hand⟩ := and3 x
      have hk256 : k < 256 := by omega
      have q1 := conk hk256 wr
      have hvid := idk_vid hk256
      have hnot := hM.not hk256
      have hadd := hM.add hk256
      have hng := hM.ng
      have hsmx := hM.mx
      have hlen : s.R.length + s.ng + s.np = nn := by rw [hng]; have := Hnn.out; omega
      obtain ⟨nm, hnm2⟩ : ∃ nm, idk k = nm := ⟨_, rfl⟩
      rw [hnm2] at q1 hvid hnot hadd
      obtain ⟨w3, hw3⟩ : ∃ w3, wr.alloc (.cells #[.int .u8 ((k : Int) % 16), .int .u8 ((k : Int) / 16)] 5) = w3 := ⟨_, rfl⟩
      have hCa : Chg Non wr w3 := hw3 ▸ (Chg.refl _ _).alloc _
      rw [hw3] at q1
      have hT3 := hT.non hCa
      have hC3 := hC.non hCa
      have Hcell := Lib.hid hcell
      have Hvid := Lib.hid hvid
      have Hnot := Lib.hid hnot
      have Hlen := Lib.hid hlen
      have Hsmx := Lib.hid hsmx
      have hkn : (k : Int) < n := by omega
      clear hx hcell hvid hnot hng hlen hnm2 hsmx hT hC hCa hcr
      go_wp2_with fail
      refine (room_add w w3 mx k nn F g s nm hnm hT3 Hvid.out Hnot.out Hlen.out Hsmx.out hadd hM Hnn hF.out hC3 hm2).mono ?_
      rintro e w4 ⟨er, F4, s1, nn1, rfl, hT1, hF1, hM1, Hn1, hnm1, hC4, hcase⟩
      clear hT3 hC3 hadd hM hw3 q1 hF Hnn Hnot Hvid Hlen Hsmx
      go_upto_region 11 with (fail)
      go_cut [69] from 36 to 140 (fun v wx => v = .bool false ∧ w4 = wx)
      case first =>
        rcases hcase with ⟨rfl, _, hfd⟩ | ⟨rfl, _, hfd⟩
        · go_wp2_with fail
          refine (num_any _ _).mono ?_
          rintro e w9 ⟨rfl, rfl⟩
          go_wp2_with fail
          refine (num_any _ _).mono ?_
          rintro e w9 ⟨rfl, rfl⟩
          go_wp2_with fail
          go_meet
          exact ⟨rfl, rfl⟩
        · go_wp2_with fail
          refine (num_any _ _).mono ?_
          rintro e w9 ⟨rfl, rfl⟩
          go_wp2_with fail
          refine (num_any _ _).mono ?_
          rintro e w9 ⟨rfl, rfl⟩
          go_wp2_with fail
          refine (num_any _ _).mono ?_
          rintro e w9 ⟨rfl, rfl⟩
          go_wp2_with fail
          go_meet
          exact ⟨rfl, rfl⟩
      case rest =>
        obtain ⟨rfl, rfl⟩ := hcut
        go_wp2_with fail
        refine (num_any _ _).mono ?_
        rintro e w9 ⟨rfl, rfl⟩
        go_upto_if 72 with (fail)
        go_cut [7] from 36 to 140 (fun v wx => v = .int .i64 (nn1 : Int) ∧ w4 = wx)
        case first =>
          rcases hcase with ⟨rfl, he, _⟩ | ⟨rfl, he, _⟩
          · go_wp2_with fail
            go_meet
            exact ⟨by rw [he]; rfl, rfl⟩
          · go_wp2_with fail
            go_meet
            exact ⟨by rw [he], rfl⟩
        case rest =>
          obtain ⟨rfl, rfl⟩ := hcut
          clear hcase
          have hcr1 := hC4.cell Hcell.out id
          go_upto_block 2 with (fail)
          go_cut [7, 11, 12, 13, 14, 15, 16] from 36 to 140 (fun v _ _ _ _ _ _ wx => ∃ (s5 : TbS) (nn2 : Nat) (F5 : Nat → Prop), v = .int .i64 (nn2 : Int) ∧ nn2 ≤ mx ∧ Hid (nn2 = s5.R.length + s5.np) ∧ Tb wx F5 g s5 ∧ Hid (∀ b, F5 b → w.heap.size ≤ b) ∧ Rm s5 mx (k + 1) ∧ Chg Non w wx)
          case first =>
            have hy4 : y = 0 ∨ y = 1 ∨ y = 2 ∨ y = 3 := by omega
            have hng1 : s1.ng ≤ 1000000000 := by rw [hM1.ng]; omega
            have hnp1 : s1.np ≤ 1000000000 := by have := Hn1.out; omega
            rcases hy4 with rfl | rfl | rfl | rfl
            · rcases List.eq_nil_or_concat s1.R with hR | ⟨R, z, hR⟩
              · go_wp2_with fail
                refine (tbNext_no w4 F4 g s1 hT1 hR).mono ?_
                rintro e w5 ⟨rfl, rfl⟩
                clear hR
                go_wp2_with fail
                go_meet
                exact ⟨s1, nn1, F4, rfl, hnm1, Hn1, hT1, hF1, hM1, hC4⟩
              · have hR : s1.R = R ++ [z] := by rw [hR]; simp
                have hz : z.size ≤ maxLen := by
                  obtain ⟨_, j, hj, e⟩ := hM1.R z (by rw [hR]; simp)
                  rw [e]
                  exact id_small (idk_vid (by omega))
                obtain ⟨s5, hs5, hM5, hR5, hnp5⟩ := hM1.park (on := ⟨#[]⟩) hR
                have HR := Lib.hid hR
                have hn9 := Hn1.out
                rw [hR, List.length_append, List.length_singleton] at hn9
                rw [← hR5] at hn9
                have Hn9 : Hid (nn1 = s5.R.length + s5.np) := by show _ = _; omega
                clear hR hn9
                go_wp2_with fail
                refine (tbNext_yes w4 F4 g s1 R z hT1 HR.out hz hng1).mono ?_
                rintro e w5 ⟨rfl, hT5, hc5⟩
                have hC5 := hC4.newF hc5 hF1.out
                go_wp2_with fail
                obtain ⟨sN, hT5, hsN, hGN, hnpN⟩ : ∃ sN, Tb w5 F4 g sN ∧ TbS.parks sN z ⟨#[]⟩ = s5 ∧ sN.G z = true ∧ sN.np ≤ 1000000000 := ⟨_, hT5, hs5.symm, by simp, hnp1⟩
                refine (tbPark_any w5 F4 g sN z ⟨#[]⟩ hT5 hz hnpN).mono ?_
                rintro e w6 ⟨rfl, hT6, hc6⟩
                rw [show (vid ⟨#[]⟩ && sN.G z) = true by rw [hGN]; decide, if_pos rfl, hsN] at hT6
                have hC6 := hC5.newF hc6 hF1.out
                clear hT5 hC5 hc5 hc6 hs5 hT1 hC4 HR hR5
                go_wp2_with fail
                go_meet
                exact ⟨s5, nn1, F4, rfl, hnm1, Hn9, hT6, hF1, hM5, hC6⟩
            · rcases List.eq_nil_or_concat s1.R with hR | ⟨R, z, hR⟩
              · go_wp2_with fail
                refine (tbNext_no w4 F4 g s1 hT1 hR).mono ?_
                rintro e w5 ⟨rfl, rfl⟩
                clear hR
                go_wp2_with fail
                go_meet
                exact ⟨s1, nn1, F4, rfl, hnm1, Hn1, hT1, hF1, hM1, hC4⟩
              · have hR : s1.R = R ++ [z] := by rw [hR]; simp
                have hz : z.size ≤ maxLen := by
                  obtain ⟨_, j, hj, e⟩ := hM1.R z (by rw [hR]; simp)
                  rw [e]
                  exact id_small (idk_vid (by omega))
                obtain ⟨s5, hs5, hM5, hR5, hnp5⟩ := hM1.fin hR
                have HR := Lib.hid hR
                have hn9 := Hn1.out
                rw [hR, List.length_append, List.length_singleton] at hn9
                rw [← hR5] at hn9
                obtain ⟨nn2, Hn9, hnn⟩ : ∃ nn2, Hid (nn2 = s5.R.length + s5.np) ∧ nn1 = nn2 + 1 := ⟨nn1 - 1, by show _ = _; omega, by omega⟩
                clear hR hn9
                go_wp2_with fail
                refine (tbNext_yes w4 F4 g s1 R z hT1 HR.out hz hng1).mono ?_
                rintro e w5 ⟨rfl, hT5, hc5⟩
                have hC5 := hC4.newF hc5 hF1.out
                go_wp2_with fail
                refine (tbEnd_any w5 F4 g _ z hT5 hz).mono ?_
                rintro e w6 ⟨rfl, hT6, hc6⟩
                rw [← hs5] at hT6
                have hC6 := hC5.newF hc6 hF1.out
                clear hT5 hC5 hc5 hc6 hs5 hT1 hC4 HR hR5
                go_wp2_with fail
                go_meet
                exact ⟨s5, nn2, F4, by congr 1 <;> omega, by omega, Hn9, hT6, hF1, hM5, hC6⟩
            · cases hR : s1.R with
              | nil =>
                go_wp2_with fail
                refine (tbSteal_no w4 F4 g s1 hT1 hR).mono ?_
                rintro e w5 ⟨rfl, rfl⟩
                clear hR
                go_wp2_with fail
                go_meet
                exact ⟨s1, nn1, F4, rfl, hnm1, Hn1, hT1, hF1, hM1, hC4⟩
              | cons z R =>
                obtain ⟨s5, hs5, hM5, hR5, hnp5⟩ : ∃ s5 : TbS, s5 = { s1 with R := R } ∧ Rm s5 mx (k + 1) ∧ s5.R = R ∧ s5.np = s1.np := ⟨_, rfl, hM1.steal hR, rfl, rfl⟩
                have HR := Lib.hid hR
                have hn9 := Hn1.out
                rw [hR, List.length_cons] at hn9
                rw [← hR5] at hn9
                obtain ⟨nn2, Hn9, hnn⟩ : ∃ nn2, Hid (nn2 = s5.R.length + s5.np) ∧ nn1 = nn2 + 1 := ⟨nn1 - 1, by show _ = _; omega, by omega⟩
                clear hR hn9
                go_wp2_with fail
                refine (tbSteal_yes w4 F4 g s1 R z hT1 HR.out).mono ?_
                rintro e w6 ⟨rfl, hT6, hc6⟩
                rw [← hs5] at hT6
                have hC6 := hC4.newF hc6 hF1.out
                clear hc6 hs5 hT1 hC4 HR hR5
                go_wp2_with fail
                go_meet
                exact ⟨s5, nn2, F4, by congr 1 <;> omega, by omega, Hn9, hT6, hF1, hM5, hC6⟩
            · go_wp2_with fail
              go_meet
              exact ⟨s1, nn1, F4, rfl, hnm1, Hn1, hT1, hF1, hM1, hC4⟩
          case rest =>
            clear hT1 hF1 hM1 Hn1 hC4 hcr1
            obtain ⟨s5, nn2, F5, rfl, hnm2, Hn9, hT6, hF5, hM5, hC6⟩ := hcut
            go_wp2_with fail
            obtain ⟨N, hN⟩ : ∃ N, s5.R.length + s5.ng + s5.np = N := ⟨_, rfl⟩
            obtain ⟨r, hr⟩ : ∃ r, s5.R.length = r := ⟨_, rfl⟩
            obtain ⟨p, hp⟩ : ∃ p, s5.np = p := ⟨_, rfl⟩
            obtain ⟨q, hq⟩ : ∃ q, s5.ng = q := ⟨_, rfl⟩
            have hn9 := Hn9.out
            have hNV : (N : Int) = (nn2 : Int) ∧ r + p + q = N ∧ N ≤ mx ∧ N = r + p := by
              have h1 := hM5.ng
              omega
            obtain ⟨hNV1, hrpq, hNm, hNrp⟩ := hNV
            obtain rfl : nn2 = N := by omega
            have hb1 : ((nn2 : Int) != (nn2 : Int)) = false := bne_self_eq_false _
            have i1 : IntKind.i64.wrap ((r : Int) + (p : Int)) = (r : Int) + (p : Int) := IntWalk.i64_in _ (by omega)
            have i2 : IntKind.i64.wrap ((r : Int) + (p : Int) + (q : Int)) = (r : Int) + (p : Int) + (q : Int) := IntWalk.i64_in _ (by omega)
            have hb2 : ((r : Int) + (p : Int) + (q : Int) != (nn2 : Int)) = false := by rw [show ((nn2 : Nat) : Int) = (r : Int) + (p : Int) + (q : Int) by omega]; exact bne_self_eq_false _
            have hr9 : r ≤ 1000000 := by omega
            have hp9 : p ≤ 1000000 := by omega
            have hq9 : q ≤ 1000000 := by omega
            clear hn9
            have HN := Lib.hid hN
            have Hr2 := Lib.hid hr
            have Hp2 := Lib.hid hp
            have Hq2 := Lib.hid hq
            have HNV := Lib.hid hNV1
            have HNrp := Lib.hid hNrp
            have hgl : g < wc.heap.size := by obtain ⟨⟨_, _, _, _, _, _, hb, _⟩, _⟩ := hT6; exact hb.lt
            clear hN hr hp hq hNV1 hrpq hNrp
            refine st_region 8 Non [3, 10, 15, 21] [] (fun _ _ _ wx => Tb wx F5 g s5) (fun _ _ _ _ => True) (fun i _ v => if i = 3 then v = .int .i64 (nn2 : Int) else if i = 10 then (∃ A c, v = .slice A r c) else if i = 15 then (∃ A c, v = .slice A p c) else ∃ A c, v = .slice A q c) (fun wx => Tb wx F5 g s5) (by kernel_rfl) (by kernel_rfl) (fun _ h => h.elim) (hT6.non (Chg.refl _ _).drew) (fun wx ob h => h.non ((Chg.refl _ wx).alloc ob)) ?_
            repeat (first | (refine st_pass (by rfl) ?_; simp only [Act.put, List.setIfInBounds_toArray, List.set_cons_succ, List.set_cons_zero]) | (refine st_plain (Non) (wc) rfl rfl (f := ?_) (by rfl) rfl rfl (fun w hC hG => ?_) ?_; rotate_left; (clear hG; first | (go_simp; done) | (go_simp; with_reducible rfl) | (simp [*, go_sem, ↓IntWalk.iteOmega]; done) | (simp [*, go_sem, ↓IntWalk.iteOmega]; with_reducible rfl)); simp only [Act.put, List.setIfInBounds_toArray, List.set_cons_succ, List.set_cons_zero]))
            refine st_major (Non) (wc) rfl rfl (by rfl) rfl (⟨.int .i64 (nn2 : Int), rfl⟩) (fun _ _ _ _ _ _ => trivial) (fun v wx ob h => h.non ((Chg.refl _ wx).alloc ob)) (fun w hC hG hS => settle_of (r2 := ?_) ?_ ?_) ?_
            rotate_left
            (first | (go_simp; done) | (go_simp; rfl))
            · refine settle_enter ((tbLen_n _ F5 g s5 hS nn2 HN.out (by omega)).mono ?_)
              rintro e w6 ⟨rfl, j, rfl⟩
              exact ⟨_, rfl, rfl, (Chg.refl _ _).drewN j, hS.non ((Chg.refl _ _).drewN j), trivial⟩
            · rintro v hv
              obtain rfl : v = .int .i64 (nn2 : Int) := hv
              simp only [Act.put, List.setIfInBounds_toArray, List.set_cons_succ, List.set_cons_zero]
              repeat (first | (refine st_pass (by rfl) ?_; simp only [Act.put, List.setIfInBounds_toArray, List.set_cons_succ, List.set_cons_zero]) | (refine st_plain (Non) (wc) rfl rfl (f := ?_) (by rfl) rfl rfl (fun w hC hG => ?_) ?_; rotate_left; (clear hG; first | (go_simp; done) | (go_simp; with_reducible rfl) | (simp [*, go_sem, ↓IntWalk.iteOmega]; done) | (simp [*, go_sem, ↓IntWalk.iteOmega]; with_reducible rfl)); simp only [Act.put, List.setIfInBounds_toArray, List.set_cons_succ, List.set_cons_zero]))
              refine st_major (Non) (wc) rfl rfl (by rfl) rfl (⟨.slice none r 0, none, 0, rfl⟩) (fun _ _ _ _ _ _ => trivial) (fun v wx ob h => h.non ((Chg.refl _ wx).alloc ob)) (fun w hC hG hS => settle_of (r2 := ?_) ?_ ?_) ?_
              rotate_left
              (first | (go_simp; done) | (go_simp; rfl))
              · refine settle_enter ((tbReady_n _ F5 g s5 hS r Hr2.out (by omega)).mono ?_)
                rintro e w6 ⟨A6, c6, rfl, hc6⟩
                exact ⟨_, rfl, ⟨_, _, rfl⟩, hc6, Tb.non hS hc6, trivial⟩
              · rintro v ⟨A6, c6, rfl⟩
                simp only [Act.put, List.setIfInBounds_toArray, List.set_cons_succ, List.set_cons_zero]
                repeat (first | (refine st_pass (by rfl) ?_; simp only [Act.put, List.setIfInBounds_toArray, List.set_cons_succ, List.set_cons_zero]) | (refine st_plain (Non) (wc) rfl rfl (f := ?_) (by rfl) rfl rfl (fun w hC hG => ?_) ?_; rotate_left; (clear hG; first | (go_simp; done) | (go_simp; with_reducible rfl) | (simp [*, go_sem, ↓IntWalk.iteOmega]; done) | (simp [*, go_sem, ↓IntWalk.iteOmega]; with_reducible rfl)); simp only [Act.put, List.setIfInBounds_toArray, List.set_cons_succ, List.set_cons_zero]))
                refine st_major (Non) (wc) rfl rfl (by rfl) rfl (⟨.slice none p 0, none, 0, rfl⟩) (fun _ _ _ _ _ _ => trivial) (fun v wx ob h => h.non ((Chg.refl _ wx).alloc ob)) (fun w hC hG hS => settle_of (r2 := ?_) ?_ ?_) ?_
                rotate_left
                (first | (go_simp; done) | (go_simp; rfl))
                · refine settle_enter ((tbParked_n _ F5 g s5 hS p Hp2.out (by omega)).mono ?_)
                  rintro e w6 ⟨A7, c7, rfl, hc6⟩
                  exact ⟨_, rfl, ⟨_, _, rfl⟩, hc6, Tb.non hS hc6, trivial⟩
                · rintro v ⟨A7, c7, rfl⟩
                  simp only [Act.put, List.setIfInBounds_toArray, List.set_cons_succ, List.set_cons_zero]
                  repeat (first | (refine st_pass (by rfl) ?_; simp only [Act.put, List.setIfInBounds_toArray, List.set_cons_succ, List.set_cons_zero]) | (refine st_plain (Non) (wc) rfl rfl (f := ?_) (by rfl) rfl rfl (fun w hC hG => ?_) ?_; rotate_left; (clear hG; first | (go_simp; done) | (go_simp; with_reducible rfl) | (simp [*, go_sem, ↓IntWalk.iteOmega]; done) | (simp [*, go_sem, ↓IntWalk.iteOmega]; with_reducible rfl)); simp only [Act.put, List.setIfInBounds_toArray, List.set_cons_succ, List.set_cons_zero]))
                  refine st_major (Non) (wc) rfl rfl (by rfl) rfl (⟨.slice none q 0, none, 0, rfl⟩) (fun _ _ _ _ _ _ => trivial) (fun v wx ob h => h.non ((Chg.refl _ wx).alloc ob)) (fun w hC hG hS => settle_of (r2 := ?_) ?_ ?_) ?_
                  rotate_left
                  (first | (go_simp; done) | (go_simp; rfl))
                  · refine settle_enter ((tbGoing_n _ F5 g s5 hS q Hq2.out (by omega)).mono ?_)
                    rintro e w6 ⟨A8, c8, rfl, hc6⟩
                    exact ⟨_, rfl, ⟨_, _, rfl⟩, hc6, Tb.non hS hc6, trivial⟩
                  · rintro v ⟨A8, c8, rfl⟩
                    simp only [Act.put, List.setIfInBounds_toArray, List.set_cons_succ, List.set_cons_zero]
                    repeat (first | (refine st_pass (by rfl) ?_; simp only [Act.put, List.setIfInBounds_toArray, List.set_cons_succ, List.set_cons_zero]) | (refine st_plain (Non) (wc) rfl rfl (f := ?_) (by rfl) rfl rfl (fun w hC hG => ?_) ?_; rotate_left; (clear hG; first | (go_simp; done) | (go_simp; with_reducible rfl) | (simp [*, go_sem, ↓IntWalk.iteOmega]; done) | (simp [*, go_sem, ↓IntWalk.iteOmega]; with_reducible rfl)); simp only [Act.put, List.setIfInBounds_toArray, List.set_cons_succ, List.set_cons_zero]))
                    refine st_end Non wc rfl rfl (fun wE hCE hSE hG => ?_)
                    clear hG
                    have hTE : Tb wE F5 g s5 := hSE
                    have hCF := hC6.non hCE
                    have HnE : Hid (nn2 = s5.R.length + s5.np) := by show _ = _; rw [Hr2.out, Hp2.out]; exact HNrp.out
                    clear hSE hCE
                    go_wp2_with fail
                    go_roundw
                    case rel => exact ⟨k + 1, nn2, s5, F5, by omega, by go_num, rfl, by omega, HnE, hTE, hF5, hM5, hCF⟩
                    case measure => simp [intOf]; omega
    · go_wp2_with fail
      go_ret
      exact ⟨rfl, hC⟩
set_option maxRecDepth 100000 in
set_option maxHeartbeats 4000000 in
theorem tableRoom_walk (w : World) (mx : Int) (h1 : i64 mx) (A : Option Addr) (n c : Nat) (e0 : Rd Try.prog w 22 (Value.slice A n c).cells.toList) :
    Calls Try.prog 4 #[.int .i64 mx, .slice A n c] w fun e w2 => e = .returned (.bool true) ∧ Chg Non w w2 := by
  obtain ⟨A', n', c', l, g1, g2, g3, g4, g5⟩ := e0.ints Try.underlying22 (by kernel_rfl) Try.underlying3
  simp only [Value.cells, List.cons.injEq, and_true, Value.slice.injEq] at g1
  obtain ⟨rfl, rfl, rfl⟩ := g1
  by_cases hn : 1 ≤ mx ∧ mx ≤ 15 ∧ n ≤ 60
  · obtain ⟨k1, k2, k3⟩ := hn
    obtain ⟨M, rfl⟩ : ∃ M : Nat, mx = M := ⟨mx.toNat, by omega⟩
    exact tableRoom_core w M (by omega) (by omega) A n c l g4 k3
  · clear g4 e0 g5
    unfold maxLen at g3
    have hcase : mx < 1 ∨ (1 ≤ mx ∧ 15 < mx) ∨ (1 ≤ mx ∧ mx ≤ 15 ∧ 60 < n) := by omega
    clear hn
    rcases hcase with k1 | ⟨k1, k2⟩ | ⟨k1, k2, k3⟩
    all_goals
      go_enter Try.func4, Try.ntmps4
      go_wp2_with fail
      refine (tb_alive _).mono ?_
      rintro e w1 ⟨rfl, hc1⟩
      go_wp2_with fail
      go_ret
      exact ⟨rfl, hc1⟩
end Go.Proofs.Ytfglikgifkpfpaa
