/-
  gleanerlaw16.TableEnds: the walk. (Written by gen_tableends.py.)
-/
import Derived.Test.YtfglikgifkpfpaaTable
namespace Go.Proofs.Ytfglikgifkpfpaa
open Go.RowKit
set_option linter.unusedVariables false
set_option linter.unusedSimpArgs false

theorem and3 (x : Int) : bits .and .i64 x 3 = x % 4 := by
  show IntKind.i64.wrap ((BitVec.ofInt 64 x &&& BitVec.ofInt 64 3).toNat : Int) = _
  rw [BitVec.toNat_and, show (BitVec.ofInt 64 3).toNat = 2 ^ 2 - 1 from rfl, Nat.and_two_pow_sub_one_eq_mod, BitVec.toNat_ofInt, IntKind.wrap_i64]
  omega

/-- The k-th name. -/
def idn (k : Nat) : ByteArray := ⟨#[UInt8.ofNat (k % 16), UInt8.ofNat (k / 16 % 16)]⟩
theorem idn_vid (k : Nat) : vid (idn k) = true := by
  unfold vid idn
  simp [okD, ByteArray.size]
  omega
theorem idn_inj {j k : Nat} (hj : j < 256) (hk : k < 256) (h : idn j = idn k) : j = k := by
  unfold idn at h
  injection h with h
  injection h with h
  injection h with h1 h2
  injection h2 with h2 _
  have e1 : j % 16 = k % 16 := by
    have := congrArg UInt8.toNat h1
    simp at this
    omega
  have e2 : j / 16 % 16 = k / 16 % 16 := by
    have := congrArg UInt8.toNat h2
    simp at this
    omega
  omega

/-- What is known of a table behind k rounds. -/
structure Fine (s : TbS) (k : Nat) : Prop where
  mx : s.mx = 300
  np : s.np = 0
  K : ∀ a, s.K a = none
  R : ∀ a ∈ s.R, ∃ j, j < k ∧ a = idn j
  G : ∀ a, s.G a = true → ∃ j, j < k ∧ a = idn j
  n : s.R.length + s.ng ≤ k
theorem Fine.more {s : TbS} {k : Nat} (h : Fine s k) : Fine s (k + 1) := ⟨h.mx, h.np, h.K, fun a ha => (h.R a ha).imp fun j hj => ⟨by omega, hj.2⟩, fun a ha => (h.G a ha).imp fun j hj => ⟨by omega, hj.2⟩, by have := h.n; omega⟩
theorem Fine.not {s : TbS} {k : Nat} (h : Fine s k) (hk : k ≤ 200) : s.has (idn k) = false := by
  unfold TbS.has
  rw [h.K]
  have h1 : s.G (idn k) = false := by
    cases hg : s.G (idn k) with
    | false => rfl
    | true =>
      obtain ⟨j, hj, e⟩ := h.G _ hg
      have := idn_inj (by omega) (by omega) e
      omega
  have h2 : hasB s.R (idn k) = false := by
    rw [hasB_false]
    intro hm
    obtain ⟨j, hj, e⟩ := h.R _ hm
    have := idn_inj (by omega) (by omega) e
    omega
  rw [h1, h2]
  rfl
theorem Fine.add {s : TbS} {k : Nat} (h : Fine s k) : Fine { s with R := s.R ++ [idn k] } (k + 1) := by
  refine ⟨h.mx, h.np, h.K, fun a ha => ?_, h.more.G, ?_⟩
  · rcases List.mem_append.1 ha with h1 | h1
    · exact h.more.R a h1
    · simp at h1
      exact ⟨k, by omega, h1⟩
  · have := h.n
    simp
    omega
theorem Fine.next {s : TbS} {k : Nat} {R : List ByteArray} {x : ByteArray} (h : Fine s k) (hR : s.R = R ++ [x]) : Fine { s with R := R, G := fun b => decide (b = x) || s.G b, ng := cntP (s.G x) s.ng } (k + 1) := by
  have hx : ∃ j, j < k ∧ x = idn j := h.R x (by rw [hR]; simp)
  refine ⟨h.mx, h.np, h.K, fun a ha => h.more.R a (by rw [hR]; simp [ha]), fun a ha => ?_, ?_⟩
  · simp only [Bool.or_eq_true, decide_eq_true_eq] at ha
    rcases ha with rfl | ha
    · exact hx.imp fun j hj => ⟨by omega, hj.2⟩
    · exact h.more.G a ha
  · have h1 := h.n
    rw [hR] at h1
    simp at h1
    have : cntP (s.G x) s.ng ≤ s.ng + 1 := by unfold cntP; split <;> omega
    simp only
    omega
theorem Fine.steal {s : TbS} {k : Nat} {R : List ByteArray} {x : ByteArray} (h : Fine s k) (hR : s.R = x :: R) : Fine { s with R := R } (k + 1) := by
  refine ⟨h.mx, h.np, h.K, fun a ha => h.more.R a (by rw [hR]; simp [ha]), h.more.G, ?_⟩
  have h1 := h.n
  rw [hR] at h1
  simp at h1
  simp only
  omega
theorem Fine.idn {s : TbS} {k : Nat} (h : Fine s k) {a : ByteArray} (ha : a ∈ s.R) : a.size ≤ maxLen := by
  obtain ⟨j, _, rfl⟩ := h.R a ha
  have := vid_small (idn_vid j)
  unfold maxLen
  omega

theorem tbReady_n (w : World) (F : Nat → Prop) (g : Nat) (s : TbS) (h : Tb w F g s) (n : Nat) (hn : s.R.length = n) (hs : n ≤ 1000000) :
    Calls Try.prog 13 #[.pointer (some ⟨g, 0, none⟩)] w fun e w2 => ∃ v, e = .returned v ∧ OwnR rkI w2 w.heap.size v n (sv s.R) ∧ Chg Non w w2 := by
  subst hn
  exact tbReady_any w F g s h (by omega)

set_option maxRecDepth 100000 in
set_option maxHeartbeats 2000000 in
theorem tableEnds_core (w : World) (A : Option Addr) (n c : Nat) (l : List Int) (hr : Rds w 1 A n (iv l)) (hl : ∀ x ∈ l, i64 x) (hn : n ≤ 200) :
    Calls Try.prog 3 #[.slice A n c] w fun e w2 => e = .returned (.bool true) ∧ Chg Non w w2 := by
  have hrk := Lib.hid hr
  clear hr
  go_enter Try.func3, Try.ntmps3
  go_wp2_with fail
  refine (tb_alive _).mono ?_
  rintro e w1 ⟨rfl, hc1⟩
  go_wp2_with fail
  refine (tbNew_any 300 _).mono ?_
  rintro e w2 ⟨g, rfl, hT, hc2⟩
  have hC2 := hc1.non hc2
  have hF0 : ∀ b, (w1.heap.size ≤ b ∧ b < w2.heap.size) → w.heap.size ≤ b := fun b h => by have := hc1.size; omega
  clear hc1 hc2
  go_wp2_with fail
  go_loopw [5, 6] (fun v i wr => ∃ (k : Nat) (s : TbS) (F : Nat → Prop), k ≤ n ∧ i = .int .i64 k ∧ Win rkI wr v s.R.length (sv s.R) ∧ Hid (∀ b, v.ownBlock = some b → w.heap.size ≤ b ∧ ¬ F b) ∧ Tb wr F g s ∧ Hid (∀ b, F b → w.heap.size ≤ b) ∧ Fine s k ∧ Chg Non w wr) (fun _ i _ => n - (intOf i).toNat)
  case atStart => exact ⟨0, _, _, Nat.zero_le _, rfl, Win.nil _ _, (fun b h => by simp [Value.ownBlock] at h), hT, hF0, ⟨rfl, rfl, fun _ => rfl, (fun a h => by simp at h), (fun a h => by cases h), Nat.le_refl _⟩, hC2⟩
  case round =>
    clear hT hF0 hC2
    obtain ⟨k, s, F, hk, rfl, hwin, hvF, hT, hF, hfine, hC⟩ := hrel
    by_cases hlt : k < n
    · obtain ⟨ad, x, rfl, hx, hcell⟩ := hrk.out.getI hlt
      have hcr := hC.cell hcell id
      obtain ⟨r, hr4, hand⟩ : ∃ r : Nat, r < 4 ∧ bits .and .i64 x 3 = (r : Int) := ⟨(x % 4).toNat, by omega, by rw [and3]; omega⟩
      have hsn : s.R.length ≤ 200 := by have := hfine.n; omega
      clear hx hcell
      have hr4 : r = 0 ∨ r = 1 ∨ r = 2 ∨ r = 3 := by omega
      rcases hr4 with rfl | rfl | rfl | rfl
      · obtain ⟨w3, hw3⟩ : ∃ w3, wr.alloc (.cells #[.int .u8 ((k : Int) % 16), .int .u8 ((k : Int) / 16 % 16)] 5) = w3 := ⟨_, rfl⟩
        have hc3 : Chg Non wr w3 := hw3 ▸ (Chg.refl _ _).alloc _
        have q3 : (convert 28 27 (.slice (some ⟨wr.heap.size, 0, none⟩) 2 2)).run Try.prog w3 = .ok (.string (idn k)) w3 := by
          have h1 : Rds w3 1 (some ⟨wr.heap.size, 0, none⟩) 2 (bv [UInt8.ofNat (k % 16), UInt8.ofNat (k / 16 % 16)]) := by
            rw [← hw3]
            have := Rds.block (Blk.new wr 5 #[.int .u8 ((k : Int) % 16), .int .u8 ((k : Int) / 16 % 16)]) (n := 2) rfl
            simpa [bv, show k % 16 % 256 = k % 16 by omega, show k / 16 % 16 % 256 = k / 16 % 16 by omega] using this
          exact run_string_rds (L := [UInt8.ofNat (k % 16), UInt8.ofNat (k / 16 % 16)]) Try.underlying28 Try.underlying5 Try.underlying27 h1 2
        have hnot := hfine.not (k := k) (by omega)
        have hadd := hfine.add
        have hvid := idn_vid k
        have hroom : (s.R.length + s.ng + s.np : Nat) < s.mx := by have h1 := hfine.n; have h2 := hfine.mx; have h3 := hfine.np; rw [h2]; omega
        have hroom2 : s.R.length + s.ng + s.np ≤ 1000000000 := by have h1 := hfine.n; have h3 := hfine.np; omega
        have hT3 := hT.non hc3
        have hwin3 := hwin.non hc3
        have hC3 := hC.non hc3
        generalize idn k = nm at q3 hnot hadd hvid
        have Hnot := Lib.hid hnot
        have Hvid := Lib.hid hvid
        have Hroom := Lib.hid hroom
        have Hroom2 := Lib.hid hroom2
        clear hnot hvid hroom hroom2 hT hwin hC hc3
        obtain ⟨Av, cv, rfl, _, _, _⟩ := hwin3.open_
        go_wp2_with fail
        refine (tbAdd_yes _ F g s nm hT3 Hvid.out Hnot.out Hroom.out Hroom2.out).mono ?_
        rintro e w5 ⟨rfl, F2, hT5, hF2, hc5⟩
        have hwin5 := hwin3.chg hc5 (fun b e => (hvF.out b e).2)
        have hC5 : Chg Non w w5 := hC3.trans2 hc5 (fun b e => .inr (hF.out b e))
        have hs5 := hc5.size
        clear hc5
        go_wp2_with (at_builtin; refine appW1 (K := rkI) rfl (.tmp 71) (.tmp 73) rfl hwin5 rfl (cs := #[.string nm]) rfl rfl (sv_one [nm]) ?_ ?_; (next => omega); intro v6 w6 h6 hc6 hb6; obtain ⟨A6, c6, rfl, _⟩ := h6.open_)
        have hT6 := hT5.chg hc6 (fun b hb e => (hF2 b hb).elim (fun h => (hvF.out b e).2 h) (fun h => by have := hwin3.lt e; omega))
        have hF6 : Hid (∀ b, F2 b → w.heap.size ≤ b) := fun b hb => (hF2 b hb).elim (hF.out b) (fun h => by have := hC3.size; omega)
        have hC6 : Chg Non w w6 := hC5.trans2 hc6 (fun b e => .inr (hvF.out b e).1)
        have hv6 : Hid (∀ b, (Value.slice A6 (s.R.length + 1) c6).ownBlock = some b → w.heap.size ≤ b ∧ ¬ F2 b) := by
          intro b hb
          rcases hb6 b hb with h | h
          · refine ⟨(hvF.out b h).1, fun e => (hF2 b e).elim (hvF.out b h).2 (fun h2 => ?_)⟩
            have := hwin3.lt h
            omega
          · refine ⟨by have := hC5.size; omega, fun e => ?_⟩
            have := hT5.lt b e
            omega
        have h7 : Win rkI w6 (.slice A6 (s.R.length + 1) c6) (s.R.length + 1) (sv (s.R ++ [nm])) := by rw [sv_snoc]; exact h6
        clear h6 hb6 hc6 hF2 hT5 hC5 hwin5 hwin3 hC3 hT3 q3 hcr
        refine (tbReady_n _ F2 g _ hT6 (s.R.length + 1) (by simp) (by omega)).mono ?_
        rintro e w11 ⟨v11, rfl, ho11, hc11⟩
        obtain ⟨A11, c11, rfl, _, _, hr11, _⟩ := ho11.open_
        go_wp2_with fail
        refine (sameIDs_same _ A11 _ c11 _ _ _ hr11 (h7.non hc11).rds (h7.small)).mono ?_
        rintro e w12 ⟨rfl, hc12⟩
        have hCe := (hC6.non hc11).non hc12
        have hTe := (hT6.non hc11).non hc12
        have hWe := (h7.non hc11).non hc12
        clear hc11 hc12 ho11 hr11
        go_wp2_with fail
        go_roundw
        case rel => exact ⟨k + 1, _, F2, by omega, by go_num, by simpa using hWe, hv6, hTe, hF6, hadd, hCe⟩
        case measure => simp [intOf]; omega
      · obtain ⟨w3, hw3⟩ : ∃ w3, wr.alloc (.cells #[.int .u8 ((k : Int) % 16), .int .u8 ((k : Int) / 16 % 16)] 5) = w3 := ⟨_, rfl⟩
        have hc3 : Chg Non wr w3 := hw3 ▸ (Chg.refl _ _).alloc _
        have q3 : (convert 28 27 (.slice (some ⟨wr.heap.size, 0, none⟩) 2 2)).run Try.prog w3 = .ok (.string (idn k)) w3 := by
          have h1 : Rds w3 1 (some ⟨wr.heap.size, 0, none⟩) 2 (bv [UInt8.ofNat (k % 16), UInt8.ofNat (k / 16 % 16)]) := by
            rw [← hw3]
            have := Rds.block (Blk.new wr 5 #[.int .u8 ((k : Int) % 16), .int .u8 ((k : Int) / 16 % 16)]) (n := 2) rfl
            simpa [bv, show k % 16 % 256 = k % 16 by omega, show k / 16 % 16 % 256 = k / 16 % 16 by omega] using this
          exact run_string_rds (L := [UInt8.ofNat (k % 16), UInt8.ofNat (k / 16 % 16)]) Try.underlying28 Try.underlying5 Try.underlying27 h1 2
        have hnot := hfine.not (k := k) (by omega)
        have hadd := hfine.add
        have hvid := idn_vid k
        have hroom : (s.R.length + s.ng + s.np : Nat) < s.mx := by have h1 := hfine.n; have h2 := hfine.mx; have h3 := hfine.np; rw [h2]; omega
        have hroom2 : s.R.length + s.ng + s.np ≤ 1000000000 := by have h1 := hfine.n; have h3 := hfine.np; omega
        have hT3 := hT.non hc3
        have hwin3 := hwin.non hc3
        have hC3 := hC.non hc3
        generalize idn k = nm at q3 hnot hadd hvid
        have Hnot := Lib.hid hnot
        have Hvid := Lib.hid hvid
        have Hroom := Lib.hid hroom
        have Hroom2 := Lib.hid hroom2
        clear hnot hvid hroom hroom2 hT hwin hC hc3
        obtain ⟨Av, cv, rfl, _, _, _⟩ := hwin3.open_
        go_wp2_with fail
        refine (tbAdd_yes _ F g s nm hT3 Hvid.out Hnot.out Hroom.out Hroom2.out).mono ?_
        rintro e w5 ⟨rfl, F2, hT5, hF2, hc5⟩
        have hwin5 := hwin3.chg hc5 (fun b e => (hvF.out b e).2)
        have hC5 : Chg Non w w5 := hC3.trans2 hc5 (fun b e => .inr (hF.out b e))
        have hs5 := hc5.size
        clear hc5
        go_wp2_with (at_builtin; refine appW1 (K := rkI) rfl (.tmp 71) (.tmp 73) rfl hwin5 rfl (cs := #[.string nm]) rfl rfl (sv_one [nm]) ?_ ?_; (next => omega); intro v6 w6 h6 hc6 hb6; obtain ⟨A6, c6, rfl, _⟩ := h6.open_)
        have hT6 := hT5.chg hc6 (fun b hb e => (hF2 b hb).elim (fun h => (hvF.out b e).2 h) (fun h => by have := hwin3.lt e; omega))
        have hF6 : Hid (∀ b, F2 b → w.heap.size ≤ b) := fun b hb => (hF2 b hb).elim (hF.out b) (fun h => by have := hC3.size; omega)
        have hC6 : Chg Non w w6 := hC5.trans2 hc6 (fun b e => .inr (hvF.out b e).1)
        have hv6 : Hid (∀ b, (Value.slice A6 (s.R.length + 1) c6).ownBlock = some b → w.heap.size ≤ b ∧ ¬ F2 b) := by
          intro b hb
          rcases hb6 b hb with h | h
          · refine ⟨(hvF.out b h).1, fun e => (hF2 b e).elim (hvF.out b h).2 (fun h2 => ?_)⟩
            have := hwin3.lt h
            omega
          · refine ⟨by have := hC5.size; omega, fun e => ?_⟩
            have := hT5.lt b e
            omega
        have h7 : Win rkI w6 (.slice A6 (s.R.length + 1) c6) (s.R.length + 1) (sv (s.R ++ [nm])) := by rw [sv_snoc]; exact h6
        clear h6 hb6 hc6 hF2 hT5 hC5 hwin5 hwin3 hC3 hT3 q3 hcr
        refine (tbReady_n _ F2 g _ hT6 (s.R.length + 1) (by simp) (by omega)).mono ?_
        rintro e w11 ⟨v11, rfl, ho11, hc11⟩
        obtain ⟨A11, c11, rfl, _, _, hr11, _⟩ := ho11.open_
        go_wp2_with fail
        refine (sameIDs_same _ A11 _ c11 _ _ _ hr11 (h7.non hc11).rds (h7.small)).mono ?_
        rintro e w12 ⟨rfl, hc12⟩
        have hCe := (hC6.non hc11).non hc12
        have hTe := (hT6.non hc11).non hc12
        have hWe := (h7.non hc11).non hc12
        clear hc11 hc12 ho11 hr11
        go_wp2_with fail
        go_roundw
        case rel => exact ⟨k + 1, _, F2, by omega, by go_num, by simpa using hWe, hv6, hTe, hF6, hadd, hCe⟩
        case measure => simp [intOf]; omega
      · rcases List.eq_nil_or_concat s.R with hR | ⟨R, y, hR⟩
        · have hwin0 := hwin
          rw [hR] at hwin0
          change Win rkI wr _ 0 [] at hwin0
          obtain ⟨Av, cv, rfl, _, _, _⟩ := hwin0.open_
          go_wp2_with fail
          refine (tbNext_no _ F g s hT hR).mono ?_
          rintro e w3 ⟨rfl, rfl⟩
          go_wp2_with fail
          refine (tbReady_n _ F g _ hT (0) (by rw [hR]; rfl) (by omega)).mono ?_
          rintro e w11 ⟨v11, rfl, ho11, hc11⟩
          obtain ⟨A11, c11, rfl, _, _, hr11, _⟩ := ho11.open_
          go_wp2_with fail
          rw [hR] at hr11
          refine (sameIDs_same _ A11 _ c11 _ _ _ hr11 (hwin0.non hc11).rds (hwin0.small)).mono ?_
          rintro e w12 ⟨rfl, hc12⟩
          have hCe := (hC.non hc11).non hc12
          have hTe := (hT.non hc11).non hc12
          have hWe := (hwin0.non hc11).non hc12
          clear hc11 hc12 ho11 hr11
          go_wp2_with fail
          go_roundw
          case rel => exact ⟨k + 1, _, F, by omega, by go_num, by rw [hR]; exact hWe, hvF, hTe, hF, hfine.more, hCe⟩
          case measure => simp [intOf]; omega
        · have hR : s.R = R ++ [y] := by rw [hR]; simp
          have hy := hfine.idn (a := y) (by rw [hR]; simp)
          have hng : s.ng ≤ 1000000000 := by have := hfine.n; omega
          have hfine2 := hfine.next hR
          have hwin0 := hwin
          rw [hR, show (R ++ [y]).length = R.length + 1 by simp] at hwin0
          have hRl : R.length ≤ 200 := by rw [hR] at hsn; simp at hsn; omega
          have HR := Lib.hid hR
          obtain ⟨Av, cv, rfl, hnc, _, hrd⟩ := hwin0.open_
          have hwin1 := hwin0.hi (k := R.length) (by omega)
          simp only [Nat.mul_one, show rkI.size = 1 from rfl] at hwin1
          rw [← sv_take, List.take_left' rfl] at hwin1
          obtain ⟨ad2, y2, rfl, hy2, hcy⟩ := Rds.getS hrd (k := R.length) (by omega)
          rw [List.getElem?_append_right (Nat.le_refl _)] at hy2
          obtain rfl : y = y2 := by simpa using hy2
          have q5 : ∀ w : World, (Instr.slice 26 (.slice (some ad2) (R.length + 1) cv) none (some (.int .i64 (R.length : Int))) none).run Try.prog w = .ok (.slice (some ad2) R.length cv) w :=
            fun w => run_slice_hi Try.underlying26 (by kernel_rfl) rfl (by omega) _ _ w
          clear hR hy2 hrd
          go_wp2_with fail
          refine (tbNext_yes _ F g s R y hT HR.out hy hng).mono ?_
          rintro e w3 ⟨rfl, hT3, hc3⟩
          have hcy3 := hc3.cell hcy (by rw [block_add]; exact (hvF.out _ rfl).2)
          have hwin3 := hwin1.chg hc3 (fun b e => (hvF.out b e).2)
          have hC3 : Chg Non w w3 := hC.trans2 hc3 (fun b e => .inr (hF.out b e))
          have hv3 : Hid (∀ b, (Value.slice (some ad2) R.length cv).ownBlock = some b → w.heap.size ≤ b ∧ ¬ F b) := fun b e => hvF.out b e
          clear hT hc3 hcy hwin hwin0 hwin1 hC hcr
          go_wp2_with fail
          refine (tbReady_n _ F g _ hT3 (R.length) (by simp) (by omega)).mono ?_
          rintro e w11 ⟨v11, rfl, ho11, hc11⟩
          obtain ⟨A11, c11, rfl, _, _, hr11, _⟩ := ho11.open_
          go_wp2_with fail
          refine (sameIDs_same _ A11 _ c11 _ _ _ hr11 (hwin3.non hc11).rds (hwin3.small)).mono ?_
          rintro e w12 ⟨rfl, hc12⟩
          have hCe := (hC3.non hc11).non hc12
          have hTe := (hT3.non hc11).non hc12
          have hWe := (hwin3.non hc11).non hc12
          clear hc11 hc12 ho11 hr11
          go_wp2_with fail
          go_roundw
          case rel => exact ⟨k + 1, _, F, by omega, by go_num, by simpa using hWe, hv3, hTe, hF, hfine2, hCe⟩
          case measure => simp [intOf]; omega
      · cases hR : s.R with
        | nil =>
          have hwin0 := hwin
          rw [hR] at hwin0
          change Win rkI wr _ 0 [] at hwin0
          obtain ⟨Av, cv, rfl, _, _, _⟩ := hwin0.open_
          go_wp2_with fail
          refine (tbSteal_no _ F g s hT hR).mono ?_
          rintro e w3 ⟨rfl, rfl⟩
          go_wp2_with fail
          refine (tbReady_n _ F g _ hT (0) (by rw [hR]; rfl) (by omega)).mono ?_
          rintro e w11 ⟨v11, rfl, ho11, hc11⟩
          obtain ⟨A11, c11, rfl, _, _, hr11, _⟩ := ho11.open_
          go_wp2_with fail
          rw [hR] at hr11
          refine (sameIDs_same _ A11 _ c11 _ _ _ hr11 (hwin0.non hc11).rds (hwin0.small)).mono ?_
          rintro e w12 ⟨rfl, hc12⟩
          have hCe := (hC.non hc11).non hc12
          have hTe := (hT.non hc11).non hc12
          have hWe := (hwin0.non hc11).non hc12
          clear hc11 hc12 ho11 hr11
          go_wp2_with fail
          go_roundw
          case rel => exact ⟨k + 1, _, F, by omega, by go_num, by rw [hR]; exact hWe, hvF, hTe, hF, hfine.more, hCe⟩
          case measure => simp [intOf]; omega
        | cons y R =>
          have hfine2 := hfine.steal hR
          have hwin0 := hwin
          rw [hR] at hwin0
          change Win rkI wr _ (R.length + 1) (sv (y :: R)) at hwin0
          have hRl : R.length ≤ 200 := by rw [hR] at hsn; simp at hsn; omega
          have HR := Lib.hid hR
          obtain ⟨Av, cv, rfl, hnc, _, hrd⟩ := hwin0.open_
          have hwin1 := hwin0.lo (k := 1) (by omega)
          simp only [Nat.mul_one, show rkI.size = 1 from rfl, Nat.add_sub_cancel] at hwin1
          rw [← sv_drop] at hwin1
          obtain ⟨ad2, y2, rfl, hy2, hcy⟩ := Rds.getS hrd (k := 0) (by omega)
          obtain rfl : y = y2 := by simpa using hy2
          have hcy2 : wr.cell? ad2 = some (.string y) := by simpa [Addr.add] using hcy
          have q5 : ∀ w : World, (Instr.slice 26 (.slice (some ad2) (R.length + 1) cv) (some (.int .i64 1)) none none).run Try.prog w = .ok (.slice (cutA (some ad2) cv 1 1) R.length (cv - 1)) w :=
            fun w => run_slice_lo Try.underlying26 1 (by kernel_rfl) (by kernel_rfl) (i := 1) (k := 1) rfl (by omega) _ _ w
          have hv1 : Hid (∀ b, (Value.slice (cutA (some ad2) cv 1 1) R.length (cv - 1)).ownBlock = some b → w.heap.size ≤ b ∧ ¬ F b) := by
            intro b e
            cases hc : cutA (some ad2) cv 1 1 with
            | none => rw [hc] at e; simp [Value.ownBlock] at e
            | some a =>
              obtain ⟨a0, e0, e1⟩ := cutA_block hc
              cases e0
              rw [hc] at e
              refine hvF.out b ?_
              rw [← e]
              simp [Value.ownBlock, e1]
          generalize cutA (some ad2) cv 1 1 = B at hwin1 q5 hv1
          clear hR hy2 hrd hcy
          go_wp2_with fail
          refine (tbSteal_yes _ F g s R y hT HR.out).mono ?_
          rintro e w3 ⟨rfl, hT3, hc3⟩
          have hcy3 := hc3.cell hcy2 (hvF.out _ rfl).2
          have hwin3 := hwin1.chg hc3 (fun b e => (hv1.out b e).2)
          have hC3 : Chg Non w w3 := hC.trans2 hc3 (fun b e => .inr (hF.out b e))
          clear hT hc3 hcy2 hwin hwin0 hwin1 hC hcr
          go_wp2_with fail
          refine (tbReady_n _ F g _ hT3 (R.length) (by simp) (by omega)).mono ?_
          rintro e w11 ⟨v11, rfl, ho11, hc11⟩
          obtain ⟨A11, c11, rfl, _, _, hr11, _⟩ := ho11.open_
          go_wp2_with fail
          refine (sameIDs_same _ A11 _ c11 _ _ _ hr11 (hwin3.non hc11).rds (hwin3.small)).mono ?_
          rintro e w12 ⟨rfl, hc12⟩
          have hCe := (hC3.non hc11).non hc12
          have hTe := (hT3.non hc11).non hc12
          have hWe := (hwin3.non hc11).non hc12
          clear hc11 hc12 ho11 hr11
          go_wp2_with fail
          go_roundw
          case rel => exact ⟨k + 1, _, F, by omega, by go_num, by simpa using hWe, hv1, hTe, hF, hfine2, hCe⟩
          case measure => simp [intOf]; omega
    · go_wp2_with fail
      go_ret
      exact ⟨rfl, hC⟩

theorem tableEnds_walk (w : World) (A : Option Addr) (n c : Nat) (e0 : Rd Try.prog w 22 (Value.slice A n c).cells.toList) :
    Calls Try.prog 3 #[.slice A n c] w fun e w2 => e = .returned (.bool true) ∧ Chg Non w w2 := by
  obtain ⟨A', n', c', l, h1, h2, h3, h4, h5⟩ := e0.ints Try.underlying22 (by kernel_rfl) Try.underlying3
  simp only [Value.cells, List.cons.injEq, and_true, Value.slice.injEq] at h1
  obtain ⟨rfl, rfl, rfl⟩ := h1
  by_cases hn : n ≤ 200
  · exact tableEnds_core w A n c l h4 h5 hn
  · clear h4 h5 e0
    have h : 200 < n := by omega
    unfold maxLen at h3
    clear hn
    go_enter Try.func3, Try.ntmps3
    go_wp2_with fail
    refine (tb_alive _).mono ?_
    rintro e w1 ⟨rfl, hc1⟩
    go_wp2_with fail
    go_ret
    exact ⟨rfl, hc1⟩
end Go.Proofs.Ytfglikgifkpfpaa
