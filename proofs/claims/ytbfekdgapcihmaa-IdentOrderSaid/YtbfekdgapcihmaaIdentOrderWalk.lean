/-
  gleanerlaw7.IdentOrder: the walk.
-/
import Derived.Test.YtbfekdgapcihmaaIdentDownWalk
import Derived.Test.YtbfekdgapcihmaaRefIdent
import Derived.Test.YtbfekdgapcihmaaIdentSort
namespace Go.Proofs.Ytbfekdgapcihmaa
open Go.RowKit
set_option linter.unusedVariables false
set_option linter.unusedSimpArgs false

theorem digit_lt_n : ∀ m n : Nat, m < 16 → n < 16 → (digit (UInt8.ofNat m) < digit (UInt8.ofNat n) ↔ m < n) ∧ (digit (UInt8.ofNat m) = digit (UInt8.ofNat n) ↔ m = n) := by
  have h : ∀ m : Fin 16, ∀ n : Fin 16, (digit (UInt8.ofNat m.1) < digit (UInt8.ofNat n.1) ↔ m.1 < n.1) ∧ (digit (UInt8.ofNat m.1) = digit (UInt8.ofNat n.1) ↔ m.1 = n.1) := by decide +kernel
  exact fun m n hm hn => h ⟨m, hm⟩ ⟨n, hn⟩
theorem digit_lt {x y : UInt8} (hx : x.toNat < 16) (hy : y.toNat < 16) : (digit x < digit y ↔ x < y) ∧ (digit x = digit y ↔ x = y) := by
  have h := digit_lt_n x.toNat y.toNat hx hy
  rw [UInt8.ofNat_toNat, UInt8.ofNat_toNat] at h
  exact ⟨h.1.trans UInt8.lt_iff_toNat_lt.symm, h.2.trans UInt8.toNat_inj⟩
theorem digits_lt : ∀ l m : List UInt8, l.all okD = true → m.all okD = true → (l.map digit < m.map digit ↔ l < m)
  | [], [], _, _ => by simp
  | [], y :: m, _, _ => by simp
  | x :: l, [], _, _ => by simp
  | x :: l, y :: m, h1, h2 => by
    simp only [List.all_cons, Bool.and_eq_true] at h1 h2
    have hx : x.toNat < 16 := by simpa [okD] using h1.1
    have hy : y.toNat < 16 := by simpa [okD] using h2.1
    rw [List.map_cons, List.map_cons, List.cons_lt_cons_iff, List.cons_lt_cons_iff, (digit_lt hx hy).1, (digit_lt hx hy).2, digits_lt l m h1.2 h2.2]
theorem txt_bl {a : ByteArray} (h : vid a = true) : bl (txt a) = 114 :: (bl a).map digit := by
  unfold txt
  rw [if_pos h]
theorem vid_all {a : ByteArray} (h : vid a = true) : (bl a).all okD = true := by
  unfold vid at h
  rw [Bool.and_eq_true] at h
  exact h.2
theorem txt_lt {a b : ByteArray} (ha : vid a = true) (hb : vid b = true) : ltS (txt a) (txt b) ↔ ltS a b := by
  unfold ltS
  rw [txt_bl ha, txt_bl hb, List.cons_lt_cons_iff]
  have := digits_lt _ _ (vid_all ha) (vid_all hb)
  constructor
  · rintro (h | ⟨_, h⟩)
    · exact (UInt8.lt_irrefl _ h).elim
    · exact this.1 h
  · exact fun h => .inr ⟨rfl, this.2 h⟩
theorem less_ltS (a b : ByteArray) : Op.bytesLess a.toList b.toList = decide (ltS a b) := by
  rw [Go.Proofs.bytesLess_eq, ByteArray.toList_eq, ByteArray.toList_eq]
  rfl
theorem lcpn_take : ∀ l m : List UInt8, l.take (lcpn l m) = m.take (lcpn l m)
  | [], m => by rw [lcpn_nil_left]; simp
  | x :: l, [] => by rw [lcpn_nil_right]; simp
  | x :: l, y :: m => by
    unfold lcpn
    split
    · rename_i h
      subst h
      rw [List.take_succ_cons, List.take_succ_cons, lcpn_take l m]
    · simp
theorem lcpn_comm : ∀ l m : List UInt8, lcpn l m = lcpn m l
  | [], m => by rw [lcpn_nil_left, lcpn_nil_right]
  | x :: l, [] => by rw [lcpn_nil_left, lcpn_nil_right]
  | x :: l, y :: m => by
    unfold lcpn
    by_cases h : x = y
    · rw [if_pos h, if_pos h.symm, lcpn_comm l m]
    · rw [if_neg h, if_neg (fun e => h e.symm)]
theorem bl_ext (a : ByteArray) (k : Nat) : bl (a.extract 0 k) = (bl a).take k := by
  unfold bl
  rw [ByteArray.data_extract]
  simp
theorem common_two (a b : ByteArray) : ∃ c, common [a, b] = c ∧ c.size ≤ a.size ∧ c.size ≤ b.size ∧ a.extract 0 c.size = c ∧ b.extract 0 c.size = c := by
  have h1 : common [a, b] = a.extract 0 (lcpn (bl a) (bl b)) := by
    show (a.extract 0 (lcpn (bl a) (bl a))).extract 0 (lcpn (bl (a.extract 0 (lcpn (bl a) (bl a)))) (bl b)) = _
    have : a.extract 0 (lcpn (bl a) (bl a)) = a := by rw [lcpn_self, show (bl a).length = a.size from size_list a, ext_all]
    rw [this]
  have hq1 : lcpn (bl a) (bl b) ≤ a.size := by rw [← size_list a]; exact lcpn_le _ _
  have hq2 : lcpn (bl a) (bl b) ≤ b.size := by rw [lcpn_comm, ← size_list b]; exact lcpn_le _ _
  have hs : (a.extract 0 (lcpn (bl a) (bl b))).size = lcpn (bl a) (bl b) := by rw [ByteArray.size_extract]; omega
  refine ⟨_, h1, by rw [hs]; exact hq1, by rw [hs]; exact hq2, by rw [hs], ?_⟩
  rw [hs]
  apply bl_inj
  rw [bl_ext, bl_ext, lcpn_take]
theorem kid_three (a : ByteArray) : ∃ k ok, kid a 3 = (k, ok) ∧ (ok = false ∨ (ok = true ∧ Op.bytesLess a.toList k.toList = true)) := by
  unfold kid
  split
  · refine ⟨_, _, rfl, .inr ⟨rfl, ?_⟩⟩
    rw [less_ltS, decide_eq_true_eq]
    show bl a < bl (a ++ ⟨#[3]⟩)
    rw [show bl (a ++ (⟨#[3]⟩ : ByteArray)) = bl a ++ [3] from snoc_list a 3]
    generalize bl a = l
    induction l with
    | nil => simp
    | cons x l ih => rw [List.cons_append, List.cons_lt_cons_iff]; exact .inr ⟨rfl, ih⟩
  · exact ⟨_, _, rfl, .inl rfl⟩

set_option maxRecDepth 100000 in
set_option maxHeartbeats 4000000 in
theorem identOrder_apart (w : World) (a b x y : ByteArray) (B : Bool) (ha : vid a = true) (hb : vid b = true) (h1 : Op.bytesLess (txt a).toList (txt b).toList = B) (h2 : Op.bytesLess a.toList b.toList = B)
    (h3 : ((txt a).toList == (txt b).toList) = false) (h4 : (a.toList == b.toList) = false) (hr : risenS [b, a] = [x, y]) (h5 : Op.bytesLess x.toList y.toList = true) :
    Calls Try.prog 6 #[.string a, .string b] w fun e w2 => e = .returned (.bool true) ∧ Chg Non w w2 := by
  have ha12 := vid_small ha
  have hb12 := vid_small hb
  have Ha := Lib.hid ha
  have Hb := Lib.hid hb
  have H1 := Lib.hid h1
  have H2 := Lib.hid h2
  have H3 := Lib.hid h3
  have H4 := Lib.hid h4
  have H5 := Lib.hid h5
  obtain ⟨kk, ok, hk, hkf⟩ := kid_three a
  have Hk := Lib.hid hk
  obtain ⟨c, hc, hca, hcb, hea, heb⟩ := common_two a b
  have Hc := Lib.hid hc
  clear ha hb h1 h2 h3 h4 h5 hk hc
  go_enter Try.func6, Try.ntmps6
  go_wp2_with fail
  refine (ident_alive _).mono ?_
  rintro e w1 ⟨rfl, hc1⟩
  go_wp2_with fail
  refine (refValid_any a _ (by omega)).mono ?_
  rintro e w2 ⟨rfl, rfl⟩
  rw [Ha.out]
  go_wp2_with fail
  refine (refValid_any b _ (by omega)).mono ?_
  rintro e w2 ⟨rfl, rfl⟩
  rw [Hb.out]
  go_wp2_with fail
  refine (text_any a _).mono ?_
  rintro e w3 ⟨rfl, hc3⟩
  have hC3 := hc1.non hc3
  clear hc1 hc3
  go_wp2_with fail
  refine (text_any b _).mono ?_
  rintro e w4 ⟨rfl, hc4⟩
  have hC4 := hC3.non hc4
  clear hC3 hc4
  obtain ⟨t1, ht1⟩ : ∃ t1, txt a = t1 := ⟨_, rfl⟩
  obtain ⟨t2, ht2⟩ : ∃ t2, txt b = t2 := ⟨_, rfl⟩
  rw [ht1, ht2] at H1 H3
  rw [ht1, ht2]
  clear ht1 ht2
  have hr1 : Rds (w4.alloc (.cells #[.string b, .string a] 25)) 1 (some ⟨w4.heap.size, 0, none⟩) 2 (sv [b, a]) := Rds.block (Blk.new w4 25 #[.string b, .string a]) (n := 2) rfl
  go_wp2_with fail
  refine (identSort_any _ _ 2 2 [b, a] hr1 (by omega)).mono ?_
  rintro e w5 ⟨v, m, rfl, hm, hO, hc5⟩
  have hC5 := (hC4.alloc (.cells #[.string b, .string a] 25)).non hc5
  rw [hr] at hO hm
  replace hm : m = 2 := hm
  subst hm
  clear hr1 hC4 hc5 hr
  obtain ⟨g, cap, rfl⟩ : ∃ g cap, v = .slice (some ⟨g, 0, none⟩) 2 cap := by
    rcases hO.2 with ⟨_, h⟩ | ⟨g, cap, cur, rfl, _⟩
    · cases h
    · exact ⟨g, cap, rfl⟩
  have k1 := H1.out
  have k2 := H2.out
  have k3 := H3.out
  have k4 := H4.out
  go_wp2_with fail
  refine (kid_any a 3 _ (by unfold i64; omega)).mono ?_
  rintro e w6 ⟨rfl, hc6⟩
  rw [Hk.out]
  have hC6 := hC5.non hc6
  have hO6 := hO.non hc6
  clear k1 k2 k3 hO hC5 hc6
  simp only
  have hr2 : Rds (w6.alloc (.cells #[.string a, .string b] 25)) 1 (some ⟨w6.heap.size, 0, none⟩) 2 ([a, b].map Value.string) := Rds.block (Blk.new w6 25 #[.string a, .string b]) (n := 2) rfl
  go_wp2_with fail
  refine (common_any _ 2 2 [a, b] _ hr2 (by omega) (fun s hs => by rcases List.mem_cons.1 hs with rfl | hs; omega; rw [List.mem_singleton.1 hs]; omega)).mono ?_
  rintro e w7 ⟨rfl, hc7⟩
  rw [Hc.out]
  have hC7 := (hC6.alloc (.cells #[.string a, .string b] 25)).non hc7
  have hO7 := (hO6.alloc (.cells #[.string a, .string b] 25)).non hc7
  have c0 : w7.cell? ⟨g, 0, none⟩ = some (.string x) := World.ownsRow.cellAt hO7 0 (by decide)
  have c1 : w7.cell? ⟨g, 1, none⟩ = some (.string y) := World.ownsRow.cellAt hO7 1 (by decide)
  have k5 := H5.out
  clear hr2 hC6 hc7 hO6 hO7
  have d1 : decide (c.size ≤ a.size) = true := decide_eq_true hca
  have d2 : decide ((c.size : Int) ≤ (a.size : Int)) = true := decide_eq_true (by omega)
  rcases hkf with rfl | ⟨rfl, hkf⟩
  all_goals
    go_upto_region 15 with (fail)
    go_quiet (fail)
    go_wp2_with fail
    go_ret
    exact ⟨rfl, hC7.drewN _⟩

set_option maxRecDepth 100000 in
set_option maxHeartbeats 4000000 in
theorem identOrder_same (w : World) (a : ByteArray) (ha : vid a = true) : Calls Try.prog 6 #[.string a, .string a] w fun e w2 => e = .returned (.bool true) ∧ Chg Non w w2 := by
  have ha12 := vid_small ha
  have Ha := Lib.hid ha
  have hr : risenS [a, a] = [a] := by
    unfold risenS
    simp [riseS, ltS_irrefl]
  clear ha
  go_enter Try.func6, Try.ntmps6
  go_wp2_with fail
  refine (ident_alive _).mono ?_
  rintro e w1 ⟨rfl, hc1⟩
  go_wp2_with fail
  refine (refValid_any a _ (by omega)).mono ?_
  rintro e w2 ⟨rfl, rfl⟩
  rw [Ha.out]
  go_wp2_with fail
  refine (refValid_any a _ (by omega)).mono ?_
  rintro e w2 ⟨rfl, rfl⟩
  rw [Ha.out]
  go_wp2_with fail
  refine (text_any a _).mono ?_
  rintro e w3 ⟨rfl, hc3⟩
  have hC3 := hc1.non hc3
  clear hc1 hc3
  go_wp2_with fail
  refine (text_any a _).mono ?_
  rintro e w4 ⟨rfl, hc4⟩
  have hC4 := hC3.non hc4
  clear hC3 hc4
  obtain ⟨t1, ht1⟩ : ∃ t1, txt a = t1 := ⟨_, rfl⟩
  rw [ht1]
  clear ht1
  have hr1 : Rds (w4.alloc (.cells #[.string a, .string a] 25)) 1 (some ⟨w4.heap.size, 0, none⟩) 2 (sv [a, a]) := Rds.block (Blk.new w4 25 #[.string a, .string a]) (n := 2) rfl
  go_wp2_with fail
  refine (identSort_any _ _ 2 2 [a, a] hr1 (by omega)).mono ?_
  rintro e w5 ⟨v, m, rfl, hm, hO, hc5⟩
  have hC5 := (hC4.alloc (.cells #[.string a, .string a] 25)).non hc5
  rw [hr] at hO hm
  replace hm : m = 1 := hm
  subst hm
  obtain ⟨A, cap, rfl, _⟩ := hO.open_
  clear hr1 hC4 hc5 hr hO
  have k1 : Op.bytesLess t1.toList t1.toList = false := by rw [less_ltS]; exact decide_eq_false (ltS_irrefl _)
  have k2 : Op.bytesLess a.toList a.toList = false := by rw [less_ltS]; exact decide_eq_false (ltS_irrefl _)
  go_wp2_with fail
  go_ret
  exact ⟨rfl, hC5⟩
theorem refValidW_any (s : ByteArray) (w : World) (hs : s.size ≤ 9223372036854775807) :
    Calls Try.prog 16 #[.string s] w fun e w2 => e = .returned (.bool (vid s)) ∧ w = w2 := by
  go_enter Try.func16, Try.ntmps16
  go_wp2_with fail
  go_loop [3] (fun i => ∃ k : Nat, k ≤ s.size ∧ k ≤ 13 ∧ i = .int .i64 k ∧ Hid ((s.data.toList.take k).all okD = true)) (fun i => s.size - (intOf i).toNat)
  case atStart => exact ⟨0, Nat.zero_le _, by omega, rfl, rfl⟩
  case round =>
    obtain ⟨k, hk, hk13, rfl, hall⟩ := hrel
    by_cases hlt : k < s.size
    · by_cases h13 : k ≤ 12
      · have hst := take_step s hlt
        have hmem := List.mem_of_getElem? (get_list s hlt)
        by_cases hb : s[k].toNat < 16
        · have hall2 : Hid ((s.data.toList.take (k + 1)).all okD = true) := by
            show _ = _
            rw [hst, List.all_append, hall.out]
            simp [okD, hb]
          clear hst hmem hall
          go_wp2_with fail
          go_round
          case rel => exact ⟨k + 1, by omega, by omega, by go_num, hall2⟩
          case measure => simp [intOf]; omega
        · have hno : vid s = false := by
            unfold vid
            rw [Bool.and_eq_false_iff]
            right
            rw [List.all_eq_false]
            exact ⟨s[k], hmem, by simp [okD]; omega⟩
          have Hno := Lib.hid hno
          clear hst hmem hall hno
          go_wp2_with fail
          go_ret
          exact ⟨by rw [Hno.out]; rfl, rfl⟩
      · have hno : vid s = false := by
          unfold vid
          rw [Bool.and_eq_false_iff]
          left
          simp; omega
        have Hno := Lib.hid hno
        have d1 : decide ((s.size : Int) ≤ 12) = false := by simp; omega
        clear hall hno
        go_wp2_with fail
        go_ret
        exact ⟨by rw [Hno.out]; first | rfl | (rw [← d1]; rfl), rfl⟩
    · have hks : k = s.size := by omega
      have hyes : vid s = decide (s.size ≤ 12) := by
        unfold vid
        have := hall.out
        rw [hks, take_whole] at this
        rw [this, Bool.and_true]
      have Hyes := Lib.hid hyes
      clear hyes hall
      go_wp2_with fail
      go_ret
      refine ⟨?_, rfl⟩
      rw [Hyes.out]
      show Ending.returned (.bool (decide ((s.size : Int) ≤ 12))) = _
      congr 2
      rw [decide_eq_decide]
      omega

theorem identOrder_walk (w : World) (a : ByteArray) (h1 : a.size ≤ maxLen) (b : ByteArray) (h2 : b.size ≤ maxLen) :
    Calls Try.prog 6 #[.string a, .string b] w fun e w2 => e = .returned (.bool true) ∧ Chg Non w w2 := by
  unfold maxLen at h1 h2
  have hcase : (vid a = true ∧ vid b = true) ∨ (vid a = false) ∨ (vid a = true ∧ vid b = false) := by
    cases vid a <;> cases vid b <;> simp
  rcases hcase with ⟨ha, hb⟩ | ha | ⟨ha, hb⟩
  · have hinj : txt a = txt b → a = b := fun e => by
      rcases ltS_tri a b with h | h | h
      · exact (ltS_irrefl (txt b) (e ▸ (txt_lt ha hb).2 h)).elim
      · exact h
      · exact (ltS_irrefl (txt b) (e ▸ (txt_lt hb ha).2 h)).elim
    rcases ltS_tri a b with h | rfl | h
    · refine identOrder_apart w a b a b true ha hb ?_ ?_ ?_ ?_ ?_ ?_
      · rw [less_ltS]; exact decide_eq_true ((txt_lt ha hb).2 h)
      · rw [less_ltS]; exact decide_eq_true h
      · exact str_ne fun e => ltS_ne h (hinj e)
      · exact str_ne (ltS_ne h)
      · unfold risenS
        simp [riseS, ltS_asym h, (ltS_ne h).symm]
      · rw [less_ltS]; exact decide_eq_true h
    · exact identOrder_same w a ha
    · refine identOrder_apart w a b b a false ha hb ?_ ?_ ?_ ?_ ?_ ?_
      · rw [less_ltS]; exact decide_eq_false (ltS_asym ((txt_lt hb ha).2 h))
      · rw [less_ltS]; exact decide_eq_false (ltS_asym h)
      · exact str_ne fun e => ltS_ne h (hinj e).symm
      · exact str_ne (ltS_ne h).symm
      · unfold risenS
        simp [riseS, h]
      · rw [less_ltS]; exact decide_eq_true h
  all_goals
    have Ha := Lib.hid ha
    clear ha
    go_enter Try.func6, Try.ntmps6
    go_wp2_with fail
    refine (ident_alive _).mono ?_
    rintro e w1 ⟨rfl, hc1⟩
    go_wp2_with fail
    refine (refValidW_any a _ (by omega)).mono ?_
    rintro e w2 ⟨rfl, rfl⟩
    rw [Ha.out]
    go_wp2_with fail
    refine (refValidW_any b _ (by omega)).mono ?_
    rintro e w2 ⟨rfl, rfl⟩
    try rw [hb]
    go_wp2_with fail
    go_ret
    exact ⟨rfl, hc1⟩
end Go.Proofs.Ytbfekdgapcihmaa
