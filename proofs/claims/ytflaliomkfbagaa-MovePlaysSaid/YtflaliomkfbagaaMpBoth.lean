/-
  Both givers and both takers, side by side; what lies where between two calls.
-/
import Derived.Test.YtflaliomkfbagaaMpRefI
import Derived.Test.YtflaliomkfbagaaMpRefT
import Derived.Test.YtflaliomkfbagaaMpRefU
import Derived.Test.YtflaliomkfbagaaMpTk
import Derived.Test.YtflaliomkfbagaaMpNo
import Derived.Test.YtflaliomkfbagaaMvAlive
import Derived.Test.YtflaliomkfbagaaMpSmall
import Derived.Test.YtflaliomkfbagaaNotePack
import Derived.Test.YtflaliomkfbagaaNmPlain
namespace Go.Proofs.Ytflaliomkfbagaa
section
open Go.ChangeShapes Go.WideShapes Go.ChangeAt Go.RowKit Go.Deep
set_option linter.unusedVariables false
set_option linter.unusedSimpArgs false

theorem newTaker2_any (w : World) (node room : Int) : Calls Try.prog 11 #[.int .i64 node, .int .i64 room] w fun e w2 => ∃ g sm tm F, e = .returned (.pointer (some ⟨g, 0, none⟩)) ∧ Tk w2 F g sm tm 0 0 ⟨node, max 0 room, fun _ => false, fun _ => none⟩ ∧ (∀ b, F b → w.heap.size ≤ b) ∧ Chg Non w w2 := by
  by_cases hr : 0 ≤ room
  · rw [show max 0 room = room by omega]
    exact newTaker_any w node room hr
  · have hmm := @run_makeMap Try.prog
    have hC : ∀ r, Chg Non w (((w.alloc (.map #[] 0)).alloc (.map #[] 0)).alloc (.cells #[.map (some w.heap.size), .int .i64 node, .int .i64 r, .map (some (w.heap.size + 1))] 51)) := fun r => (((Chg.refl Non w).alloc (.map #[] 0)).alloc (.map #[] 0)).alloc _
    have key : ∃ g sm tm F, Ending.returned (.pointer (some ⟨w.heap.size + 2, 0, none⟩)) = .returned (.pointer (some ⟨g, 0, none⟩)) ∧ Tk (((w.alloc (.map #[] 0)).alloc (.map #[] 0)).alloc (.cells #[.map (some w.heap.size), .int .i64 node, .int .i64 0, .map (some (w.heap.size + 1))] 51)) F g sm tm 0 0 ⟨node, 0, fun _ => false, fun _ => none⟩ ∧ (∀ b, F b → w.heap.size ≤ b) ∧ Chg Non w (((w.alloc (.map #[] 0)).alloc (.map #[] 0)).alloc (.cells #[.map (some w.heap.size), .int .i64 node, .int .i64 0, .map (some (w.heap.size + 1))] 51)) := by
      have hm1 := Mp.made nmKey w
      have hm2 := Mp.made k3Key (w.alloc (.map #[] 0))
      rw [World.size_alloc] at hm2
      refine ⟨w.heap.size + 2, w.heap.size, w.heap.size + 1, fun b => b = w.heap.size ∨ b = w.heap.size + 1 ∨ b = w.heap.size + 2, rfl, ⟨?_, ((hm1.alloc _).alloc _).congr (fun a => rfl), (hm2.alloc _).congr (fun a => rfl), by omega, .inr (.inr rfl), .inl rfl, .inr (.inl rfl), fun b hb => ?_⟩, fun b hb => by omega, hC 0⟩
      · have := Blk.new ((w.alloc (.map #[] 0)).alloc (.map #[] 0)) 51 #[.map (some w.heap.size), .int .i64 node, .int .i64 0, .map (some (w.heap.size + 1))]
        simpa using this
      · simp
        omega
    have hmx : max 0 room = 0 := by omega
    rw [hmx]
    have Key := Lib.hid key
    have hneg : room < 0 := by omega
    clear key hC hr
    go_enter Try.func11, Try.ntmps11
    go_wp2_with fail
    go_ret
    exact Key.out
theorem refTk_offer (w : World) (F : Nat → Prop) (g : Nat) (r : RkS) (h : Rk w F g r) (n : Nt) (A : Option Addr) (k c : Nat) (B : Option Addr) (m d : Nat) (hN : NtAt w n A k c B m d) (hmay : n.clear.may = true) (hkind : n.kind = 4) (hl : r.O.length ≤ 1000000) (hH : r.H.length ≤ 1000000) :
    Calls Try.prog 31 #[.pointer (some ⟨g, 0, none⟩), .agg (NtC n A k c B m d)] w (RtInPost w F g r n) := by
  cases hk : kindA r.O n.id n.epoch n.life == 0 with
  | false => exact refTk_told w F g r h n A k c B m d hN hmay hkind hl hH hk
  | true =>
    have hk0 : kindA r.O n.id n.epoch n.life = 0 := by simpa using hk
    by_cases hroom : (r.H.length : Int) < r.room
    · cases hh : hasL r.H n.id with
      | true => exact refTk_had w F g r h n A k c B m d hN hmay hkind hl hH hk0 ⟨hroom, hh⟩
      | false => exact refTk_take w F g r h n A k c B m d hN hmay hkind hl hH hk0 ⟨hroom, hh⟩
    · exact refTk_full w F g r h n A k c B m d hN hmay hkind hl hH hk0 (by omega)

theorem tkIn_offer (w : World) (F : Nat → Prop) (g sm tm ns nt : Nat) (s : TkS) (h : Tk w F g sm tm ns nt s) (n : Nt) (A : Option Addr) (k c : Nat) (B : Option Addr) (m d : Nat) (hN : NtAt w n A k c B m d) (hk : k ≤ 1099511627776) (hm : m ≤ 1099511627776) (hmay : n.clear.may = true) (hkind : n.kind = 4) (hns : ns ≤ 1000000) (hnt : nt ≤ 1000000) :
    Calls Try.prog 17 #[.pointer (some ⟨g, 0, none⟩), .agg (NtC n A k c B m d)] w (TkInPost w F g sm tm ns nt s n hN.ok) := by
  cases ht : s.told (keyN n hN.ok) with
  | some v0 => exact tkIn_told w F g sm tm ns nt s h n A k c B m d hN hk hm hmay hkind v0 ht hns hnt
  | none =>
    by_cases h2 : (ns : Int) < s.room
    · cases h3 : s.has n.id with
      | false => exact tkIn_take2 w F g sm tm ns nt s h n A k c B m d hN hk hm hmay hkind ht h2 h3 hns hnt
      | true => exact tkIn_had w F g sm tm ns nt s h n A k c B m d hN hk hm hmay hkind ht h2 h3 hns hnt
    · exact tkIn_full w F g sm tm ns nt s h n A k c B m d hN hk hm hmay hkind ht h2 hns hnt
theorem same_nil (w : World) (a : Nt) :
    Calls Try.prog 27 #[.agg (NtC a none 0 0 none 0 0), .agg (NtC a none 0 0 none 0 0)] w fun e w2 => e = .returned (.bool true) ∧ Chg Non w w2 := by
  obtain ⟨a0, a1, a2, a3, a4, a5, l1, a7, a8, a9, L1⟩ := a
  refine (same_rows w a0 a1 a2 a3 a4 a5 a7 a8 a9 none 0 0 none 0 0 none 0 0 none 0 [] [] [] [] Rds.nil_ Rds.nil_ Rds.nil_ Rds.nil_ (by omega) (by omega)).mono ?_
  rintro e w2 ⟨rfl, hC⟩
  exact ⟨rfl, hC⟩
theorem in_post {w w2 : World} {F : Nat → Prop} {g sm om ns no : Nat} {s : GvS} {n : Nt} {e : Ending} (h : GvInPost w F g sm om ns no s n e w2) : e = .returned (.bool (inOk s n)) ∧ ∃ ns2 no2, ns2 ≤ ns + 1 ∧ no2 ≤ no ∧ Gv w2 F g sm om ns2 no2 (if inOk s n then inS s n else s) ∧ Chg F w w2 := h

/-- Where the four lie. -/
structure Ad where
  g : Nat
  sm : Nat
  om : Nat
  t : Nat
  st : Nat
  tm : Nat
  rg : Nat
  rk : Nat
/-- What the four hold, and their blocks. -/
structure Sx where
  FG : Nat → Prop
  FT : Nat → Prop
  FR : Nat → Prop
  FS : Nat → Prop
  ns : Nat
  no : Nat
  mt : Nat
  nt : Nat
  sg : GvS
  ts : TkS
  r : RgS
  s : RkS
abbrev Sx.setG (x : Sx) (ns no : Nat) (sg : GvS) : Sx := { x with ns := ns, no := no, sg := sg }
abbrev Sx.setT (x : Sx) (mt nt : Nat) (ts : TkS) : Sx := { x with mt := mt, nt := nt, ts := ts }
abbrev Sx.setR (x : Sx) (F : Nat → Prop) (r : RgS) : Sx := { x with FR := F, r := r }
abbrev Sx.setS (x : Sx) (F : Nat → Prop) (s : RkS) : Sx := { x with FS := F, s := s }
def Sx.all (x : Sx) (b : Nat) : Prop := x.FG b ∨ x.FT b ∨ x.FR b ∨ x.FS b
structure MBs (wo : World) (a : Ad) (x : Sx) (w : World) : Prop where
  gv : Gv w x.FG a.g a.sm a.om x.ns x.no x.sg
  tk : Tk w x.FT a.t a.st a.tm x.mt x.nt x.ts
  rg : Rg w x.FR a.rg x.r
  rk : Rk w x.FS a.rk x.s
  ap : ∀ b, (x.FG b → ¬ x.FT b) ∧ (x.FG b → ¬ x.FR b) ∧ (x.FG b → ¬ x.FS b) ∧ (x.FT b → ¬ x.FR b) ∧ (x.FT b → ¬ x.FS b) ∧ (x.FR b → ¬ x.FS b)
  lo : ∀ b, x.all b → wo.heap.size ≤ b
  chg : Chg Non wo w
section
variable {wo w w2 : World} {a : Ad} {x : Sx}
theorem MBs.lt (h : MBs wo a x w) : ∀ b, x.all b → b < w.heap.size := fun b hb => by
  rcases hb with hb | hb | hb | hb
  · exact h.gv.lt b hb
  · exact h.tk.lt b hb
  · exact h.rg.lt b hb
  · exact h.rk.lt b hb
theorem MBs.put {S : Nat → Prop} (h : MBs wo a x w) (hc : Chg S w w2) (h1 : ∀ b, x.all b → ¬ S b) (h2 : ∀ b, S b → wo.heap.size ≤ b) : MBs wo a x w2 :=
  ⟨h.gv.chg hc fun b hb => h1 b (.inl hb), h.tk.chg hc fun b hb => h1 b (.inr (.inl hb)), h.rg.chg hc fun b hb => h1 b (.inr (.inr (.inl hb))), h.rk.chg hc fun b hb => h1 b (.inr (.inr (.inr hb))), h.ap, h.lo, h.chg.trans2 hc fun b e => .inr (h2 b e)⟩
theorem MBs.non (h : MBs wo a x w) (hc : Chg Non w w2) : MBs wo a x w2 := h.put hc (fun _ _ => id) fun _ e => e.elim
theorem MBs.setG {ns no : Nat} {sg : GvS} (h : MBs wo a x w) (h1 : Gv w2 x.FG a.g a.sm a.om ns no sg) (hc : Chg x.FG w w2) : MBs wo a (x.setG ns no sg) w2 :=
  ⟨h1, h.tk.chg hc fun b hb e => (h.ap b).1 e hb, h.rg.chg hc fun b hb e => (h.ap b).2.1 e hb, h.rk.chg hc fun b hb e => (h.ap b).2.2.1 e hb, h.ap, h.lo, h.chg.trans2 hc fun b e => .inr (h.lo b (.inl e))⟩
theorem MBs.setT {mt nt : Nat} {ts : TkS} (h : MBs wo a x w) (h1 : Tk w2 x.FT a.t a.st a.tm mt nt ts) (hc : Chg x.FT w w2) : MBs wo a (x.setT mt nt ts) w2 :=
  ⟨h.gv.chg hc fun b hb e => (h.ap b).1 hb e, h1, h.rg.chg hc fun b hb e => (h.ap b).2.2.2.1 e hb, h.rk.chg hc fun b hb e => (h.ap b).2.2.2.2.1 e hb, h.ap, h.lo, h.chg.trans2 hc fun b e => .inr (h.lo b (.inr (.inl e)))⟩
theorem MBs.setR {F : Nat → Prop} {r : RgS} (h : MBs wo a x w) (h1 : Rg w2 F a.rg r) (hF : ∀ b, F b → x.FR b ∨ w.heap.size ≤ b) (hc : Chg x.FR w w2) : MBs wo a (x.setR F r) w2 := by
  have hn : ∀ b, x.all b → ¬ w.heap.size ≤ b := fun b hb => by have := h.lt b hb; omega
  refine ⟨h.gv.chg hc fun b hb e => (h.ap b).2.1 hb e, h.tk.chg hc fun b hb e => (h.ap b).2.2.2.1 hb e, h1, h.rk.chg hc fun b hb e => (h.ap b).2.2.2.2.2 e hb, fun b => ?_, fun b hb => ?_, h.chg.trans2 hc fun b e => .inr (h.lo b (.inr (.inr (.inl e))))⟩
  · have h9 := h.ap b
    refine ⟨h9.1, fun e hf => ?_, h9.2.2.1, fun e hf => ?_, h9.2.2.2.2.1, fun hf e => ?_⟩
    · exact (hF b hf).elim (h9.2.1 e) (hn b (.inl e))
    · exact (hF b hf).elim (h9.2.2.2.1 e) (hn b (.inr (.inl e)))
    · exact (hF b hf).elim (fun g => h9.2.2.2.2.2 g e) (hn b (.inr (.inr (.inr e))))
  · rcases hb with hb | hb | hb | hb
    · exact h.lo b (.inl hb)
    · exact h.lo b (.inr (.inl hb))
    · exact (hF b hb).elim (fun e => h.lo b (.inr (.inr (.inl e)))) (fun e => Nat.le_trans h.chg.size e)
    · exact h.lo b (.inr (.inr (.inr hb)))
theorem MBs.setS {F : Nat → Prop} {s : RkS} (h : MBs wo a x w) (h1 : Rk w2 F a.rk s) (hF : ∀ b, F b → x.FS b ∨ w.heap.size ≤ b) (hc : Chg x.FS w w2) : MBs wo a (x.setS F s) w2 := by
  have hn : ∀ b, x.all b → ¬ w.heap.size ≤ b := fun b hb => by have := h.lt b hb; omega
  refine ⟨h.gv.chg hc fun b hb e => (h.ap b).2.2.1 hb e, h.tk.chg hc fun b hb e => (h.ap b).2.2.2.2.1 hb e, h.rg.chg hc fun b hb e => (h.ap b).2.2.2.2.2 hb e, h1, fun b => ?_, fun b hb => ?_, h.chg.trans2 hc fun b e => .inr (h.lo b (.inr (.inr (.inr e))))⟩
  · have h9 := h.ap b
    refine ⟨h9.1, h9.2.1, fun e hf => ?_, h9.2.2.2.1, fun e hf => ?_, fun e hf => ?_⟩
    · exact (hF b hf).elim (h9.2.2.1 e) (hn b (.inl e))
    · exact (hF b hf).elim (h9.2.2.2.2.1 e) (hn b (.inr (.inl e)))
    · exact (hF b hf).elim (fun g => h9.2.2.2.2.2 e g) (hn b (.inr (.inr (.inl e))))
  · rcases hb with hb | hb | hb | hb
    · exact h.lo b (.inl hb)
    · exact h.lo b (.inr (.inl hb))
    · exact h.lo b (.inr (.inr (.inl hb)))
    · exact (hF b hb).elim (fun e => h.lo b (.inr (.inr (.inr e)))) (fun e => Nat.le_trans h.chg.size e)
end
/-- What holds between two calls, but for how many entries the maps have. -/
structure Mid (x : Sx) (k : Nat) : Prop where
  sg : x.sg = gvOf x.r
  okr : okR x.r
  tr : TR x.ts x.s
  ns : x.ns ≤ 100000
  mt : x.mt ≤ 100000
  no : x.no ≤ k
  nt : x.nt ≤ k
  rO : x.r.O.length ≤ k
  sO : x.s.O.length ≤ k
  rH : x.r.H.length ≤ 300 * k
  sH : x.s.H.length ≤ k
  num : 0 ≤ x.r.no ∧ x.r.no ≤ k
structure Rest (x : Sx) (k : Nat) : Prop where
  mid : Mid x k
  ns : x.ns = x.r.H.length
  mt : x.mt = x.s.H.length
def LB (wo : World) (a : Ad) (k : Nat) (w : World) : Prop := ∃ x, MBs wo a x w ∧ Hid (Rest x k)
def MB (wo : World) (a : Ad) (k : Nat) (w : World) : Prop := ∃ x, MBs wo a x w ∧ Hid (Mid x k)
theorem Mid.next {x : Sx} {k : Nat} (h : Mid x k) : Mid x (k + 1) :=
  ⟨h.sg, h.okr, h.tr, h.ns, h.mt, by have := h.no; omega, by have := h.nt; omega, by have := h.rO; omega, by have := h.sO; omega, by have := h.rH; omega, by have := h.sH; omega, h.num.1, by have := h.num.2; omega⟩
theorem Mid.giver {x : Sx} {k : Nat} (h : Mid x k) {ns no : Nat} {F : Nat → Prop} {r : RgS} (h1 : okR r) (h2 : ns ≤ 100000) (h3 : no ≤ k + 1) (h4 : r.O.length ≤ k + 1) (h5 : r.H.length ≤ 300 * (k + 1)) (h6 : 0 ≤ r.no ∧ r.no ≤ (k : Int) + 1) : Mid ((x.setG ns no (gvOf r)).setR F r) (k + 1) :=
  ⟨rfl, h1, h.tr, h2, h.mt, h3, Nat.le_succ_of_le h.nt, h4, Nat.le_succ_of_le h.sO, h5, Nat.le_succ_of_le h.sH, h6.1, by have := h6.2; show r.no ≤ ((k + 1 : Nat) : Int); omega⟩
theorem Mid.taker {x : Sx} {k : Nat} (h : Mid x k) {mt nt : Nat} {F : Nat → Prop} {ts : TkS} {s : RkS} (h1 : TR ts s) (h2 : mt ≤ 100000) (h3 : nt ≤ k + 1) (h4 : s.O.length ≤ k + 1) (h5 : s.H.length ≤ k + 1) : Mid ((x.setT mt nt ts).setS F s) (k + 1) :=
  ⟨h.sg, h.okr, h1, h.ns, h2, Nat.le_succ_of_le h.no, h3, Nat.le_succ_of_le h.rO, h4, Nat.le_trans h.rH (by omega), h5, h.num.1, by have := h.num.2; show x.r.no ≤ ((k + 1 : Nat) : Int); omega⟩

/-- A call of both givers: the same answer v; the program's state becomes sg2, the document's r2. -/
structure WayG (wo : World) (a : Ad) (x : Sx) (k : Nat) (fP fR : FuncId) (aP aR : Array Value) (v : Value) (r2 : RgS) : Prop where
  p : ∀ w, MBs wo a x w → Calls Try.prog fP aP w fun e w2 => e = .returned v ∧ ∃ ns2 no2, MBs wo a (x.setG ns2 no2 (gvOf r2)) w2 ∧ ns2 ≤ 100000 ∧ no2 ≤ k + 1 ∧ Chg x.FG w w2
  r : ∀ w ns2 no2, MBs wo a (x.setG ns2 no2 (gvOf r2)) w → Calls Try.prog fR aR w fun e w2 => e = .returned v ∧ ∃ F, MBs wo a ((x.setG ns2 no2 (gvOf r2)).setR F r2) w2 ∧ Chg x.FR w w2
  m : ∀ ns2 no2 F, ns2 ≤ 100000 → no2 ≤ k + 1 → Mid ((x.setG ns2 no2 (gvOf r2)).setR F r2) (k + 1)
structure WayT (wo : World) (a : Ad) (x : Sx) (k : Nat) (fP fR : FuncId) (aP aR : Array Value) (v : Value) (ts2 : TkS) (s2 : RkS) : Prop where
  p : ∀ w, MBs wo a x w → Calls Try.prog fP aP w fun e w2 => e = .returned v ∧ ∃ mt2 nt2, MBs wo a (x.setT mt2 nt2 ts2) w2 ∧ mt2 ≤ 100000 ∧ nt2 ≤ k + 1 ∧ Chg x.FT w w2
  r : ∀ w mt2 nt2, MBs wo a (x.setT mt2 nt2 ts2) w → Calls Try.prog fR aR w fun e w2 => e = .returned v ∧ ∃ F, MBs wo a ((x.setT mt2 nt2 ts2).setS F s2) w2 ∧ Chg x.FS w w2
  m : ∀ mt2 nt2 F, mt2 ≤ 100000 → nt2 ≤ k + 1 → Mid ((x.setT mt2 nt2 ts2).setS F s2) (k + 1)
abbrev ptrV (g : Nat) : Value := .pointer (some ⟨g, 0, none⟩)
section
variable {wo : World} {a : Ad} {x : Sx} {k : Nat}
theorem way_own (hR : Rest x k) (hk : k ≤ 200) (A : Option Addr) (q c : Nat) (I : List ByteArray) (hr : Rds wo 1 A q (sv I)) (hA : ∀ ad, A = some ad → 0 < q → ad.block < wo.heap.size) (hq : q ≤ 100) (hI : ∀ b ∈ I, b.size ≤ 1000000) :
    ∃ hb r2, WayG wo a x k 10 25 #[ptrV a.g, .slice A q c] #[ptrV a.rg, .slice A q c] (.int .i64 hb) r2 := by
  have hm := hR.mid
  have hql := hr.lenMap (f := Value.string)
  obtain ⟨h1, h2, h3, h4, h5, h6⟩ := own_same I (q := (x.r, 0)) hm.okr
  have e1 : ownN x.sg I = (gvOf (ownR x.r I).1, (ownR x.r I).2) := by rw [hm.sg]; exact h1
  have hns := hR.ns
  have hrH := hm.rH
  refine ⟨(ownR x.r I).2, (ownR x.r I).1, ⟨fun w hB => ?_, fun w ns2 no2 hB => ?_, fun ns2 no2 F h7 h8 => ?_⟩⟩
  · refine (gvOwn_any w x.FG a.g a.sm a.om x.ns x.no x.sg hB.gv A q c I (hr.non hB.chg) (fun ad e h hf => by have := hA ad e h; have := hB.lo _ (.inl hf); omega) (by omega) (by omega) hI).mono ?_
    rintro e w2 ⟨rfl, ns2, h7, h8, h9⟩
    rw [e1] at h8 ⊢
    exact ⟨rfl, ns2, x.no, hB.setG h8 h9, by omega, by have := hm.no; omega, h9⟩
  · refine (refOwn_any w x.FR a.rg x.r hB.rg hm.okr (by omega) A q c I (hr.non hB.chg) (fun ad e h hf => by have := hA ad e h; have := hB.lo _ (.inr (.inr (.inl hf))); omega) (by omega) hI).mono ?_
    rintro e w2 ⟨rfl, F, h7, h8, h9⟩
    exact ⟨rfl, F, hB.setR h7 h8 h9, h9⟩
  · refine hm.giver h2 h7 h8 ?_ ?_ ?_
    · show (I.foldl ownR1 (x.r, 0)).1.O.length ≤ _
      rw [h4]
      have := hm.rO
      show x.r.O.length ≤ _
      omega
    · have h3 : (ownR x.r I).1.H.length ≤ x.r.H.length + I.length := h3
      omega
    · have e2 : (ownR x.r I).1.no = x.r.no := h5
      rw [e2]
      have := hm.num
      omega
theorem way_offer (hR : Rest x k) (hk : k ≤ 200) (nm : ByteArray) (hnm : nm.size ≤ maxLen) (to ep : Int) :
    ∃ nt er r2, WayG wo a x k 16 26 #[ptrV a.g, .string nm, .int .i64 to, .int .i64 ep] #[ptrV a.rg, .string nm, .int .i64 to, .int .i64 ep] (.tuple #[.agg (NtC nt none 0 0 none 0 0), .int .i64 er]) r2 := by
  have hm := hR.mid
  have hns := hR.ns
  have hrH := hm.rH
  have hrO := hm.rO
  have hnum := hm.num
  have hno := hm.no
  cases hg : offGood x.r nm to ep with
  | false =>
    have hg2 : offB x.sg nm to ep = false := by rw [hm.sg]; exact hg
    refine ⟨Nt.zero, 1, x.r, ⟨fun w hB => ?_, fun w ns2 no2 hB => ?_, fun ns2 no2 F h7 h8 => ?_⟩⟩
    · refine (gvOffer_no w x.FG a.g a.sm a.om x.ns x.no x.sg hB.gv nm hnm to ep hg2).mono ?_
      rintro e w2 ⟨rfl, h9⟩
      exact ⟨rfl, x.ns, x.no, hm.sg ▸ hB.setG (hB.gv.non h9) h9.of_non, hm.ns, by omega, h9.of_non⟩
    · refine (refOffer_no w x.FR a.rg x.r hB.rg nm to ep hg).mono ?_
      rintro e w2 ⟨rfl, h9⟩
      exact ⟨rfl, x.FR, hB.setR (hB.rg.non h9) (fun b h => .inl h) h9.of_non, h9.of_non⟩
    · exact hm.giver hm.okr h7 h8 (by omega) (by omega) (by omega)
  | true =>
    have hgd := hg
    unfold offGood at hgd
    simp only [Bool.and_eq_true, Bool.not_eq_true', decide_eq_true_eq] at hgd
    obtain ⟨⟨⟨⟨⟨e1, e2⟩, e3⟩, e4⟩, e5⟩, e6⟩ := hgd
    obtain ⟨h1, h2⟩ := offer_same hm.okr e1 to ep
    have hnum2 : x.sg.num = x.r.no := by rw [hm.sg]; rfl
    have hlen : (offerR x.r nm to ep).O.length = x.r.O.length + 1 := by show (x.r.O ++ _).length = _; simp
    have hlen2 : (offerR x.r nm to ep).H.length ≤ x.r.H.length := rem_le _ _
    refine ⟨offN ⟨to, ep, x.r.no + 1⟩ nm, 0, offerR x.r nm to ep, ⟨fun w hB => ?_, fun w ns2 no2 hB => ?_, fun ns2 no2 F h7 h8 => ?_⟩⟩
    · refine (gvOffer_yes w x.FG a.g a.sm a.om x.ns x.no x.sg hB.gv nm hnm to ep (by rw [hm.sg]; exact e1) (by rw [hm.sg]; exact e2) e3 e4 e5 e6 (by omega) (by omega)).mono ?_
      rintro e w2 ⟨rfl, ns2, no2, h7, h8, h9, h10⟩
      rw [hnum2] at h9 ⊢
      rw [show offerS x.sg nm ⟨to, ep, x.r.no + 1⟩ = gvOf (offerR x.r nm to ep) by rw [hm.sg]; exact h1] at h9
      exact ⟨rfl, ns2, no2, hB.setG h9 h10, by omega, by omega, h10⟩
    · refine (refOffer_yes w x.FR a.rg x.r hB.rg nm to ep hg (by omega) (by omega) (by omega)).mono ?_
      rintro e w2 ⟨rfl, F, h7, h8, h9⟩
      exact ⟨rfl, F, hB.setR h7 h8 h9, h9⟩
    · refine hm.giver h2 h7 h8 (by omega) (by omega) ?_
      show 0 ≤ x.r.no + 1 ∧ x.r.no + 1 ≤ _
      omega
theorem way_in (hR : Rest x k) (hk : k ≤ 200) (n : Nt) (A : Option Addr) (kk c : Nat) (B : Option Addr) (m d : Nat) (hid : n.id.size ≤ maxLen) :
    ∃ hb r2, WayG wo a x k 18 28 #[ptrV a.g, .agg (NtC n A kk c B m d)] #[ptrV a.rg, .agg (NtC n A kk c B m d)] (.bool hb) r2 := by
  have hm := hR.mid
  have hns := hR.ns
  have hrH := hm.rH
  have hrO := hm.rO
  have hnum := hm.num
  have hno := hm.no
  have hpost := fun w (hB : MBs wo a x w) => gvIn_any w x.FG a.g a.sm a.om x.ns x.no x.sg hB.gv n A kk c B m d hid (by omega)
  cases hi : inOk (gvOf x.r) n with
  | false =>
    have hi2 : inOk x.sg n = false := by rw [hm.sg]; exact hi
    refine ⟨false, x.r, ⟨fun w hB => ?_, fun w ns2 no2 hB => ?_, fun ns2 no2 F h7 h8 => ?_⟩⟩
    · refine (hpost w hB).mono ?_
      rintro e w2 h9
      obtain ⟨rfl, ns2, no2, h7, h8, h9, h10⟩ := in_post h9
      rw [hi2, if_neg Bool.false_ne_true] at h9
      rw [hi2]
      exact ⟨rfl, ns2, no2, hm.sg ▸ hB.setG h9 h10, by omega, by omega, h10⟩
    · refine (refIn_no w x.FR a.rg x.r hB.rg n A kk c B m d hi).mono ?_
      rintro e w2 ⟨r2, ⟨rfl, F, h7, h8, h9⟩, h10⟩
      rcases h10 with ⟨_, rfl⟩ | ⟨h10, _⟩
      · rw [hi]
        exact ⟨rfl, F, hB.setR h7 h8 h9, h9⟩
      · rw [hi] at h10; cases h10
    · exact hm.giver hm.okr h7 h8 (by omega) (by omega) (by omega)
  | true =>
    have hi2 : inOk x.sg n = true := by rw [hm.sg]; exact hi
    cases hp : pO x.r.O n.id with
    | none =>
      unfold inOk at hi
      rw [show (gvOf x.r).off n.id = offO x.r.O n.id from rfl, off_none hp] at hi
      cases hi
    | some p =>
      obtain ⟨h1, h2⟩ := in_same hm.okr hp
      have hlen : (inR x.r p n).O.length ≤ x.r.O.length := by show (x.r.O.eraseIdx p).length ≤ _; rw [List.length_eraseIdx]; split <;> omega
      have hlen2 : (inR x.r p n).H.length ≤ x.r.H.length + 1 := by
        show (if n.kind = 6 then riseS n.id x.r.H else x.r.H).length ≤ _
        split
        · exact riseS_len _ _
        · omega
      refine ⟨true, inR x.r p n, ⟨fun w hB => ?_, fun w ns2 no2 hB => ?_, fun ns2 no2 F h7 h8 => ?_⟩⟩
      · refine (hpost w hB).mono ?_
        rintro e w2 h9
        obtain ⟨rfl, ns2, no2, h7, h8, h9, h10⟩ := in_post h9
        rw [hi2, if_pos rfl, show inS x.sg n = gvOf (inR x.r p n) by rw [hm.sg]; exact h1] at h9
        rw [hi2]
        exact ⟨rfl, ns2, no2, hB.setG h9 h10, by omega, by omega, h10⟩
      · refine (refIn_yes w x.FR a.rg x.r hB.rg n A kk c B m d hi (by omega) (by omega)).mono ?_
        rintro e w2 ⟨r2, ⟨rfl, F, h7, h8, h9⟩, h10⟩
        rcases h10 with ⟨h10, _⟩ | ⟨_, p2, h11, rfl⟩
        · rw [hi] at h10; cases h10
        · rw [hp] at h11
          obtain rfl := Option.some.inj h11
          rw [hi]
          exact ⟨rfl, F, hB.setR h7 h8 h9, h9⟩
      · refine hm.giver h2 h7 h8 (by omega) (by omega) ?_
        show 0 ≤ x.r.no ∧ x.r.no ≤ _
        omega
theorem way_again (hR : Rest x k) (nm : ByteArray) (hnm : nm.size ≤ maxLen) :
    ∃ nt bo, (∀ w, MBs wo a x w → Calls Try.prog 15 #[ptrV a.g, .string nm] w fun e w2 => e = .returned (.tuple #[.agg (NtC nt none 0 0 none 0 0), .bool bo]) ∧ Chg Non w w2) ∧ (∀ w, MBs wo a x w → Calls Try.prog 29 #[ptrV a.rg, .string nm] w fun e w2 => e = .returned (.tuple #[.agg (NtC nt none 0 0 none 0 0), .bool bo]) ∧ Chg Non w w2) := by
  have hm := hR.mid
  have hp := fun w (hB : MBs wo a x w) => gvAgain_any w x.FG a.g a.sm a.om x.ns x.no x.sg hB.gv nm hnm
  have hr := fun w (hB : MBs wo a x w) => refAgain_any w x.FR a.rg x.r hB.rg nm
  rw [hm.sg] at hp
  cases ho : offO x.r.O nm with
  | none =>
    have e1 : againV (gvOf x.r) nm = .tuple #[.agg (NtC Nt.zero none 0 0 none 0 0), .bool false] := by unfold againV; show (match offO x.r.O nm with | some o => _ | none => _) = _; rw [ho]; rfl
    rw [e1] at hp hr
    exact ⟨Nt.zero, false, hp, hr⟩
  | some o =>
    have e1 : againV (gvOf x.r) nm = .tuple #[.agg (NtC (offN o nm) none 0 0 none 0 0), .bool true] := by unfold againV; show (match offO x.r.O nm with | some o => _ | none => _) = _; rw [ho]; rfl
    rw [e1] at hp hr
    exact ⟨offN o nm, true, hp, hr⟩
theorem way_back (hR : Rest x k) (hk : k ≤ 200) (A : Option Addr) (q c : Nat) (I : List Int) (hr : Rds wo 1 A q (iv I)) (hA : ∀ ad, A = some ad → 0 < q → ad.block < wo.heap.size) (hq : q ≤ 1000000) :
    ∃ L r2, L.length ≤ 200 ∧ (∀ w, MBs wo a x w → Calls Try.prog 21 #[ptrV a.g, .slice A q c] w fun e w2 => ∃ A2 c2, e = .returned (.slice A2 L.length c2) ∧ OwnR rkI w2 w.heap.size (.slice A2 L.length c2) L.length (sv L) ∧ ∃ ns2 no2, MBs wo a (x.setG ns2 no2 (gvOf r2)) w2 ∧ ns2 ≤ 100000 ∧ no2 ≤ k + 1 ∧ Chg x.FG w w2) ∧
      (∀ w ns2 no2, MBs wo a (x.setG ns2 no2 (gvOf r2)) w → Calls Try.prog 30 #[ptrV a.rg, .slice A q c] w fun e w2 => ∃ A2 c2, e = .returned (.slice A2 L.length c2) ∧ OwnR rkI w2 w.heap.size (.slice A2 L.length c2) L.length (sv L) ∧ ∃ F, MBs wo a ((x.setG ns2 no2 (gvOf r2)).setR F r2) w2 ∧ Chg x.FR w w2) ∧
      (∀ ns2 no2 F, ns2 ≤ 100000 → no2 ≤ k + 1 → Mid ((x.setG ns2 no2 (gvOf r2)).setR F r2) (k + 1)) := by
  have hm := hR.mid
  have hns := hR.ns
  have hrH := hm.rH
  have hrO := hm.rO
  have hnum := hm.num
  have hno := hm.no
  have hL : RisesS (backO I x.r 0) := putAll_rises List.Pairwise.nil _
  have hM : ∀ z, z ∈ backO I x.r 0 ↔ backs I (gvOf x.r) z = true := fun z => by
    rw [show backO I x.r 0 = putAllS (bkIds I x.r.O 0) [] from rfl, putAll_mem, ← back_ids hm.okr]
    simp
  obtain ⟨_, h1, h2, h3, h4⟩ := back_same hm.okr I hL hM
  have hbl : (backO I x.r 0).length ≤ 200 := by
    have h8 := putAll_len [] (bkIds I x.r.O 0)
    have h9 := bkIds_len I x.r.O 0
    show (putAllS _ _).length ≤ _
    simp at h8
    omega
  refine ⟨backO I x.r 0, backR I x.r 0, hbl, fun w hB => ?_, fun w ns2 no2 hB => ?_, fun ns2 no2 F h7 h8 => ?_⟩
  · refine (gvBack_any w x.FG a.g a.sm a.om x.ns x.no x.sg hB.gv A q c I (hr.non hB.chg) (fun ad e h hf => by have := hA ad e h; have := hB.lo _ (.inl hf); omega) hq (by omega) (by omega)).mono ?_
    rintro e w2 ⟨A2, m, c2, L, rfl, g1, g2, g3, g4, g5, ⟨ns2, no2, g6, g7, g8⟩, g9⟩
    rw [hm.sg] at g2
    obtain rfl : L = backO I x.r 0 := rises_eqS g1 hL fun z => by rw [g2, hM]
    subst g3
    rw [show backS x.sg (backO I x.r 0) = gvOf (backR I x.r 0) by rw [hm.sg]; exact h1] at g8
    exact ⟨A2, c2, rfl, g5, ns2, no2, hB.setG g8 g9, by omega, by omega, g9⟩
  · refine (refBack_any w x.FR a.rg x.r hB.rg (by omega) (by omega) A q c I (hr.non hB.chg) (fun ad e h hf => by have := hA ad e h; have := hB.lo _ (.inr (.inr (.inl hf))); omega) hq).mono ?_
    rintro e w2 ⟨A2, m, c2, F, rfl, g1, g2, g3, g4, g5⟩
    obtain rfl : m = (backO I x.r 0).length := g1.lenS2
    exact ⟨A2, c2, rfl, g1, F, hB.setR g2 g3 g5, g5⟩
  · refine hm.giver h2 h7 h8 (by omega) (by omega) ?_
    show 0 ≤ x.r.no ∧ x.r.no ≤ _
    omega
theorem way_tkIn (hR : Rest x k) (hk : k ≤ 200) (n : Nt) (A : Option Addr) (kk c : Nat) (B : Option Addr) (m d : Nat) (hN : NtAt wo n A kk c B m d) (hkk : kk ≤ 1099511627776) (hmm : m ≤ 1099511627776) :
    ∃ nt bo ts2 s2, WayT wo a x k 17 31 #[ptrV a.t, .agg (NtC n A kk c B m d)] #[ptrV a.rk, .agg (NtC n A kk c B m d)] (.tuple #[.agg (NtC nt none 0 0 none 0 0), .bool bo]) ts2 s2 := by
  have hm := hR.mid
  have hmt := hR.mt
  have hsH := hm.sH
  have hsO := hm.sO
  have hnt := hm.nt
  have hcase : (n.clear.may = false ∨ (n.clear.may = true ∧ (n.kind != 4) = true)) ∨ (n.clear.may = true ∧ n.kind = 4) := by
    cases hy : n.clear.may with
    | false => exact .inl (.inl rfl)
    | true =>
      by_cases h4 : n.kind = 4
      · exact .inr ⟨rfl, h4⟩
      · exact .inl (.inr ⟨rfl, bne_iff_ne.2 h4⟩)
  rcases hcase with hno | ⟨hmay, hk4⟩
  · refine ⟨Nt.zero, false, x.ts, x.s, ⟨fun w hB => ?_, fun w mt2 nt2 hB => ?_, fun mt2 nt2 F h7 h8 => ?_⟩⟩
    · refine (tkIn_no w a.t n A kk c B m d (hN.non hB.chg) hkk hmm hno).mono ?_
      rintro e w2 ⟨rfl, h9⟩
      exact ⟨rfl, x.mt, x.nt, hB.setT (hB.tk.non h9) h9.of_non, hm.mt, by omega, h9.of_non⟩
    · refine (refTkIn_no w a.rk n A kk c B m d (hN.non hB.chg) hno).mono ?_
      rintro e w2 ⟨rfl, h9⟩
      exact ⟨rfl, x.FS, hB.setS (hB.rk.non h9) (fun b h => .inl h) h9.of_non, h9.of_non⟩
    · exact hm.taker hm.tr h7 h8 (by omega) (by omega)
  · obtain ⟨h1, h2, h3, h4⟩ := tkTake_same hm.tr hmt n hN.ok
    refine ⟨ansN (kindR x.s n) x.s.node n, true, tkS2 x.ts x.mt n hN.ok, takeR x.s n, ⟨fun w hB => ?_, fun w mt2 nt2 hB => ?_, fun mt2 nt2 F h7 h8 => ?_⟩⟩
    · refine (tkIn_offer w x.FT a.t a.st a.tm x.mt x.nt x.ts hB.tk n A kk c B m d (hN.non hB.chg) hkk hmm hmay hk4 (by omega) (by omega)).mono ?_
      rintro e w2 ⟨rfl, ⟨nt2, h7, h8⟩, h9⟩
      rw [h1, hm.tr.node]
      refine ⟨rfl, tkNs x.ts x.mt n hN.ok, nt2, hB.setT h8 h9, ?_, by omega, h9⟩
      unfold tkNs
      split
      · omega
      · split <;> omega
    · refine (refTk_offer w x.FS a.rk x.s hB.rk n A kk c B m d (hN.non hB.chg) hmay hk4 (by omega) (by omega)).mono ?_
      rintro e w2 ⟨rfl, F, h7, h8, h9⟩
      exact ⟨rfl, F, hB.setS h7 h8 h9, h9⟩
    · exact hm.taker h2 h7 h8 (by omega) (by omega)
theorem way_done (hR : Rest x k) (hk : k ≤ 200) (nm : ByteArray) (hnm : nm.size ≤ maxLen) :
    ∃ hb ts2 s2, WayT wo a x k 32 33 #[ptrV a.t, .string nm] #[ptrV a.rk, .string nm] (.bool hb) ts2 s2 := by
  have hm := hR.mid
  have hmt := hR.mt
  have hsH := hm.sH
  have hsO := hm.sO
  have hnt := hm.nt
  obtain ⟨h1, h2⟩ := done_same hm.tr nm
  have hlen : (remL x.s.H nm).length ≤ x.s.H.length := rem_le _ _
  refine ⟨hasL x.s.H nm, doneS x.ts nm, { x.s with H := remL x.s.H nm }, ⟨fun w hB => ?_, fun w mt2 nt2 hB => ?_, fun mt2 nt2 F h7 h8 => ?_⟩⟩
  · refine (tkDone_any w x.FT a.t a.st a.tm x.mt x.nt x.ts hB.tk nm hnm).mono ?_
    rintro e w2 ⟨rfl, ⟨mt2, h7, h8⟩, h9⟩
    rw [h1]
    exact ⟨rfl, mt2, x.nt, hB.setT h8 h9, by omega, by omega, h9⟩
  · refine (refDone_any w x.FS a.rk x.s hB.rk (by omega) nm).mono ?_
    rintro e w2 ⟨rfl, F, h7, h8, h9⟩
    exact ⟨rfl, F, hB.setS h7 h8 h9, h9⟩
  · exact hm.taker h2 h7 h8 (by show x.s.O.length ≤ _; omega) (by show (remL x.s.H nm).length ≤ _; omega)
end
end

section
open Go.ChangeShapes Go.WideShapes Go.ChangeAt Go.RowKit Go.Deep
set_option linter.unusedVariables false
set_option linter.unusedSimpArgs false

theorem Rd.len {P : Program} {w : World} {t : TypeId} {cs : List Value} {fs : Array Field} (ht : P.underlying t = some (.struct fs)) (h : Rd P w t cs) : cs.length = P.cellsOf t := by
  obtain ⟨H, enc, base, spare, held, fuel, x, h⟩ := h
  obtain ⟨xs, n, _, _, hl, hxl, hg⟩ := DataW.trod_struct ht h
  exact hl
theorem Rd.field {P : Program} {w : World} {t : TypeId} {cs : List Value} {fs : Array Field} (ht : P.underlying t = some (.struct fs)) (h : Rd P w t cs) (i : Nat) {e : TypeId} {off n : Nat} (hf : fs[i]?.map (fun f => (f.type, f.offset)) = some (e, off)) (hn : P.cellsOf e = n) :
    Rd P w e ((cs.drop off).take n) := by
  obtain ⟨H, enc, base, spare, held, fuel, x, h⟩ := h
  obtain ⟨xs, m, _, _, hl, hxl, hg⟩ := DataW.trod_struct ht h
  cases hfi : fs[i]? with
  | none => rw [hfi] at hf; cases hf
  | some f =>
    rw [hfi] at hf
    simp only [Option.map_some, Option.some.injEq, Prod.mk.injEq] at hf
    have h1 := hg i f hfi
    have hxi : i < xs.length := by rw [hxl]; exact (Array.getElem?_eq_some_iff.1 hfi).1
    rw [List.getElem?_eq_getElem hxi, hf.1, hf.2, hn] at h1
    exact ⟨H, enc, base, spare, held, m, _, h1⟩
theorem Rd.members {w : World} {cs : List Value} (h : Rd Try.prog w 55 cs) :
    ∃ A n c, ∃ L : List Mb, cs = [.slice A n c] ∧ n ≤ c ∧ c ≤ maxLen ∧ Rds w 2 A n (mv L) ∧ ∀ m ∈ L, Ytflaliomkfbagaa.i64 m.1 ∧ Ytflaliomkfbagaa.i64 m.2 := by
  refine h.rows Try.underlying55 (by kernel_rfl) cellM_len fun l hl hr => ?_
  obtain ⟨_, hg⟩ := hr.struct Try.underlying116 (by kernel_rfl)
  match l, hl, hg with
  | [a, b], _, hg =>
    obtain ⟨x, hx, hx2⟩ := (hg 0 _ rfl a rfl).i64 Try.underlying3
    obtain ⟨y, hy, hy2⟩ := (hg 1 _ rfl b rfl).i64 Try.underlying3
    simp only [List.cons.injEq, and_true] at hx hy
    subst hx hy
    exact ⟨(x, y), rfl, hx2, hy2⟩
theorem Rd.note {w : World} {S : Array Value} (h : Rd Try.prog w 59 (Value.agg S).cells.toList) :
    ∃ (n : Nt) (A : Option Addr) (k c : Nat) (B : Option Addr) (m d : Nat), S = NtC n A k c B m d ∧ NtAt w n A k c B m d := by
  have hl := h.len Try.underlying59
  rw [show Try.prog.cellsOf 59 = 11 by kernel_rfl] at hl
  have hg := fun i e off n => h.field Try.underlying59 i (e := e) (off := off) (n := n)
  simp only [Value.cells] at hl hg
  obtain ⟨l, rfl⟩ : ∃ l : List Value, S = l.toArray := ⟨S.toList, by simp⟩
  simp only [List.toList_toArray] at hl hg
  match l, hl, hg with
  | [a, b, c, d, e, f, g, h, i, j, k], _, hg =>
    have h0 : Rd Try.prog w 3 [a] := hg 0 3 0 1 (by rfl) (by kernel_rfl)
    have h1 : Rd Try.prog w 3 [b] := hg 1 3 1 1 (by rfl) (by kernel_rfl)
    have h2 : Rd Try.prog w 3 [c] := hg 2 3 2 1 (by rfl) (by kernel_rfl)
    have h3 : Rd Try.prog w 3 [d] := hg 3 3 3 1 (by rfl) (by kernel_rfl)
    have h4 : Rd Try.prog w 33 [e] := hg 4 33 4 1 (by rfl) (by kernel_rfl)
    have h5 : Rd Try.prog w 3 [f] := hg 5 3 5 1 (by rfl) (by kernel_rfl)
    have h6 : Rd Try.prog w 29 [g] := hg 6 29 6 1 (by rfl) (by kernel_rfl)
    have h7 : Rd Try.prog w 54 [h, i] := hg 7 54 7 2 (by rfl) (by kernel_rfl)
    have h8 : Rd Try.prog w 57 [j, k] := hg 8 57 9 2 (by rfl) (by kernel_rfl)
    obtain ⟨x0, e0, i0⟩ := h0.i64 Try.underlying3
    obtain ⟨x1, e1, i1⟩ := h1.i64 Try.underlying3
    obtain ⟨x2, e2, i2⟩ := h2.i64 Try.underlying3
    obtain ⟨x3, e3, i3⟩ := h3.i64 Try.underlying3
    obtain ⟨x4, e4, i4⟩ := h4.string Try.underlying33
    obtain ⟨x5, e5, i5⟩ := h5.i64 Try.underlying3
    obtain ⟨A, n, cc, x6, e6, j1, j2, j3, j4⟩ := h6.ints Try.underlying29 (by kernel_rfl) Try.underlying3
    obtain ⟨_, hr⟩ := h7.struct Try.underlying54 (by kernel_rfl)
    obtain ⟨x7, e7, i7⟩ := (hr 0 _ rfl h rfl).i64 Try.underlying52
    obtain ⟨x8, e8, i8⟩ := (hr 1 _ rfl i rfl).i64 Try.underlying3
    obtain ⟨_, hv⟩ := h8.struct Try.underlying57 (by kernel_rfl)
    obtain ⟨x9, e9, i9⟩ := (hv 0 _ rfl j rfl).i64 Try.underlying3
    obtain ⟨B, m, dd, x10, e10, k1, k2, k3, k4⟩ := Rd.members (hv 1 _ rfl k rfl)
    simp only [List.cons.injEq, and_true] at e0 e1 e2 e3 e4 e5 e6 e7 e8 e9 e10
    subst e0 e1 e2 e3 e4 e5 e6 e7 e8 e9 e10
    exact ⟨⟨x0, x1, x2, x3, x4, x5, x6, x7, x8, x9, x10⟩, A, n, cc, B, m, dd, rfl, ⟨⟨i0, i1, i2, i3, i5, j4, i7, i8, i9, k4, i4⟩, j3, j1, j2, k3, k1, k2⟩⟩
/-- Is a note too much? -/
def bigN (n : Nt) (k m : Nat) : Bool := decide ((500 : Int) < n.id.size) || decide ((200 : Int) < k) || decide ((200 : Int) < m)
theorem bigN_no {n : Nt} {k m : Nat} (h : bigN n k m = false) : n.id.size ≤ 500 ∧ k ≤ 200 ∧ m ≤ 200 := by
  unfold bigN at h
  simp only [Bool.or_eq_false_iff, decide_eq_false_iff_not] at h
  omega
set_option maxRecDepth 100000 in
set_option maxHeartbeats 1000000 in
theorem big_any (w : World) (n : Nt) (A : Option Addr) (k c : Nat) (B : Option Addr) (m d : Nat) (h : NtAt w n A k c B m d) :
    Calls Try.prog 24 #[.agg (NtC n A k c B m d)] w fun e w2 => e = .returned (.bool (bigN n k m)) ∧ Chg Non w w2 := by
  have hk63 : k ≤ 9223372036854775807 := by have := h.kc; have := h.cm; unfold maxLen at this; omega
  have hm63 : m ≤ 9223372036854775807 := by have := h.md; have := h.dm; unfold maxLen at this; omega
  have hi63 : n.id.size ≤ 9223372036854775807 := by have := h.ok.id; unfold maxLen at this; omega
  clear h
  unfold NtC
  by_cases h1 : 500 < n.id.size
  · have H : Hid (bigN n k m = true) := by show _ = _; unfold bigN; rw [decide_eq_true (by omega)]; rfl
    go_enter Try.func24, Try.ntmps24
    go_wp2_with fail
    go_ret
    exact ⟨by first | rfl | (rw [H.out]; rfl), (Chg.refl _ _).alloc _⟩
  · by_cases h2 : 200 < k
    all_goals
      go_enter Try.func24, Try.ntmps24
      go_wp2_with fail
      go_ret
      exact ⟨by first | rfl | (rw [show bigN n k m = true from by unfold bigN; rw [decide_eq_true (show (200 : Int) < k by omega)]; simp]; rfl), (Chg.refl _ _).alloc _⟩
/-- Are names short, and few? -/
def namesB (L : List ByteArray) : Bool := decide (L.length ≤ 100) && L.all fun x => decide (x.size ≤ 100)
theorem namesB_true {L : List ByteArray} : namesB L = true ↔ L.length ≤ 100 ∧ ∀ x ∈ L, x.size ≤ 100 := by simp [namesB]
set_option maxRecDepth 100000 in
theorem names_any (w : World) (A : Option Addr) (n c : Nat) (L : List ByteArray) (h1 : Rds w 1 A n (sv L)) (hn : n ≤ 9223372036854775807) (hL : ∀ x ∈ L, x.size ≤ 9223372036854775807) :
    Calls Try.prog 23 #[.slice A n c] w fun e w2 => e = .returned (.bool (namesB L)) ∧ w = w2 := by
  have H1 := Lib.hid h1
  have Hnl := Lib.hid (h1.lenMap (f := Value.string))
  have HL := Lib.hid hL
  clear h1 hL
  go_enter Try.func23, Try.ntmps23
  go_wp2_with fail
  go_loop [3] (fun i => ∃ k : Nat, k ≤ n ∧ k ≤ 200 ∧ i = .int .i64 k ∧ Hid (∀ x ∈ L.take k, x.size ≤ 100)) (fun i => n - (intOf i).toNat)
  case atStart => exact ⟨0, Nat.zero_le _, by omega, rfl, (fun x hx => by simp at hx)⟩
  case round =>
    obtain ⟨k, hk, hk2, rfl, hno⟩ := hrel
    by_cases hlt : k < n ∧ k < 200
    · obtain ⟨hlt, hlt2⟩ := hlt
      obtain ⟨ad, x, rfl, hx, hc⟩ := H1.out.getS hlt
      have hxs := HL.out x (List.mem_of_getElem? hx)
      by_cases heq : x.size ≤ 100
      · have hno2 : Hid (∀ y ∈ L.take (k + 1), y.size ≤ 100) := by
          intro y hy
          rw [List.take_add_one, hx] at hy
          rcases List.mem_append.1 hy with hy | hy
          · exact hno.out y hy
          · simp at hy; subst hy; exact heq
        clear hx hno
        go_wp2_with fail
        go_round
        case rel => exact ⟨k + 1, by omega, by omega, by go_num, hno2⟩
        case measure => simp [intOf]; omega
      · have Hres := Lib.hid (show namesB L = false by
          cases h : namesB L with
          | false => rfl
          | true => exact absurd ((namesB_true.1 h).2 x (List.mem_of_getElem? hx)) heq)
        have hgt : 100 < x.size := by omega
        clear hx hno heq
        go_wp2_with fail
        go_ret
        exact ⟨by rw [Hres.out]; rfl, rfl⟩
    · have hex : (¬ k < n) ∨ (k < n ∧ ¬ k < 200) := by omega
      clear hlt
      rcases hex with h1 | ⟨h1, h2⟩
      · have hst : L.take k = L := List.take_of_length_le (by have := Hnl.out; omega)
        rw [hst] at hno
        have Hres := Lib.hid (show namesB L = decide ((n : Int) ≤ 100) by
          unfold namesB
          rw [← Hnl.out]
          have : (L.all fun x => decide (x.size ≤ 100)) = true := by simpa using hno.out
          rw [this, Bool.and_true, decide_eq_decide]
          omega)
        clear hst hno
        go_wp2_with fail
        go_ret
        exact ⟨by rw [Hres.out]; rfl, rfl⟩
      · have Hres := Lib.hid (show namesB L = decide ((n : Int) ≤ 100) by unfold namesB; rw [← Hnl.out, decide_eq_false (show ¬ n ≤ 100 by omega), decide_eq_false (show ¬ (n : Int) ≤ 100 by omega)]; rfl)
        clear hno
        go_wp2_with fail
        go_ret
        exact ⟨by rw [Hres.out]; rfl, rfl⟩
theorem Rd.structG {P : Program} {w : World} {t : TypeId} {cs : List Value} {fs : Array Field} (ht : P.underlying t = some (.struct fs)) (h : Rd P w t cs) :
    cs.length = P.cellsOf t ∧ ∀ (i : Nat) (f : Field), fs[i]? = some f → Rd P w f.type ((cs.drop f.offset).take (P.cellsOf f.type)) := by
  obtain ⟨H, enc, base, spare, held, fuel, x, h⟩ := h
  obtain ⟨xs, n, _, _, hl, hxl, hg⟩ := DataW.trod_struct ht h
  refine ⟨hl, fun i f hf => ?_⟩
  have h1 := hg i f hf
  have hxi : i < xs.length := by rw [hxl]; exact (Array.getElem?_eq_some_iff.1 hf).1
  rw [List.getElem?_eq_getElem hxi] at h1
  exact ⟨H, enc, base, spare, held, n, _, h1⟩
theorem Rd.ids {w : World} {l : List Value} (h : Rd Try.prog w 30 l) :
    ∃ A n c L, l = [.slice A n c] ∧ n ≤ c ∧ c ≤ maxLen ∧ Rds w 1 A n (sv L) ∧ ∀ x ∈ L, x.size ≤ maxLen := by
  obtain ⟨A, n, c, vs, h1, h2, h3, h4, h5⟩ := h.slice1 Try.underlying30 (by kernel_rfl)
  obtain ⟨l, rfl, hl⟩ := all_map (f := Value.string) (Q := fun x : ByteArray => x.size ≤ maxLen) (vs := vs) fun u hu => by
    obtain ⟨s, h1, h2⟩ := (h5 u hu).string Try.underlying33
    simp only [List.cons.injEq, and_true] at h1
    exact ⟨s, h1, h2⟩
  exact ⟨A, n, c, l, h1, h2, h3, h4, hl⟩
end
end Go.Proofs.Ytflaliomkfbagaa
