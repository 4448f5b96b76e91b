/-
  Views as they come in.
-/
import Derived.Test.YtbkjpeelabdkfaaRdRows
import Derived.Test.YtbkjpeelabdkfaaVwPlain
namespace Go.Proofs.Ytbkjpeelabdkfaa
open Go.ChangeShapes Go.WideShapes Go.ChangeAt Go.RowKit Go.Deep
set_option linter.unusedVariables false

theorem Rd.members {w : World} {cs : List Value} (h : Rd Try.prog w 32 cs) :
    ∃ A n c, ∃ L : List Mb, cs = [.slice A n c] ∧ n ≤ c ∧ c ≤ maxLen ∧ Rds w 2 A n (mv L) ∧ ∀ m ∈ L, Ytbkjpeelabdkfaa.i64 m.1 ∧ Ytbkjpeelabdkfaa.i64 m.2 := by
  refine h.rows Try.underlying32 (by kernel_rfl) cellM_len fun l hl hr => ?_
  obtain ⟨_, hg⟩ := hr.struct Try.underlying68 (by kernel_rfl)
  match l, hl, hg with
  | [a, b], _, hg =>
    obtain ⟨x, hx, hx2⟩ := (hg 0 _ rfl a rfl).i64 Try.underlying3
    obtain ⟨y, hy, hy2⟩ := (hg 1 _ rfl b rfl).i64 Try.underlying3
    simp only [List.cons.injEq, and_true] at hx hy
    subst hx hy
    exact ⟨(x, y), rfl, hx2, hy2⟩

/-- A view as it lies. -/
structure Vw where
  ep : Int
  A : Option Addr
  n : Nat
  c : Nat
  L : List Mb
def cellV (v : Vw) : List Value := [.int .i64 v.ep, .slice v.A v.n v.c]
theorem cellV_len (v : Vw) : (cellV v).length = 2 := rfl
structure Vw.ok (w : World) (v : Vw) : Prop where
  ep : Ytbkjpeelabdkfaa.i64 v.ep
  nc : v.n ≤ v.c
  cm : v.c ≤ maxLen
  rds : Rds w 2 v.A v.n (mv v.L)
theorem Vw.ok.non {w w2 : World} {v : Vw} (h : v.ok w) (hc : Chg Non w w2) : v.ok w2 := ⟨h.ep, h.nc, h.cm, h.rds.non hc⟩

theorem Rd.view {w : World} {l : List Value} (h : Rd Try.prog w 34 l) (hl : l.length = 2) : ∃ v : Vw, l = cellV v ∧ v.ok w := by
  obtain ⟨_, hg⟩ := h.struct Try.underlying34 (by kernel_rfl)
  match l, hl, hg with
  | [a, b], _, hg =>
    obtain ⟨x, hx, hx2⟩ := (hg 0 _ rfl a rfl).i64 Try.underlying3
    obtain ⟨A, n, c, L, hy, h1, h2, h3, _⟩ := Rd.members (hg 1 _ rfl b rfl)
    simp only [List.cons.injEq, and_true] at hx hy
    subst hx hy
    exact ⟨⟨x, A, n, c, L⟩, rfl, hx2, h1, h2, h3⟩
end Go.Proofs.Ytbkjpeelabdkfaa
