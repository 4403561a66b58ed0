/-
  Lists of answers in memory; walk of the reference's SameFile. Conditions: none beyond each theorem's own premises.
-/
import Derived.Test.YtfljbiobiobamaaFlM
import Derived.Test.YtfljbiobiobamaaMap
import Derived.Test.YtfljbiobiobamaaStrB
namespace Go.Proofs.Ytfljbiobiobamaa
open Go.RowKit
set_option linter.unusedVariables false
namespace Fl

/-- an answer, its data in memory -/
structure Am where
  err : Int
  A : Option Addr
  n : Nat
  c : Nat
  bs : List Nat
def Am.cells (x : Am) : List Value := [.int .i64 x.err, .slice x.A x.n x.c]
theorem Am.len : ∀ x : Am, x.cells.length = 2 := fun _ => rfl
def Am.an (x : Am) : An := ⟨x.err, x.bs⟩
def Am.row (x : Am) : It := .row 5 1 (.slice x.A x.n x.c) x.n (x.bs.flatMap bcell)
def Am.ok (w : World) (x : Am) : Prop := Rd w w.heap.size 1 x.A x.n (x.bs.flatMap bcell) ∧ x.bs.length = x.n
theorem Am.ok.later {w w' : World} {x : Am} (h : x.ok w) (hb : Below w.heap.size w w') : x.ok w' := ⟨h.1.later hb, h.2⟩
theorem Am.facts {w wr : World} {b off Bd k : Nat} {l : List Am} {x : Am} (hb : b < Bd) (hB : Below Bd w wr) (hc : ∀ (i j : Nat) (x : Am) (u : Value), l[i]? = some x → x.cells[j]? = some u → w.cell? ⟨b, off + (i * 2 + j), none⟩ = some u)
    (hx : l[k]? = some x) : wr.cell? ⟨b, off + k * 2, none⟩ = some (.int .i64 x.err) ∧ wr.cell? ⟨b, off + k * 2 + 1, none⟩ = some (.slice x.A x.n x.c) :=
  ⟨(hB.cell hb).trans (hc k 0 x _ hx rfl), (hB.cell hb).trans (hc k 1 x _ hx rfl)⟩
/-- a list of answers that can be read -/
structure AL (w : World) (A : Option Addr) (n : Nat) (l : List Am) : Prop where
  rd : Rd w w.heap.size 2 A n (l.flatMap Am.cells)
  len : l.length = n
  ok : ∀ x ∈ l, x.ok w
theorem AL.later {w w' : World} {A : Option Addr} {n : Nat} {l : List Am} (h : AL w A n l) (hb : Below w.heap.size w w') : AL w' A n l := ⟨h.rd.later hb, h.len, fun x hx => (h.ok x hx).later hb⟩
theorem AL_of {w0 w : World} {A : Option Addr} {N c i : Nat} {L : List It} {outs : List Am} (d : Nat → Nat) (H : Sep w0 w L) (hi : L[i]? = some (.row 84 2 (.slice A N c) N (outs.flatMap Am.cells))) (hd : ∀ (k : Nat) (x : Am), outs[k]? = some x → L[d k]? = some x.row) : AL w A N outs := by
  have h0 := H.rowHas i hi
  have h1 := h0.1
  rw [flat_len Am.len] at h1
  refine ⟨Row.rd h0, by omega, fun x hx => ?_⟩
  obtain ⟨k, hk⟩ := List.getElem?_of_mem hx
  have h2 := H.rowHas (d k) (E := 5) (size := 1) (n := x.n) (v := .slice x.A x.n x.c) (xs := x.bs.flatMap bcell) (hd k x hk)
  have h3 := h2.1
  rw [flat_len bcell_len] at h3
  exact ⟨Row.rd h2, by omega⟩

set_option maxHeartbeats 1600000 in
theorem samefile_any (A A' : Option Addr) (n c c' : Nat) (l l' : List Am) (w : World) (hr : AL w A n l) (hr' : AL w A' n l') (hn : n ≤ 9223372036854775807) (he : l.map Am.an = l'.map Am.an) (hb : ∀ x ∈ l, ∀ b ∈ x.bs, b < 256) :
    Calls Try.prog 12 #[.slice A n c, .slice A' n c'] w (Ret w (.bool true)) := by
  have HR := Lib.hid hr
  have HR' := Lib.hid hr'
  have HE := Lib.hid he
  have HBB := Lib.hid hb
  clear hr hr' he hb
  go_enter Try.func12, Try.ntmps12
  go_wp2
  go_loopg [13] n (fun g i wr => ∃ k : Nat, k ≤ n ∧ g = n - k ∧ i = .int .i64 k ∧ Below w.heap.size w wr)
  case atStart => exact ⟨0, Nat.zero_le _, rfl, rfl, Below.refl _ _⟩
  case round =>
    obtain ⟨k, hk, rfl, rfl, hB⟩ := hrel
    by_cases hlt : k < n
    · obtain ⟨b, off, rfl, hb, hc⟩ := HR.out.rd.at_ Am.len (by omega)
      obtain ⟨b', off', rfl, hb', hc'⟩ := HR'.out.rd.at_ Am.len (by omega)
      obtain ⟨x, hx⟩ : ∃ x, l[k]? = some x := ⟨_, List.getElem?_eq_getElem (by rw [HR.out.len]; exact hlt)⟩
      obtain ⟨y, hy⟩ : ∃ y, l'[k]? = some y := ⟨_, List.getElem?_eq_getElem (by rw [HR'.out.len]; exact hlt)⟩
      have hp : x.an = y.an := by
        have h1 : (l.map Am.an)[k]? = some x.an := by rw [List.getElem?_map, hx]; rfl
        have h2 : (l'.map Am.an)[k]? = some y.an := by rw [List.getElem?_map, hy]; rfl
        rw [HE.out, h2] at h1
        exact (Option.some.inj h1).symm
      obtain ⟨c0, c1⟩ := Am.facts hb hB hc hx
      obtain ⟨c0', c1'⟩ := Am.facts hb' hB hc' hy
      obtain ⟨q1, q2⟩ := (HR.out.ok x (List.mem_of_getElem? hx)).later hB
      obtain ⟨r1, r2⟩ := (HR'.out.ok y (List.mem_of_getElem? hy)).later hB
      have hbs := HBB.out x (List.mem_of_getElem? hx)
      clear hc hc' hx hy
      obtain ⟨f, Ax, nx, cx, bs⟩ := x
      obtain ⟨f', Ay, ny, cy, bs'⟩ := y
      simp only [Am.an, An.mk.injEq] at hp
      obtain ⟨rfl, rfl⟩ := hp
      simp only at c0 c1 c0' c1' q1 q2 r1 r2 hbs
      have s1 := fun z : LaterOf wr => run_str_rd (P := Try.prog) (c := cx) 75 9 5 Try.underlying75 Try.underlying5 Try.underlying9 (q1.later z.h) hbs
      have s2 := fun z : LaterOf wr => run_str_rd (P := Try.prog) (c := cy) 75 9 5 Try.underlying75 Try.underlying5 Try.underlying9 (r1.later z.h) hbs
      have d0 : ∀ z : LaterOf wr, z.w.cell? ⟨b, off + k * 2, none⟩ = some (.int .i64 f) := fun z => z.cell c0
      have d1 : ∀ z : LaterOf wr, z.w.cell? ⟨b, off + k * 2 + 1, none⟩ = some (.slice Ax nx cx) := fun z => z.cell c1
      have d0' : ∀ z : LaterOf wr, z.w.cell? ⟨b', off' + k * 2, none⟩ = some (.int .i64 f) := fun z => z.cell c0'
      have d1' : ∀ z : LaterOf wr, z.w.cell? ⟨b', off' + k * 2 + 1, none⟩ = some (.slice Ay ny cy) := fun z => z.cell c1'
      clear c0 c1 c0' c1' q1 q2 r1 r2 hbs
      generalize strOf bs = st at s1 s2
      have i0 : (0 : Int) ≤ (k : Int) := by omega
      have i1 : (k : Int) < (n : Int) := by omega
      go_upto_region 6 with (fail)
      refine wp_region_later (by kernel_rfl) (by kernel_rfl) ?_
      repeat (go_big_quiet_step (fail))
      refine wpQuiet_nil ?_; intro xw hw'; obtain ⟨xq, hw''⟩ := hw'; obtain ⟨xw0, xh⟩ := xq; change xw = xw0 at hw''; subst hw''
      go_wp2
      go_roundg (n - (k + 1))
      case measure => omega
      case rel => exact ⟨k + 1, by omega, rfl, by go_num, hB.trans (xh.mono hB.size)⟩
    · go_wp2
      go_ret
      exact Ret.mk rfl hB
end Fl
end Go.Proofs.Ytfljbiobiobamaa
