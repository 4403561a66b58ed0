/-
  Walk of remap.Play's step. Conditions: none.
-/
import Derived.Test.YtcndddjnlnigeaaRmpM2
import Derived.Test.YtcndddjnlnigeaaRmpW
import Derived.Test.YtcndddjnlnigeaaTurn
namespace Go.Proofs.Ytcndddjnlnigeaa
open Go.RowKit
set_option linter.unusedVariables false
namespace Rmp

def Op.cells (o : Op) : List Value := [.int .i64 o.kind, .int .i64 o.n]
theorem Op.len : ∀ o : Op, o.cells.length = 2 := fun _ => rfl
/-- the step's blocks: what is blank, how many pages, where numbers lie, the numbers' slice, the numbers -/
structure Caps (w : World) (gb gp ga gn gx pages : Nat) (l : List Int) : Prop where
  b : Blk w gb 3 [.int .i64 (l.length : Int)]
  p : Blk w gp 3 [.int .i64 (pages : Int)]
  a : Blk w ga 34 ((atL l).flatMap icell)
  n : Blk w gn 32 [.slice (some ⟨gx, 0, none⟩) pages pages]
  x : Blk w gx 3 ((numL pages l).flatMap icell)
  ne : gb ≠ gp ∧ gb ≠ ga ∧ gb ≠ gn ∧ gb ≠ gx ∧ gp ≠ ga ∧ gp ≠ gn ∧ gp ≠ gx ∧ ga ≠ gn ∧ ga ≠ gx ∧ gn ≠ gx
theorem Caps.later {w w' : World} {gb gp ga gn gx pages : Nat} {l : List Int} (h : Caps w gb gp ga gn gx pages l) (hb : Below w.heap.size w w') : Caps w' gb gp ga gn gx pages l :=
  ⟨h.b.later hb, h.p.later hb, h.a.later hb, h.n.later hb, h.x.later hb, h.ne⟩
/-- where the step stores -/
def Three (gb ga gx k : Nat) : Prop := k = gb ∨ k = ga ∨ k = gx
def StepRet (w : World) (gb gp ga gn gx pages : Nat) (l' : List Int) (e : Int) (en : Ending) (w' : World) : Prop :=
  en = .returned (.int .i64 e) ∧ Caps w' gb gp ga gn gx pages l' ∧ Turns (Three gb ga gx) w w'

set_option maxHeartbeats 800000 in
theorem step_kind (gb gp ga gn gx pages : Nat) (l : List Int) (w : World) (hC : Caps w gb gp ga gn gx pages l) (k n : Int) (h1 : (k != 1) = true) (h2 : (k != 2) = true) : Calls Try.prog 38 #[.agg #[.int .i64 (k), .int .i64 (n)], .pointer (some ⟨gb, 0, none⟩), .pointer (some ⟨gp, 0, none⟩), .pointer (some ⟨ga, 0, none⟩), .pointer (some ⟨gn, 0, none⟩)] w (StepRet w gb gp ga gn gx pages (l) (5)) := by
  have HC := Lib.hid hC
  have cb := hC.b.cell (k := 0) rfl
  have cp := hC.p.cell (k := 0) rfl
  have cn := hC.n.cell (k := 0) rfl
  have lb := hC.b.lt
  have lp := hC.p.lt
  have la := hC.a.lt
  have ln := hC.n.lt
  have lx := hC.x.lt
  obtain ⟨n1, n2, n3, n4, n5, n6, n7, n8, n9, n10⟩ := hC.ne
  clear hC
  go_enter Try.func38, Try.ntmps38
  go_wp2
  go_ret
  exact ⟨rfl, HC.out.later ((Below.refl _ _).alloc (Nat.le_refl _) _), Turns.later ((Below.refl _ _).alloc (Nat.le_refl _) _)⟩
set_option maxHeartbeats 800000 in
theorem step_lo1 (gb gp ga gn gx pages : Nat) (l : List Int) (w : World) (hC : Caps w gb gp ga gn gx pages l) (n : Int) (h : n < 0) : Calls Try.prog 38 #[.agg #[.int .i64 (1), .int .i64 (n)], .pointer (some ⟨gb, 0, none⟩), .pointer (some ⟨gp, 0, none⟩), .pointer (some ⟨ga, 0, none⟩), .pointer (some ⟨gn, 0, none⟩)] w (StepRet w gb gp ga gn gx pages (l) (2)) := by
  have HC := Lib.hid hC
  have cb := hC.b.cell (k := 0) rfl
  have cp := hC.p.cell (k := 0) rfl
  have cn := hC.n.cell (k := 0) rfl
  have lb := hC.b.lt
  have lp := hC.p.lt
  have la := hC.a.lt
  have ln := hC.n.lt
  have lx := hC.x.lt
  obtain ⟨n1, n2, n3, n4, n5, n6, n7, n8, n9, n10⟩ := hC.ne
  clear hC
  go_enter Try.func38, Try.ntmps38
  go_wp2
  go_ret
  exact ⟨rfl, HC.out.later ((Below.refl _ _).alloc (Nat.le_refl _) _), Turns.later ((Below.refl _ _).alloc (Nat.le_refl _) _)⟩
set_option maxHeartbeats 800000 in
theorem step_lo2 (gb gp ga gn gx pages : Nat) (l : List Int) (w : World) (hC : Caps w gb gp ga gn gx pages l) (n : Int) (h : n < 0) : Calls Try.prog 38 #[.agg #[.int .i64 (2), .int .i64 (n)], .pointer (some ⟨gb, 0, none⟩), .pointer (some ⟨gp, 0, none⟩), .pointer (some ⟨ga, 0, none⟩), .pointer (some ⟨gn, 0, none⟩)] w (StepRet w gb gp ga gn gx pages (l) (2)) := by
  have HC := Lib.hid hC
  have cb := hC.b.cell (k := 0) rfl
  have cp := hC.p.cell (k := 0) rfl
  have cn := hC.n.cell (k := 0) rfl
  have lb := hC.b.lt
  have lp := hC.p.lt
  have la := hC.a.lt
  have ln := hC.n.lt
  have lx := hC.x.lt
  obtain ⟨n1, n2, n3, n4, n5, n6, n7, n8, n9, n10⟩ := hC.ne
  clear hC
  go_enter Try.func38, Try.ntmps38
  go_wp2
  go_ret
  exact ⟨rfl, HC.out.later ((Below.refl _ _).alloc (Nat.le_refl _) _), Turns.later ((Below.refl _ _).alloc (Nat.le_refl _) _)⟩
set_option maxHeartbeats 800000 in
theorem step_hi1 (gb gp ga gn gx pages : Nat) (l : List Int) (w : World) (hC : Caps w gb gp ga gn gx pages l) (n : Int) (h0 : 0 ≤ n) (h : 16 ≤ n) : Calls Try.prog 38 #[.agg #[.int .i64 (1), .int .i64 (n)], .pointer (some ⟨gb, 0, none⟩), .pointer (some ⟨gp, 0, none⟩), .pointer (some ⟨ga, 0, none⟩), .pointer (some ⟨gn, 0, none⟩)] w (StepRet w gb gp ga gn gx pages (l) (2)) := by
  have HC := Lib.hid hC
  have cb := hC.b.cell (k := 0) rfl
  have cp := hC.p.cell (k := 0) rfl
  have cn := hC.n.cell (k := 0) rfl
  have lb := hC.b.lt
  have lp := hC.p.lt
  have la := hC.a.lt
  have ln := hC.n.lt
  have lx := hC.x.lt
  obtain ⟨n1, n2, n3, n4, n5, n6, n7, n8, n9, n10⟩ := hC.ne
  clear hC
  go_enter Try.func38, Try.ntmps38
  go_wp2
  go_ret
  exact ⟨rfl, HC.out.later ((Below.refl _ _).alloc (Nat.le_refl _) _), Turns.later ((Below.refl _ _).alloc (Nat.le_refl _) _)⟩
set_option maxHeartbeats 800000 in
theorem step_hi2 (gb gp ga gn gx pages : Nat) (l : List Int) (w : World) (hC : Caps w gb gp ga gn gx pages l) (n : Int) (h0 : 0 ≤ n) (h : 16 ≤ n) : Calls Try.prog 38 #[.agg #[.int .i64 (2), .int .i64 (n)], .pointer (some ⟨gb, 0, none⟩), .pointer (some ⟨gp, 0, none⟩), .pointer (some ⟨ga, 0, none⟩), .pointer (some ⟨gn, 0, none⟩)] w (StepRet w gb gp ga gn gx pages (l) (2)) := by
  have HC := Lib.hid hC
  have cb := hC.b.cell (k := 0) rfl
  have cp := hC.p.cell (k := 0) rfl
  have cn := hC.n.cell (k := 0) rfl
  have lb := hC.b.lt
  have lp := hC.p.lt
  have la := hC.a.lt
  have ln := hC.n.lt
  have lx := hC.x.lt
  obtain ⟨n1, n2, n3, n4, n5, n6, n7, n8, n9, n10⟩ := hC.ne
  clear hC
  go_enter Try.func38, Try.ntmps38
  go_wp2
  go_ret
  exact ⟨rfl, HC.out.later ((Below.refl _ _).alloc (Nat.le_refl _) _), Turns.later ((Below.refl _ _).alloc (Nat.le_refl _) _)⟩
set_option maxHeartbeats 800000 in
theorem step_full (gb gp ga gn gx pages : Nat) (l : List Int) (w : World) (hC : Caps w gb gp ga gn gx pages l) (m : Nat) (hm : m < 16) (hl : l.length = pages) : Calls Try.prog 38 #[.agg #[.int .i64 (1), .int .i64 ((m : Int))], .pointer (some ⟨gb, 0, none⟩), .pointer (some ⟨gp, 0, none⟩), .pointer (some ⟨ga, 0, none⟩), .pointer (some ⟨gn, 0, none⟩)] w (StepRet w gb gp ga gn gx pages (l) (4)) := by
  have HC := Lib.hid hC
  have cb := hC.b.cell (k := 0) rfl
  have cp := hC.p.cell (k := 0) rfl
  have cn := hC.n.cell (k := 0) rfl
  have lb := hC.b.lt
  have lp := hC.p.lt
  have la := hC.a.lt
  have ln := hC.n.lt
  have lx := hC.x.lt
  obtain ⟨n1, n2, n3, n4, n5, n6, n7, n8, n9, n10⟩ := hC.ne
  clear hC
  have ht : ((l.length : Int) == (pages : Int)) = true := by simp; omega
  have i0 : (0 : Int) ≤ (m : Int) := by omega
  have i1 : ¬ (16 : Int) ≤ (m : Int) := by omega
  clear hl
  go_enter Try.func38, Try.ntmps38
  go_wp2
  go_ret
  exact ⟨rfl, HC.out.later ((Below.refl _ _).alloc (Nat.le_refl _) _), Turns.later ((Below.refl _ _).alloc (Nat.le_refl _) _)⟩
set_option maxHeartbeats 800000 in
theorem step_none2 (gb gp ga gn gx pages : Nat) (l : List Int) (w : World) (hC : Caps w gb gp ga gn gx pages l) (m : Nat) (hm : m < 16) (h : firstP (m : Int) l 0 = -1) : Calls Try.prog 38 #[.agg #[.int .i64 (2), .int .i64 ((m : Int))], .pointer (some ⟨gb, 0, none⟩), .pointer (some ⟨gp, 0, none⟩), .pointer (some ⟨ga, 0, none⟩), .pointer (some ⟨gn, 0, none⟩)] w (StepRet w gb gp ga gn gx pages (l) (3)) := by
  have ca := hC.a.cell (hcell (atL_at (l := l) hm))
  rw [h] at ca
  have HC := Lib.hid hC
  have cb := hC.b.cell (k := 0) rfl
  have cp := hC.p.cell (k := 0) rfl
  have cn := hC.n.cell (k := 0) rfl
  have lb := hC.b.lt
  have lp := hC.p.lt
  have la := hC.a.lt
  have ln := hC.n.lt
  have lx := hC.x.lt
  obtain ⟨n1, n2, n3, n4, n5, n6, n7, n8, n9, n10⟩ := hC.ne
  clear hC
  have i0 : (0 : Int) ≤ (m : Int) := by omega
  have i1 : ¬ (16 : Int) ≤ (m : Int) := by omega
  have i2 : (m : Int) < 16 := by omega
  clear h
  go_enter Try.func38, Try.ntmps38
  go_wp2
  go_ret
  exact ⟨rfl, HC.out.later ((Below.refl _ _).alloc (Nat.le_refl _) _), Turns.later ((Below.refl _ _).alloc (Nat.le_refl _) _)⟩
end Rmp
end Go.Proofs.Ytcndddjnlnigeaa
