/-
  Walk of ftl's do, program, read and live. Conditions: none beyond each theorem's own premises.
-/
import Derived.Test.YtjopiepfjbnkbaaGreatDoorFtM
import Derived.Test.YtjopiepfjbnkbaaGreatDoorNdW3
import Derived.Test.YtjopiepfjbnkbaaGreatDoorBase
import Derived.DeepKeys5
namespace Go.Proofs.YtjopiepfjbnkbaaGreatDoor
open Go.RowKit
set_option linter.unusedVariables false
namespace Ft
open Nd (B Rt RtB)

def tupAt (v : Value) (k : Nat) : Value := match v with
  | .tuple cs => cs.getD k undef
  | v => v
theorem tupAt_mk (cs : Array Value) (k : Nat) : tupAt (.tuple cs) k = cs.getD k undef := rfl
def smk (s : S) : Value := .agg #[.int .i64 (s.b : Int), .int .i64 (s.p : Int)]
def ienc (x : Int) : Value := .int .i64 x
abbrev dI (gd : Nat) (v : Value) (hd go ga : Nat) : It := .cells gd 91 [v, .int .i64 (hd : Int), .map (some go), .map (some ga)]
abbrev flI (A : Option Addr) (c : Nat) (fl : List B) : It := .row 95 6 (.slice A 8 c) 8 (fl.flatMap B.cells)
abbrev owI (go n : Nat) (ow : S → Option Int) : It := .map Tryz.prog 136 smk ienc go n ow
abbrev atI (ga n : Nat) (at_ : Int → Option S) : It := .map Tryz.prog 3 (Value.int .i64) smk ga n at_
theorem kint : KMk Tryz.prog 3 (Value.int .i64) (fun x => (Lit.int .i64 x).wf = true) := kmk_int Tryz.underlying3
theorem spot_row : (136 : TypeId) < Tryz.prog.types.size := of_decide_eq_true (by kernel_rfl)
theorem spot_law : WideMaps.KeyLaw Tryz.prog 136 := deep_law_laid laidOut (m := 3) (by omega) spot_row (by kernel_rfl) (by rw [Tryz.underlying136])
def SOk (s : S) : Prop := s.b < 8 ∧ s.p < 4
theorem spot_lit : ∀ (b : Fin 8) (p : Fin 4), (keyOf Tryz.prog 136 (.agg #[.int .i64 (b.1 : Int), .int .i64 (p.1 : Int)])).isSome = true := by decide +kernel
theorem kspot : KMk Tryz.prog 136 smk SOk :=
  ⟨Maps.Keyed.of_law spot_law, fun x y e => by
    obtain ⟨a, b⟩ := x
    obtain ⟨c, d⟩ := y
    simp only [smk, Value.agg.injEq, Array.mk.injEq, List.cons.injEq, Value.int.injEq, true_and, and_true] at e
    obtain ⟨e1, e2⟩ := e
    rw [show a = c by omega, show b = d by omega], fun x hx => Option.isSome_iff_exists.1 (spot_lit ⟨x.b, hx.1⟩ ⟨x.p, hx.2⟩)⟩
theorem iz (w : World) : (zeroValue 3).run Tryz.prog w = .ok (.int .i64 0) w := by kernel_rfl
theorem sz (w : World) : (zeroValue 136).run Tryz.prog w = .ok (.agg #[.int .i64 0, .int .i64 0]) w := by kernel_rfl

theorem wf_small {x : Int} (h0 : 0 ≤ x) (h1 : x < 100) : (Lit.int .i64 x).wf = true := WalkArith.wf_i64 (by omega)

/-- behind an operation that is done: the flash as it is then -/
def DoRet (w0 : World) (gd hd go ga : Nat) (out : List B) (R : List It) (v : Value) (en : Ending) (w' : World) : Prop :=
  en = .returned v ∧ ∃ A' c', 8 ≤ c' ∧ Sep w0 w' (dI gd (.slice A' 8 c') hd go ga :: flI A' c' out :: R)

set_option maxRecDepth 100000 in
set_option maxHeartbeats 3200000 in
theorem do_any (gd hd go ga : Nat) (A : Option Addr) (c : Nat) (fl out : List B) (o : Nd.Op) (n : Int) (R0 : List It) (w0 w : World) (hs : Sep w0 w (dI gd (.slice A 8 c) hd go ga :: flI A c fl :: R0)) (hrt : Rt fl) (hw : Nd.Way fl o out n 0) (hlo : out.length = 8) :
    Calls Tryz.prog 67 #[.pointer (some ⟨gd, 0, none⟩), .agg #[.int .i64 o.kind, .int .i64 o.block, .int .i64 o.page, .int .i64 o.data]] w (DoRet w0 gd hd go ga out R0 (.int .i64 n)) := by
  obtain ⟨R, gx, H1⟩ : ∃ (R : List It) (gx : Nat), gx = w.heap.size ∧ R = R0 ∧ Hid (Sep w0 (w.alloc (.cells #[.int .i64 o.kind, .int .i64 o.block, .int .i64 o.page, .int .i64 o.data] 169)) (dI gd (.slice A 8 c) hd go ga :: flI A c fl :: .cells gx 169 o.cells :: R)) :=
    ⟨R0, _, rfl, rfl, Lib.hid ((hs.new 169 o.cells).perm (by
      refine .cons _ (.cons _ ?_)
      exact (List.perm_append_comm (l₁ := [It.cells w.heap.size 169 o.cells]) (l₂ := R0)).trans (List.Perm.refl _)))⟩
  obtain ⟨hgx, rfl, HS⟩ := H1
  have HK : Hid (∀ W, Sep w0 W (dI gd (.slice A 8 c) hd go ga :: flI A c fl :: .cells gx 169 o.cells :: R) → Calls Tryz.prog 100 #[.slice A 8 c, .agg #[.int .i64 o.kind, .int .i64 o.block, .int .i64 o.page, .int .i64 o.data]] W
      (fun en w5 => ∃ A' c', 8 ≤ c' ∧ en = .returned (.tuple #[.slice A' 8 c', .int .i64 n, .int .i64 0]) ∧ Sep w0 w5 (dI gd (.slice A 8 c) hd go ga :: flI A' c' out :: .cells gx 169 o.cells :: R))) := Lib.hid (fun W H => by
    refine (Nd.step_yes A c fl out o n W (H.rd 1 rfl) hrt hw).mono ?_
    rintro en w5 ⟨A', c', hc', rfl, K⟩
    rw [hlo] at hc' K ⊢
    exact ⟨A', c', hc', rfl, (H.join K).swapAt 1 (by simp)⟩)
  clear hs hrt hw hlo
  go_enter Tryz.func67, Tryz.ntmps67
  go_upto_region 1 with (fail)
  rw [← hgx]
  clear hgx
  generalize w.alloc (.cells #[.int .i64 o.kind, .int .i64 o.block, .int .i64 o.page, .int .i64 o.data] 169) = wo at HS ⊢
  refine wp_region_inv0 (fun ac0 L ac w' => ∃ x5 x6 x7 x8 x9 x10 x11 x12 x13 x14 x15 x16 x17, ac = turn ac0 [(5, x5), (6, x6), (7, x7), (8, x8), (9, x9), (10, x10), (11, x11), (12, x12), (13, x13), (14, x14), (15, x15), (16, x16), (17, x17)] ∧ (L 0 = true → x9 = .pointer (some ⟨gd, 0, none⟩)) ∧ (L 1 = true → x10 = .pointer (some ⟨gd, 0, none⟩)) ∧ (L 2 = true → x11 = .pointer (some ⟨gd, 0, none⟩)) ∧ (L 3 = true → x12 = .slice A 8 c) ∧ (L 4 = true → x13 = .agg #[.int .i64 o.kind, .int .i64 o.block, .int .i64 o.page, .int .i64 o.data]) ∧ (L 6 = true → x8 = x14) ∧ (L 7 = true → x15 = tupAt x14 0) ∧ (L 8 = true → x16 = .int .i64 n) ∧ (L 9 = true → x17 = .int .i64 0) ∧ (L 10 = true → x5 = tupAt x14 0) ∧ (L 11 = true → x6 = .int .i64 n) ∧ (L 12 = true → x7 = .int .i64 0) ∧ (L 1 = true → L 0 = true) ∧ (L 2 = true → L 1 = true) ∧ (L 3 = true → L 2 = true) ∧ (L 5 = true → L 3 = true ∧ L 4 = true) ∧ (L 6 = true → L 5 = true) ∧ (L 7 = true → L 6 = true) ∧ (L 8 = true → L 6 = true) ∧ (L 9 = true → L 6 = true) ∧ (L 10 = true → L 0 = true ∧ L 1 = true ∧ L 2 = true ∧ L 3 = true ∧ L 4 = true ∧ L 5 = true ∧ L 6 = true ∧ L 7 = true) ∧ (L 11 = true → L 0 = true ∧ L 1 = true ∧ L 2 = true ∧ L 3 = true ∧ L 4 = true ∧ L 5 = true ∧ L 6 = true ∧ L 7 = true ∧ L 8 = true ∧ L 10 = true) ∧ (L 12 = true → L 0 = true ∧ L 1 = true ∧ L 2 = true ∧ L 3 = true ∧ L 4 = true ∧ L 5 = true ∧ L 6 = true ∧ L 7 = true ∧ L 8 = true ∧ L 9 = true ∧ L 10 = true ∧ L 11 = true) ∧ (if L 5 = true then (∃ A' c', 8 ≤ c' ∧ x14 = .tuple #[.slice A' 8 c', .int .i64 n, .int .i64 0] ∧ Sep w0 w' (dI gd (.slice A 8 c) hd go ga :: flI A' c' out :: .cells gx 169 o.cells :: R)) else Sep w0 w' (dI gd (.slice A 8 c) hd go ga :: flI A c fl :: .cells gx 169 o.cells :: R))) rfl (by kernel_rfl) ?_ ?_ ?_
  · simp only [turn, List.foldl_cons, List.foldl_nil, List.setIfInBounds_toArray, List.set_cons_succ, List.set_cons_zero]
    exact ⟨_, _, _, _, _, _, _, _, _, _, _, _, _, rfl, (fun h => absurd h (by decide)), (fun h => absurd h (by decide)), (fun h => absurd h (by decide)), (fun h => absurd h (by decide)), (fun h => absurd h (by decide)), (fun h => absurd h (by decide)), (fun h => absurd h (by decide)), (fun h => absurd h (by decide)), (fun h => absurd h (by decide)), (fun h => absurd h (by decide)), (fun h => absurd h (by decide)), (fun h => absurd h (by decide)), (fun h => absurd h (by decide)), (fun h => absurd h (by decide)), (fun h => absurd h (by decide)), (fun h => absurd h (by decide)), (fun h => absurd h (by decide)), (fun h => absurd h (by decide)), (fun h => absurd h (by decide)), (fun h => absurd h (by decide)), (fun h => absurd h (by decide)), (fun h => absurd h (by decide)), (fun h => absurd h (by decide)), by simpa using HS.out.drew⟩
  · rintro L ac w' i o ⟨x5, x6, x7, x8, x9, x10, x11, x12, x13, x14, x15, x16, x17, ha, p0, p1, p2, p3, p4, p6, p7, p8, p9, p10, p11, p12, q1, q2, q3, q5, q6, q7, q8, q9, q10, q11, q12, hS⟩ ho hi he
    simp only [turn, List.foldl_cons, List.foldl_nil, List.setIfInBounds_toArray, List.set_cons_succ, List.set_cons_zero] at ha ⊢
    subst ha
    rcases i with _|_|_|_|_|_|_|_|_|_|_|_|_|i
    all_goals cases ho
    all_goals simp [Region.binds] at he
    · have h1 : L 1 = false := by cases hh : L 1 with | false => rfl | true => (have hq := q1 hh; simp [hi] at hq)
      have h10 : L 10 = false := by cases hh : L 10 with | false => rfl | true => (have hq := q10 hh; simp [hi] at hq)
      have h11 : L 11 = false := by cases hh : L 11 with | false => rfl | true => (have hq := q11 hh; simp [hi] at hq)
      have h12 : L 12 = false := by cases hh : L 12 with | false => rfl | true => (have hq := q12 hh; simp [hi] at hq)
      have h2 : L 2 = false := by cases hh : L 2 with | false => rfl | true => (have hq := q2 hh; simp [h1] at hq)
      have h3 : L 3 = false := by cases hh : L 3 with | false => rfl | true => (have hq := q3 hh; simp [h2] at hq)
      have h5 : L 5 = false := by cases hh : L 5 with | false => rfl | true => (have hq := q5 hh; simp [h3] at hq)
      have h6 : L 6 = false := by cases hh : L 6 with | false => rfl | true => (have hq := q6 hh; simp [h5] at hq)
      have h7 : L 7 = false := by cases hh : L 7 with | false => rfl | true => (have hq := q7 hh; simp [h6] at hq)
      have h8 : L 8 = false := by cases hh : L 8 with | false => rfl | true => (have hq := q8 hh; simp [h6] at hq)
      have h9 : L 9 = false := by cases hh : L 9 with | false => rfl | true => (have hq := q9 hh; simp [h6] at hq)
      refine wpOp_step rfl (fun K hK => ?_)
      go_simp
      exact hK _ _ ⟨_, _, _, _, _, _, _, _, _, _, _, _, _, rfl, (fun _ => rfl), (by simp [h1]), (by simp [h2]), (by simp [h3]), (by first | exact p4 | exact fun _ => rfl), (by simp [h6]), (by simp [h7]), (by simp [h8]), (by simp [h9]), (by simp [h10]), (by simp [h11]), (by simp [h12]), (by simp [h1]), (by simp [h2]), (by simp [h3]), (by simp [h5]), (by simp [h6]), (by simp [h7]), (by simp [h8]), (by simp [h9]), (by simp [h10]), (by simp [h11]), (by simp [h12]), (by simpa [h1, h10, h11, h12, h2, h3, h5, h6, h7, h8, h9] using hS)⟩
    · have h2 : L 2 = false := by cases hh : L 2 with | false => rfl | true => (have hq := q2 hh; simp [hi] at hq)
      have h10 : L 10 = false := by cases hh : L 10 with | false => rfl | true => (have hq := q10 hh; simp [hi] at hq)
      have h11 : L 11 = false := by cases hh : L 11 with | false => rfl | true => (have hq := q11 hh; simp [hi] at hq)
      have h12 : L 12 = false := by cases hh : L 12 with | false => rfl | true => (have hq := q12 hh; simp [hi] at hq)
      have h3 : L 3 = false := by cases hh : L 3 with | false => rfl | true => (have hq := q3 hh; simp [h2] at hq)
      have h5 : L 5 = false := by cases hh : L 5 with | false => rfl | true => (have hq := q5 hh; simp [h3] at hq)
      have h6 : L 6 = false := by cases hh : L 6 with | false => rfl | true => (have hq := q6 hh; simp [h5] at hq)
      have h7 : L 7 = false := by cases hh : L 7 with | false => rfl | true => (have hq := q7 hh; simp [h6] at hq)
      have h8 : L 8 = false := by cases hh : L 8 with | false => rfl | true => (have hq := q8 hh; simp [h6] at hq)
      have h9 : L 9 = false := by cases hh : L 9 with | false => rfl | true => (have hq := q9 hh; simp [h6] at hq)
      obtain rfl := p0 (by simp [he])
      refine wpOp_step rfl (fun K hK => ?_)
      go_simp
      exact hK _ _ ⟨_, _, _, _, _, _, _, _, _, _, _, _, _, rfl, (by first | exact p0 | exact fun _ => rfl), (fun _ => rfl), (by simp [h2]), (by simp [h3]), (by first | exact p4 | exact fun _ => rfl), (by simp [h6]), (by simp [h7]), (by simp [h8]), (by simp [h9]), (by simp [h10]), (by simp [h11]), (by simp [h12]), (by simp [he]), (by simp [h2]), (by simp [h3]), (by simp [h5]), (by simp [h6]), (by simp [h7]), (by simp [h8]), (by simp [h9]), (by simp [h10]), (by simp [h11]), (by simp [h12]), (by simpa [h2, h10, h11, h12, h3, h5, h6, h7, h8, h9] using hS)⟩
    · have h3 : L 3 = false := by cases hh : L 3 with | false => rfl | true => (have hq := q3 hh; simp [hi] at hq)
      have h10 : L 10 = false := by cases hh : L 10 with | false => rfl | true => (have hq := q10 hh; simp [hi] at hq)
      have h11 : L 11 = false := by cases hh : L 11 with | false => rfl | true => (have hq := q11 hh; simp [hi] at hq)
      have h12 : L 12 = false := by cases hh : L 12 with | false => rfl | true => (have hq := q12 hh; simp [hi] at hq)
      have h5 : L 5 = false := by cases hh : L 5 with | false => rfl | true => (have hq := q5 hh; simp [h3] at hq)
      have h6 : L 6 = false := by cases hh : L 6 with | false => rfl | true => (have hq := q6 hh; simp [h5] at hq)
      have h7 : L 7 = false := by cases hh : L 7 with | false => rfl | true => (have hq := q7 hh; simp [h6] at hq)
      have h8 : L 8 = false := by cases hh : L 8 with | false => rfl | true => (have hq := q8 hh; simp [h6] at hq)
      have h9 : L 9 = false := by cases hh : L 9 with | false => rfl | true => (have hq := q9 hh; simp [h6] at hq)
      obtain rfl := p1 (by simp [he])
      refine wpOp_step rfl (fun K hK => ?_)
      go_simp
      exact hK _ _ ⟨_, _, _, _, _, _, _, _, _, _, _, _, _, rfl, (by first | exact p0 | exact fun _ => rfl), (by first | exact p1 | exact fun _ => rfl), (fun _ => rfl), (by simp [h3]), (by first | exact p4 | exact fun _ => rfl), (by simp [h6]), (by simp [h7]), (by simp [h8]), (by simp [h9]), (by simp [h10]), (by simp [h11]), (by simp [h12]), (by simpa using q1), (by simp [he]), (by simp [h3]), (by simp [h5]), (by simp [h6]), (by simp [h7]), (by simp [h8]), (by simp [h9]), (by simp [h10]), (by simp [h11]), (by simp [h12]), (by simpa [h3, h10, h11, h12, h5, h6, h7, h8, h9] using hS)⟩
    · have h5 : L 5 = false := by cases hh : L 5 with | false => rfl | true => (have hq := q5 hh; simp [hi] at hq)
      have h10 : L 10 = false := by cases hh : L 10 with | false => rfl | true => (have hq := q10 hh; simp [hi] at hq)
      have h11 : L 11 = false := by cases hh : L 11 with | false => rfl | true => (have hq := q11 hh; simp [hi] at hq)
      have h12 : L 12 = false := by cases hh : L 12 with | false => rfl | true => (have hq := q12 hh; simp [hi] at hq)
      have h6 : L 6 = false := by cases hh : L 6 with | false => rfl | true => (have hq := q6 hh; simp [h5] at hq)
      have h7 : L 7 = false := by cases hh : L 7 with | false => rfl | true => (have hq := q7 hh; simp [h6] at hq)
      have h8 : L 8 = false := by cases hh : L 8 with | false => rfl | true => (have hq := q8 hh; simp [h6] at hq)
      have h9 : L 9 = false := by cases hh : L 9 with | false => rfl | true => (have hq := q9 hh; simp [h6] at hq)
      obtain rfl := p2 (by simp [he])
      have f0 : w'.cell? ⟨gd, 0, none⟩ = some (.slice A 8 c) := by
        rw [if_neg (by simp [h5])] at hS
        exact hS.cell 0 rfl (k := 0) rfl
      refine wpOp_step rfl (fun K hK => ?_)
      go_simp
      exact hK _ _ ⟨_, _, _, _, _, _, _, _, _, _, _, _, _, rfl, (by first | exact p0 | exact fun _ => rfl), (by first | exact p1 | exact fun _ => rfl), (by first | exact p2 | exact fun _ => rfl), (fun _ => rfl), (by first | exact p4 | exact fun _ => rfl), (by simp [h6]), (by simp [h7]), (by simp [h8]), (by simp [h9]), (by simp [h10]), (by simp [h11]), (by simp [h12]), (by simpa using q1), (by simpa using q2), (by simp [he]), (by simp [h5]), (by simp [h6]), (by simp [h7]), (by simp [h8]), (by simp [h9]), (by simp [h10]), (by simp [h11]), (by simp [h12]), (by simpa [h5, h10, h11, h12, h6, h7, h8, h9] using hS)⟩
    · have h5 : L 5 = false := by cases hh : L 5 with | false => rfl | true => (have hq := q5 hh; simp [hi] at hq)
      have h10 : L 10 = false := by cases hh : L 10 with | false => rfl | true => (have hq := q10 hh; simp [hi] at hq)
      have h11 : L 11 = false := by cases hh : L 11 with | false => rfl | true => (have hq := q11 hh; simp [hi] at hq)
      have h12 : L 12 = false := by cases hh : L 12 with | false => rfl | true => (have hq := q12 hh; simp [hi] at hq)
      have h6 : L 6 = false := by cases hh : L 6 with | false => rfl | true => (have hq := q6 hh; simp [h5] at hq)
      have h7 : L 7 = false := by cases hh : L 7 with | false => rfl | true => (have hq := q7 hh; simp [h6] at hq)
      have h8 : L 8 = false := by cases hh : L 8 with | false => rfl | true => (have hq := q8 hh; simp [h6] at hq)
      have h9 : L 9 = false := by cases hh : L 9 with | false => rfl | true => (have hq := q9 hh; simp [h6] at hq)
      have f0 : w'.cell? ⟨gx, 0, none⟩ = some (.int .i64 o.kind) := by
        rw [if_neg (by simp [h5])] at hS
        exact hS.cell 2 rfl (k := 0) rfl
      have f1 : w'.cell? ⟨gx, 1, none⟩ = some (.int .i64 o.block) := by
        rw [if_neg (by simp [h5])] at hS
        exact hS.cell 2 rfl (k := 1) rfl
      have f2 : w'.cell? ⟨gx, 2, none⟩ = some (.int .i64 o.page) := by
        rw [if_neg (by simp [h5])] at hS
        exact hS.cell 2 rfl (k := 2) rfl
      have f3 : w'.cell? ⟨gx, 3, none⟩ = some (.int .i64 o.data) := by
        rw [if_neg (by simp [h5])] at hS
        exact hS.cell 2 rfl (k := 3) rfl
      refine wpOp_step rfl (fun K hK => ?_)
      go_simp
      exact hK _ _ ⟨_, _, _, _, _, _, _, _, _, _, _, _, _, rfl, (by first | exact p0 | exact fun _ => rfl), (by first | exact p1 | exact fun _ => rfl), (by first | exact p2 | exact fun _ => rfl), (by first | exact p3 | exact fun _ => rfl), (fun _ => rfl), (by simp [h6]), (by simp [h7]), (by simp [h8]), (by simp [h9]), (by simp [h10]), (by simp [h11]), (by simp [h12]), (by simpa using q1), (by simpa using q2), (by simpa using q3), (by simp [h5]), (by simp [h6]), (by simp [h7]), (by simp [h8]), (by simp [h9]), (by simp [h10]), (by simp [h11]), (by simp [h12]), (by simpa [h5, h10, h11, h12, h6, h7, h8, h9] using hS)⟩
    · have h6 : L 6 = false := by cases hh : L 6 with | false => rfl | true => (have hq := q6 hh; simp [hi] at hq)
      have h10 : L 10 = false := by cases hh : L 10 with | false => rfl | true => (have hq := q10 hh; simp [hi] at hq)
      have h11 : L 11 = false := by cases hh : L 11 with | false => rfl | true => (have hq := q11 hh; simp [hi] at hq)
      have h12 : L 12 = false := by cases hh : L 12 with | false => rfl | true => (have hq := q12 hh; simp [hi] at hq)
      have h7 : L 7 = false := by cases hh : L 7 with | false => rfl | true => (have hq := q7 hh; simp [h6] at hq)
      have h8 : L 8 = false := by cases hh : L 8 with | false => rfl | true => (have hq := q8 hh; simp [h6] at hq)
      have h9 : L 9 = false := by cases hh : L 9 with | false => rfl | true => (have hq := q9 hh; simp [h6] at hq)
      obtain rfl := p3 (by simp [he])
      obtain rfl := p4 (by simp [he])
      rw [if_neg (by simp [hi])] at hS
      refine wpOp_step rfl (fun K hK => ?_)
      go_simp
      refine (HK.out w' hS).mono ?_; rintro en w5 ⟨A', c', hc', rfl, hN⟩
      exact hK _ _ ⟨_, _, _, _, _, _, _, _, _, _, _, _, _, rfl, (by first | exact p0 | exact fun _ => rfl), (by first | exact p1 | exact fun _ => rfl), (by first | exact p2 | exact fun _ => rfl), (by first | exact p3 | exact fun _ => rfl), (by first | exact p4 | exact fun _ => rfl), (by simp [h6]), (by simp [h7]), (by simp [h8]), (by simp [h9]), (by simp [h10]), (by simp [h11]), (by simp [h12]), (by simpa using q1), (by simpa using q2), (by simpa using q3), (by simp [he]), (by simp [h6]), (by simp [h7]), (by simp [h8]), (by simp [h9]), (by simp [h10]), (by simp [h11]), (by simp [h12]), (by rw [if_pos (by simp)]; exact ⟨A', c', hc', rfl, hN⟩)⟩
    · have h7 : L 7 = false := by cases hh : L 7 with | false => rfl | true => (have hq := q7 hh; simp [hi] at hq)
      have h8 : L 8 = false := by cases hh : L 8 with | false => rfl | true => (have hq := q8 hh; simp [hi] at hq)
      have h9 : L 9 = false := by cases hh : L 9 with | false => rfl | true => (have hq := q9 hh; simp [hi] at hq)
      have h10 : L 10 = false := by cases hh : L 10 with | false => rfl | true => (have hq := q10 hh; simp [hi] at hq)
      have h11 : L 11 = false := by cases hh : L 11 with | false => rfl | true => (have hq := q11 hh; simp [hi] at hq)
      have h12 : L 12 = false := by cases hh : L 12 with | false => rfl | true => (have hq := q12 hh; simp [hi] at hq)
      refine wpOp_step rfl (fun K hK => ?_)
      go_simp
      exact hK _ _ ⟨_, _, _, _, _, _, _, _, _, _, _, _, _, rfl, (by first | exact p0 | exact fun _ => rfl), (by first | exact p1 | exact fun _ => rfl), (by first | exact p2 | exact fun _ => rfl), (by first | exact p3 | exact fun _ => rfl), (by first | exact p4 | exact fun _ => rfl), (fun _ => rfl), (by simp [h7]), (by simp [h8]), (by simp [h9]), (by simp [h10]), (by simp [h11]), (by simp [h12]), (by simpa using q1), (by simpa using q2), (by simpa using q3), (by simpa using q5), (by simp [he]), (by simp [h7]), (by simp [h8]), (by simp [h9]), (by simp [h10]), (by simp [h11]), (by simp [h12]), (by simpa [h7, h8, h9, h10, h11, h12] using hS)⟩
    · have h10 : L 10 = false := by cases hh : L 10 with | false => rfl | true => (have hq := q10 hh; simp [hi] at hq)
      have h11 : L 11 = false := by cases hh : L 11 with | false => rfl | true => (have hq := q11 hh; simp [hi] at hq)
      have h12 : L 12 = false := by cases hh : L 12 with | false => rfl | true => (have hq := q12 hh; simp [hi] at hq)
      obtain rfl := p6 (by simp [he])
      obtain ⟨A', c', e14⟩ : ∃ (A' : Option Addr) (c' : Nat), x8 = .tuple #[.slice A' 8 c', .int .i64 n, .int .i64 0] := by
        have z6 := q6 (by simp [he])
        rw [if_pos z6] at hS
        obtain ⟨A', c', _, e, _⟩ := hS
        exact ⟨A', c', e⟩
      subst e14
      refine wpOp_step rfl (fun K hK => ?_)
      go_simp
      exact hK _ _ ⟨_, _, _, _, _, _, _, _, _, _, _, _, _, rfl, (by first | exact p0 | exact fun _ => rfl), (by first | exact p1 | exact fun _ => rfl), (by first | exact p2 | exact fun _ => rfl), (by first | exact p3 | exact fun _ => rfl), (by first | exact p4 | exact fun _ => rfl), (by first | exact p6 | exact fun _ => rfl), (fun _ => rfl), (by first | exact p8 | exact fun _ => rfl), (by first | exact p9 | exact fun _ => rfl), (by simp [h10]), (by simp [h11]), (by simp [h12]), (by simpa using q1), (by simpa using q2), (by simpa using q3), (by simpa using q5), (by simpa using q6), (by simp [he]), (by simpa using q8), (by simpa using q9), (by simp [h10]), (by simp [h11]), (by simp [h12]), (by simpa [h10, h11, h12] using hS)⟩
    · have h11 : L 11 = false := by cases hh : L 11 with | false => rfl | true => (have hq := q11 hh; simp [hi] at hq)
      have h12 : L 12 = false := by cases hh : L 12 with | false => rfl | true => (have hq := q12 hh; simp [hi] at hq)
      obtain rfl := p6 (by simp [he])
      obtain ⟨A', c', e14⟩ : ∃ (A' : Option Addr) (c' : Nat), x8 = .tuple #[.slice A' 8 c', .int .i64 n, .int .i64 0] := by
        have z6 := q6 (by simp [he])
        rw [if_pos z6] at hS
        obtain ⟨A', c', _, e, _⟩ := hS
        exact ⟨A', c', e⟩
      subst e14
      refine wpOp_step rfl (fun K hK => ?_)
      go_simp
      exact hK _ _ ⟨_, _, _, _, _, _, _, _, _, _, _, _, _, rfl, (by first | exact p0 | exact fun _ => rfl), (by first | exact p1 | exact fun _ => rfl), (by first | exact p2 | exact fun _ => rfl), (by first | exact p3 | exact fun _ => rfl), (by first | exact p4 | exact fun _ => rfl), (by first | exact p6 | exact fun _ => rfl), (by first | exact p7 | exact fun _ => rfl), (fun _ => rfl), (by first | exact p9 | exact fun _ => rfl), (by first | exact p10 | exact fun _ => rfl), (by simp [h11]), (by simp [h12]), (by simpa using q1), (by simpa using q2), (by simpa using q3), (by simpa using q5), (by simpa using q6), (by simpa using q7), (by simp [he]), (by simpa using q9), (by simpa using q10), (by simp [h11]), (by simp [h12]), (by simpa [h11, h12] using hS)⟩
    · have h12 : L 12 = false := by cases hh : L 12 with | false => rfl | true => (have hq := q12 hh; simp [hi] at hq)
      obtain rfl := p6 (by simp [he])
      obtain ⟨A', c', e14⟩ : ∃ (A' : Option Addr) (c' : Nat), x8 = .tuple #[.slice A' 8 c', .int .i64 n, .int .i64 0] := by
        have z6 := q6 (by simp [he])
        rw [if_pos z6] at hS
        obtain ⟨A', c', _, e, _⟩ := hS
        exact ⟨A', c', e⟩
      subst e14
      refine wpOp_step rfl (fun K hK => ?_)
      go_simp
      exact hK _ _ ⟨_, _, _, _, _, _, _, _, _, _, _, _, _, rfl, (by first | exact p0 | exact fun _ => rfl), (by first | exact p1 | exact fun _ => rfl), (by first | exact p2 | exact fun _ => rfl), (by first | exact p3 | exact fun _ => rfl), (by first | exact p4 | exact fun _ => rfl), (by first | exact p6 | exact fun _ => rfl), (by first | exact p7 | exact fun _ => rfl), (by first | exact p8 | exact fun _ => rfl), (fun _ => rfl), (by first | exact p10 | exact fun _ => rfl), (by first | exact p11 | exact fun _ => rfl), (by simp [h12]), (by simpa using q1), (by simpa using q2), (by simpa using q3), (by simpa using q5), (by simpa using q6), (by simpa using q7), (by simpa using q8), (by simp [he]), (by simpa using q10), (by simpa using q11), (by simp [h12]), (by simpa [h12] using hS)⟩
    · have h11 : L 11 = false := by cases hh : L 11 with | false => rfl | true => (have hq := q11 hh; simp [hi] at hq)
      have h12 : L 12 = false := by cases hh : L 12 with | false => rfl | true => (have hq := q12 hh; simp [hi] at hq)
      obtain rfl := p7 (by simp [he])
      refine wpOp_step rfl (fun K hK => ?_)
      go_simp
      exact hK _ _ ⟨_, _, _, _, _, _, _, _, _, _, _, _, _, rfl, (by first | exact p0 | exact fun _ => rfl), (by first | exact p1 | exact fun _ => rfl), (by first | exact p2 | exact fun _ => rfl), (by first | exact p3 | exact fun _ => rfl), (by first | exact p4 | exact fun _ => rfl), (by first | exact p6 | exact fun _ => rfl), (by first | exact p7 | exact fun _ => rfl), (by first | exact p8 | exact fun _ => rfl), (by first | exact p9 | exact fun _ => rfl), (fun _ => rfl), (by simp [h11]), (by simp [h12]), (by simpa using q1), (by simpa using q2), (by simpa using q3), (by simpa using q5), (by simpa using q6), (by simpa using q7), (by simpa using q8), (by simpa using q9), (by simp [he]), (by simp [h11]), (by simp [h12]), (by simpa [h11, h12] using hS)⟩
    · have h12 : L 12 = false := by cases hh : L 12 with | false => rfl | true => (have hq := q12 hh; simp [hi] at hq)
      obtain rfl := p8 (by simp [he])
      refine wpOp_step rfl (fun K hK => ?_)
      go_simp
      exact hK _ _ ⟨_, _, _, _, _, _, _, _, _, _, _, _, _, rfl, (by first | exact p0 | exact fun _ => rfl), (by first | exact p1 | exact fun _ => rfl), (by first | exact p2 | exact fun _ => rfl), (by first | exact p3 | exact fun _ => rfl), (by first | exact p4 | exact fun _ => rfl), (by first | exact p6 | exact fun _ => rfl), (by first | exact p7 | exact fun _ => rfl), (by first | exact p8 | exact fun _ => rfl), (by first | exact p9 | exact fun _ => rfl), (by first | exact p10 | exact fun _ => rfl), (fun _ => rfl), (by simp [h12]), (by simpa using q1), (by simpa using q2), (by simpa using q3), (by simpa using q5), (by simpa using q6), (by simpa using q7), (by simpa using q8), (by simpa using q9), (by simpa using q10), (by simp [he]), (by simp [h12]), (by simpa [h12] using hS)⟩
    · obtain rfl := p9 (by simp [he])
      refine wpOp_step rfl (fun K hK => ?_)
      go_simp
      exact hK _ _ ⟨_, _, _, _, _, _, _, _, _, _, _, _, _, rfl, (by first | exact p0 | exact fun _ => rfl), (by first | exact p1 | exact fun _ => rfl), (by first | exact p2 | exact fun _ => rfl), (by first | exact p3 | exact fun _ => rfl), (by first | exact p4 | exact fun _ => rfl), (by first | exact p6 | exact fun _ => rfl), (by first | exact p7 | exact fun _ => rfl), (by first | exact p8 | exact fun _ => rfl), (by first | exact p9 | exact fun _ => rfl), (by first | exact p10 | exact fun _ => rfl), (by first | exact p11 | exact fun _ => rfl), (fun _ => rfl), (by simpa using q1), (by simpa using q2), (by simpa using q3), (by simpa using q5), (by simpa using q6), (by simpa using q7), (by simpa using q8), (by simpa using q9), (by simpa using q10), (by simpa using q11), (by simp [he]), (by simpa using hS)⟩
  · rintro L ac w' ⟨x5, x6, x7, x8, x9, x10, x11, x12, x13, x14, x15, x16, x17, ha, p0, p1, p2, p3, p4, p6, p7, p8, p9, p10, p11, p12, q1, q2, q3, q5, q6, q7, q8, q9, q10, q11, q12, hS⟩ hall
    have t5 := hall 5 (by decide)
    rw [if_pos t5] at hS
    obtain ⟨A', c', hc', rfl, hS⟩ := hS
    obtain rfl := p0 (hall 0 (by decide))
    obtain rfl := p1 (hall 1 (by decide))
    obtain rfl := p2 (hall 2 (by decide))
    obtain rfl := p3 (hall 3 (by decide))
    obtain rfl := p4 (hall 4 (by decide))
    obtain rfl := p6 (hall 6 (by decide))
    obtain rfl := p7 (hall 7 (by decide))
    obtain rfl := p8 (hall 8 (by decide))
    obtain rfl := p9 (hall 9 (by decide))
    obtain rfl := p10 (hall 10 (by decide))
    obtain rfl := p11 (hall 11 (by decide))
    obtain rfl := p12 (hall 12 (by decide))
    simp only [turn, List.foldl_cons, List.foldl_nil, List.setIfInBounds_toArray, List.set_cons_succ, List.set_cons_zero] at ha
    subst ha
    clear q1 q2 q3 q5 q6 q7 q8 q9 q10 q11 q12  t5
    have H9 := Lib.hid hS
    clear hS
    simp only [tupAt_mk]
    have e0 := H9.out.cell 0 rfl (k := 0) rfl
    have u0 := H9.out.froz 0 rfl (k := 0)
    have H8 := Lib.hid (H9.out.set 0 rfl (k := 0) (.slice A' 8 c'))
    go_wp2
    go_ret
    exact ⟨rfl, A', c', hc', H8.out.sub (.cons_cons _ (.cons_cons _ (.cons _ (.refl _))))⟩
end Ft
end Go.Proofs.YtjopiepfjbnkbaaGreatDoor
