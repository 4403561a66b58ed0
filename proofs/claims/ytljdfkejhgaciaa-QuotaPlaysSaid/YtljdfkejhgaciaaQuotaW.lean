/-
  Walks of package quota: check and do. Conditions: none.
-/
import Derived.Test.YtljdfkejhgaciaaQuotaM
import Derived.Test.YtljdfkejhgaciaaBlk
import Derived.Shelf.Abstract
namespace Go.Proofs.Ytljdfkejhgaciaa
open Go.RowKit Go.Shelf
set_option linter.unusedVariables false
namespace Quota

def Q.val (q : Q) : Value := .agg #[.int .i64 q.kind, .int .i64 q.user, .int .i64 q.to, .int .i64 q.n]
def Q.cells (q : Q) : List Value := [.int .i64 q.kind, .int .i64 q.user, .int .i64 q.to, .int .i64 q.n]
theorem Q.len : ∀ q : Q, q.cells.length = 4 := fun _ => rfl
def wrongB (n : Int) : Bool := decide (n < 0) || decide (6 ≤ n)
theorem wrong_lo {n : Int} (h : n < 0) : wrongB n = true := by simp [wrongB, h]
theorem wrong_hi {n : Int} (h : 6 ≤ n) : wrongB n = true := by simp [wrongB, h]
theorem wrong_ok {n : Int} (h : 0 ≤ n) (h' : n < 6) : wrongB n = false := by simp [wrongB]; omega
theorem ne4 {k : Int} (h : k < 4) : (k == 4) = false := by simp; omega
theorem castlt {a : Nat} (h : a < 6) : (0 : Int) ≤ (a : Int) ∧ (a : Int) < 6 := by omega
theorem bne_of {x y : Int} (h : (x == y) = false) : (x != y) = true := by rw [bne, h]; rfl
theorem castlt0 {a : Nat} (h : a < 6) : (0 : Int) ≤ (a : Int) := by omega
theorem castlt1 {a : Nat} (h : a < 6) : (a : Int) < 6 := by omega
theorem hcell {l : List Int} {k : Nat} {x : Int} (h : l[k]? = some x) : (l.flatMap icell)[k]? = some (.int .i64 x) := by rw [icell_at, h]; rfl

theorem wrong_any (n : Int) (w : World) : Calls Try.prog 39 #[.int .i64 n] w fun e w' => e = .returned (.bool (wrongB n)) ∧ w = w' := by
  by_cases h : n < 0
  · rw [wrong_lo h]
    go_enter Try.func39, Try.ntmps39
    go_wp2
    go_ret
    exact ⟨rfl, rfl⟩
  · by_cases h' : 6 ≤ n
    · rw [wrong_hi h']
      go_enter Try.func39, Try.ntmps39
      go_wp2
      go_ret
      exact ⟨rfl, rfl⟩
    · rw [wrong_ok (by omega) (by omega)]
      go_enter Try.func39, Try.ntmps39
      go_wp2
      go_ret
      exact ⟨rfl, rfl⟩

set_option maxHeartbeats 2000000 in
theorem check_any (g t : Nat) (l l' : List Int) (q : Q) (e : Int) (w : World) (hg : Blk w g t (l.flatMap icell)) (hW : Way l q e l') :
    Calls Try.prog 37 #[.pointer (some ⟨g, 0, none⟩), q.val] w (Ret w (.int .i64 e)) := by
  have HG := Lib.hid hg
  have hlt := hg.lt
  have eg : ∀ args w, (callFunc 39 args).run Try.prog w = .ok (.enter 39 args) w := enters_of Try.func39 (by kernel_rfl) rfl
  clear hg
  obtain ⟨qk, qu, qt, qn⟩ := q
  unfold Q.val
  simp only
  have f0 : ∀ z : LaterOf (w.alloc (.cells #[.int .i64 qk, .int .i64 qu, .int .i64 qt, .int .i64 qn] 76)), z.w.cell? ⟨w.heap.size, 0, none⟩ = some (.int .i64 qk) := fun z => z.new_ 0 rfl
  have f1 : ∀ z : LaterOf (w.alloc (.cells #[.int .i64 qk, .int .i64 qu, .int .i64 qt, .int .i64 qn] 76)), z.w.cell? ⟨w.heap.size, 1, none⟩ = some (.int .i64 qu) := fun z => z.new_ 1 rfl
  have f2 : ∀ z : LaterOf (w.alloc (.cells #[.int .i64 qk, .int .i64 qu, .int .i64 qt, .int .i64 qn] 76)), z.w.cell? ⟨w.heap.size, 2, none⟩ = some (.int .i64 qt) := fun z => z.new_ 2 rfl
  have f3 : ∀ z : LaterOf (w.alloc (.cells #[.int .i64 qk, .int .i64 qu, .int .i64 qt, .int .i64 qn] 76)), z.w.cell? ⟨w.heap.size, 3, none⟩ = some (.int .i64 qn) := fun z => z.new_ 3 rfl
  have old : ∀ (k : Nat) (x : Int), l[k]? = some x → ∀ z : LaterOf (w.alloc (.cells #[.int .i64 qk, .int .i64 qu, .int .i64 qt, .int .i64 qn] 76)), z.w.cell? ⟨g, k, none⟩ = some (.int .i64 x) := fun k x h z => z.old (HG.out.cell (hcell h))
  have HXB : Below w.heap.size w (w.alloc (.cells #[.int .i64 qk, .int .i64 qu, .int .i64 qt, .int .i64 qn] 76)) := (Below.refl _ _).alloc (Nat.le_refl _) _
  rcases hW with ⟨h⟩ | ⟨h0, h⟩ | ⟨h0, h1, h⟩ | ⟨h0, h1, h2, h⟩ | ⟨h2, h3, h⟩ | ⟨h2, h3, h4, h⟩ | ⟨h0, h1, h2, h3, h⟩ | ⟨h0, h1, h2, h3, h4, h⟩ | ⟨h2, h3, h5, h6, h⟩ | ⟨h2, h3, h5, h6, h4, h⟩ | ⟨ha, h4, h5, hl⟩ | ⟨ha, h4, h5, hu, hl, hu0, hu1, hl0, hl1, h, h'⟩ | ⟨ha, h4, h5, hu, hl, hu0, hu1, hl0, hl1, h, h'⟩ | ⟨ha, h4, h5, hu, hu0, hu1, h⟩ | ⟨ha, h4, h5, hu, hu0, hu1, h⟩ | ⟨ha, hb, h4, h5, hu, hu0, hu1, h⟩ | ⟨ha, hb, h4, h5, hu, hu0, hu1, h, hne, hu', hl, hu0', hu1', hl0, hl1, hf, hf'⟩ | ⟨ha, hb, h4, h5, hu, hu0, hu1, h, hne, hne', hu', hl, hu0', hu1', hl0, hl1, hf, hf'⟩ | ⟨ha, h4, h5, hu, hu0, hu1, h⟩
  all_goals
    try have i0 := castlt0 ha
    try have i1 := castlt1 ha
    try have j0 := castlt0 hb
    try have j1 := castlt1 hb
    try have q1 := wrong_lo h
    try have q2 := wrong_hi h
    try have q3 := wrong_ok h2 h3
    try have q4 := wrong_ok h5 h6
    try have q5 := wrong_ok i0 i1
    try have q6 := wrong_ok j0 j1
    try have q7 := ne4 h1
    try have q8 := bne_of hne
    try have d1 := old _ _ hu
    try have d2 := old _ _ hl
    try have d3 := old _ _ hu'
    try clear hu
    try clear hl
    try clear hu'
    clear old
    go_enter Try.func37, Try.ntmps37
    go_wp2_with (go_at_fn 39; refine (wrong_any _ _).mono ?_; rintro e w1 ⟨rfl, rfl⟩)
    try (refine wp_region_later (by kernel_rfl) (by kernel_rfl) ?_; (repeat (go_big_quiet_step (fail))); refine wpQuiet_nil ?_; intro xw hw'; obtain ⟨xq, hw''⟩ := hw'; obtain ⟨xw0, xh⟩ := xq; change xw = xw0 at hw''; subst hw''; (have f0' := fun (z : LaterOf xw) => (f0 ⟨z.w, xh.trans (z.h.mono xh.size)⟩ : z.w.cell? _ = _); clear f0; have f0 := f0'; clear f0'; have f1' := fun (z : LaterOf xw) => (f1 ⟨z.w, xh.trans (z.h.mono xh.size)⟩ : z.w.cell? _ = _); clear f1; have f1 := f1'; clear f1'; have f2' := fun (z : LaterOf xw) => (f2 ⟨z.w, xh.trans (z.h.mono xh.size)⟩ : z.w.cell? _ = _); clear f2; have f2 := f2'; clear f2'; have f3' := fun (z : LaterOf xw) => (f3 ⟨z.w, xh.trans (z.h.mono xh.size)⟩ : z.w.cell? _ = _); clear f3; have f3 := f3'; clear f3'; (try (have d1' := fun (z : LaterOf xw) => (d1 ⟨z.w, xh.trans (z.h.mono xh.size)⟩ : z.w.cell? _ = _); clear d1; have d1 := d1'; clear d1')); (try (have d2' := fun (z : LaterOf xw) => (d2 ⟨z.w, xh.trans (z.h.mono xh.size)⟩ : z.w.cell? _ = _); clear d2; have d2 := d2'; clear d2')); (try (have d3' := fun (z : LaterOf xw) => (d3 ⟨z.w, xh.trans (z.h.mono xh.size)⟩ : z.w.cell? _ = _); clear d3; have d3 := d3'; clear d3')); have HXB' := HXB.trans (xh.mono HXB.size); clear HXB; have HXB := HXB'; clear HXB'); go_wp2)
    try (refine wp_region_later (by kernel_rfl) (by kernel_rfl) ?_; (repeat (go_big_quiet_step (fail))); refine wpQuiet_nil ?_; intro xw hw'; obtain ⟨xq, hw''⟩ := hw'; obtain ⟨xw0, xh⟩ := xq; change xw = xw0 at hw''; subst hw''; (have f0' := fun (z : LaterOf xw) => (f0 ⟨z.w, xh.trans (z.h.mono xh.size)⟩ : z.w.cell? _ = _); clear f0; have f0 := f0'; clear f0'; have f1' := fun (z : LaterOf xw) => (f1 ⟨z.w, xh.trans (z.h.mono xh.size)⟩ : z.w.cell? _ = _); clear f1; have f1 := f1'; clear f1'; have f2' := fun (z : LaterOf xw) => (f2 ⟨z.w, xh.trans (z.h.mono xh.size)⟩ : z.w.cell? _ = _); clear f2; have f2 := f2'; clear f2'; have f3' := fun (z : LaterOf xw) => (f3 ⟨z.w, xh.trans (z.h.mono xh.size)⟩ : z.w.cell? _ = _); clear f3; have f3 := f3'; clear f3'; (try (have d1' := fun (z : LaterOf xw) => (d1 ⟨z.w, xh.trans (z.h.mono xh.size)⟩ : z.w.cell? _ = _); clear d1; have d1 := d1'; clear d1')); (try (have d2' := fun (z : LaterOf xw) => (d2 ⟨z.w, xh.trans (z.h.mono xh.size)⟩ : z.w.cell? _ = _); clear d2; have d2 := d2'; clear d2')); (try (have d3' := fun (z : LaterOf xw) => (d3 ⟨z.w, xh.trans (z.h.mono xh.size)⟩ : z.w.cell? _ = _); clear d3; have d3 := d3'; clear d3')); have HXB' := HXB.trans (xh.mono HXB.size); clear HXB; have HXB := HXB'; clear HXB'); go_wp2)
    try (refine wp_region_later (by kernel_rfl) (by kernel_rfl) ?_; (repeat (go_big_quiet_step (fail))); refine wpQuiet_nil ?_; intro xw hw'; obtain ⟨xq, hw''⟩ := hw'; obtain ⟨xw0, xh⟩ := xq; change xw = xw0 at hw''; subst hw''; (have f0' := fun (z : LaterOf xw) => (f0 ⟨z.w, xh.trans (z.h.mono xh.size)⟩ : z.w.cell? _ = _); clear f0; have f0 := f0'; clear f0'; have f1' := fun (z : LaterOf xw) => (f1 ⟨z.w, xh.trans (z.h.mono xh.size)⟩ : z.w.cell? _ = _); clear f1; have f1 := f1'; clear f1'; have f2' := fun (z : LaterOf xw) => (f2 ⟨z.w, xh.trans (z.h.mono xh.size)⟩ : z.w.cell? _ = _); clear f2; have f2 := f2'; clear f2'; have f3' := fun (z : LaterOf xw) => (f3 ⟨z.w, xh.trans (z.h.mono xh.size)⟩ : z.w.cell? _ = _); clear f3; have f3 := f3'; clear f3'; (try (have d1' := fun (z : LaterOf xw) => (d1 ⟨z.w, xh.trans (z.h.mono xh.size)⟩ : z.w.cell? _ = _); clear d1; have d1 := d1'; clear d1')); (try (have d2' := fun (z : LaterOf xw) => (d2 ⟨z.w, xh.trans (z.h.mono xh.size)⟩ : z.w.cell? _ = _); clear d2; have d2 := d2'; clear d2')); (try (have d3' := fun (z : LaterOf xw) => (d3 ⟨z.w, xh.trans (z.h.mono xh.size)⟩ : z.w.cell? _ = _); clear d3; have d3 := d3'; clear d3')); have HXB' := HXB.trans (xh.mono HXB.size); clear HXB; have HXB := HXB'; clear HXB'); go_wp2)
    all_goals (go_ret; exact Ret.mk rfl HXB)
end Quota
end Go.Proofs.Ytljdfkejhgaciaa
