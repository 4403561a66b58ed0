/-
  Walks of slices.Values and of the collecting of what it hands on, at blocks of a heap. Conditions: none beyond each theorem's own premises.
-/
import Derived.Test.YtfljbiobiobamabHpW
import Derived.Test.YtfljbiobiobamabIter
namespace Go.Proofs.Ytfljbiobiobamab
open Go.RowKit
set_option linter.unusedVariables false
attribute [local go_sem] Oper.semAt_some
namespace Hk
abbrev wv (x : Hp.W) : Value := .agg #[.int .i64 x.id, .int .i64 x.wear]

theorem rd_cells {u w : World} {B n k : Nat} {A : Option Addr} {l : List Hp.W} {x : Hp.W} (h : Rd w B 2 A n (l.flatMap Hp.W.cells)) (hn : 0 < n) (hb : Below B w u) (hx : l[k]? = some x) :
    ∃ b off, A = some ⟨b, off, none⟩ ∧ u.cell? ⟨b, off + k * 2, none⟩ = some (.int .i64 x.id) ∧ u.cell? ⟨b, off + k * 2 + 1, none⟩ = some (.int .i64 x.wear) := by
  obtain ⟨b, off, rfl, hbB, hc⟩ := h.at_ Hp.W.len hn
  exact ⟨b, off, rfl, (hb.cell (p := ⟨b, off + k * 2, none⟩) hbB).trans (hc k 0 x _ hx rfl), (hb.cell (p := ⟨b, off + k * 2 + 1, none⟩) hbB).trans (hc k 1 x _ hx rfl)⟩

set_option maxRecDepth 100000 in
set_option maxHeartbeats 2000000 in
theorem values1_in (F : Fence) (n : Nat) (hF : F.fn 48) (hro : F.round = none) (hn : 1 ≤ n) (l Bs n₀ B0 : Nat) (A : Option Addr) (len cap : Nat) (xs : List Hp.W) (hlen : xs.length = len) (hbig : len ≤ 9223372036854775807) (J Jx : List Hp.W → World → Prop) (hJ : AbidesFrom B0 J)
    (hY : ∀ pre x u, J pre u → pre.length < len → YieldAt F (n - 1) Try.prog l #[wv x] u fun e u' =>
      (e = .returned (.bool true) ∧ J (pre ++ [x]) u' ∧ Below n₀ u u') ∨ (e = .returned (.bool false) ∧ Jx (pre ++ [x]) u'))
    (w : World) (hn0 : n₀ ≤ w.heap.size) (hBs : w.cell? ⟨Bs, 0, none⟩ = some (.slice A len cap)) (hR : Rd w n₀ 2 A len (xs.flatMap Hp.W.cells)) (h0 : J [] w) :
    CallsIn F n Try.prog 48 #[.func (.yield l) #[] #[], .pointer (some ⟨Bs, 0, none⟩)] w fun e u => (∃ v, e = .returned v) ∧
      ((∃ ys, ys = xs ∧ J ys u) ∨ (∃ pre, pre <+: xs ∧ Jx pre u)) := by
  refine callsIn_of_wp Try.func48 rfl hF ?_ hro
  simp only [Try.ntmps48, List.size_toArray, List.length_cons, List.length_nil, Nat.reduceAdd, Nat.reduceSub, Array.replicate_succ, Array.replicate_zero, List.push_toArray, List.append_toArray, List.nil_append, List.cons_append]
  gi_wp2
  gi_loopw [7] (fun i wr => ∃ k : Nat, k ≤ len ∧ i = .int .i64 k ∧ J (xs.take k) wr ∧ Below n₀ w wr ∧ n₀ ≤ wr.heap.size)
    (fun i _ => len - (intOf i).toNat)
  case atStart => exact ⟨0, Nat.zero_le _, rfl, by simpa using h0, Below.refl _ _, hn0⟩
  case round =>
    obtain ⟨k, hk, rfl, hJs, hnx, hnr⟩ := hrel
    by_cases hlt : k < len
    · obtain ⟨x, hx⟩ : ∃ x, xs[k]? = some x := ⟨_, List.getElem?_eq_getElem (by rw [hlen]; exact hlt)⟩
      obtain ⟨b, off, rfl, c0, c1⟩ := rd_cells hR (by omega) hnx hx
      have hJa : J (xs.take k) (wr.alloc (.cells #[.int .i64 x.id, .int .i64 x.wear] 25)) := hJ _ _ _ none hJs (World.grownBy_alloc wr _ none) (fun r e => by cases e)
      obtain ⟨fn, tmps, assign, body, hy, hR'⟩ := hY (xs.take k) x _ hJa (by rw [List.length_take]; omega)
      have i0 : (0 : Int) ≤ (k : Int) := by omega
      have i1 : (k : Int) < (len : Int) := by omega
      have hta : xs.take k ++ [x] = xs.take (k + 1) := by rw [List.take_add_one, hx]; rfl
      have hB1 : Below n₀ w (wr.alloc (.cells #[.int .i64 x.id, .int .i64 x.wear] 25)) := hnx.alloc hnr _
      gi_wp2
      refine hR'.mono ?_
      rintro e W3 (⟨rfl, hJ3, hk3⟩ | ⟨rfl, hJx3⟩)
      · rw [hta] at hJ3
        gi_wp2
        go_roundw
        case rel => exact ⟨k + 1, by omega, by simp, hJ3, hB1.trans hk3, Nat.le_trans hnr (Nat.le_trans (by simp) hk3.size)⟩
        case measure => simp [intOf]; omega
      · rw [hta] at hJx3
        gi_wp2
        refine bodyPost_ret (results_none rfl _ _ _) rfl ?_
        exact ⟨⟨_, rfl⟩, .inr ⟨_, List.take_prefix _ _, hJx3⟩⟩
    · obtain rfl : k = len := by omega
      gi_wp2
      go_end0
      exact ⟨⟨_, rfl⟩, .inl ⟨_, List.take_of_length_le (by omega), hJs⟩⟩

theorem values_stops (F : Fence) (n : Nat) (hF : F.fn 48) (hro : F.round = none) (hn : 1 ≤ n) (Bs n₀ : Nat) (A : Option Addr) (len cap : Nat) (xs : List Hp.W) (hlen : xs.length = len) (hbig : len ≤ 9223372036854775807) (w : World) (hBs : Bs < w.heap.size) (hn₀ : n₀ ≤ w.heap.size)
    (hc : w.cell? ⟨Bs, 0, none⟩ = some (.slice A len cap)) (hR : Rd w n₀ 2 A len (xs.flatMap Hp.W.cells)) :
    SeqStopsK F n Try.prog 48 #[.pointer (some ⟨Bs, 0, none⟩)] (fun x : Hp.W => #[wv x]) (Below n₀) (fun ys => ys = xs) (fun pre => pre <+: xs) len w := fun l J Jx u hu hJ _ hY h0 =>
  values1_in F n hF hro hn l Bs n₀ u.heap.size A len cap xs hlen hbig J Jx hJ hY u (Nat.le_trans hn₀ hu.size) ((hu.cell (p := ⟨Bs, 0, none⟩) hBs).trans hc) (hR.below (hu.mono hn₀)) h0

/-- what the loop's body finds between two rounds -/
def AtI (w : World) (pre : List Hp.W) (u : World) : Prop := ∃ (q : Option Addr × Nat), Sep w u [.cells w.heap.size 22 [.slice q.1 pre.length q.2], .row 25 2 (.slice q.1 pre.length q.2) pre.length (pre.flatMap Hp.W.cells)]
def AtX (w : World) (T : Nat → Array Value) (x : Hp.W) (a : Act) (u : World) : Prop := ∃ Bx, Sep w u [.cells Bx 25 x.cells] ∧ a = { tmps := T Bx, defers := [] }
theorem atI_own (w : World) (B : Nat) (hB : w.heap.size ≤ B) : OwnFrom B (AtI w) :=
  own_ex (γ := Option Addr × Nat) (I := fun q (pre : List Hp.W) u => Sep w u [.cells w.heap.size 22 [.slice q.1 pre.length q.2], .row 25 2 (.slice q.1 pre.length q.2) pre.length (pre.flatMap Hp.W.cells)]) fun q =>
    sep_own hB (fun pre : List Hp.W => [.cells w.heap.size 22 [.slice q.1 pre.length q.2], .row 25 2 (.slice q.1 pre.length q.2) pre.length (pre.flatMap Hp.W.cells)]) fun pre x hx => by
      simp only [List.mem_cons, List.not_mem_nil, or_false] at hx
      rcases hx with rfl | rfl
      · exact cellIt_cells _ _ _
      · exact cellIt_row _ _ _ _ _
theorem atX_own (w : World) (T : Nat → Array Value) (x : Hp.W) (a : Act) (B : Nat) (hB : w.heap.size ≤ B) : OwnFrom B (fun (_ : Unit) u => AtX w T x a u) :=
  own_ex (γ := Nat) (I := fun Bx (_ : Unit) u => Sep w u [.cells Bx 25 x.cells] ∧ a = { tmps := T Bx, defers := [] }) fun Bx =>
    OwnFrom.and (sep_own hB (fun _ : Unit => [.cells Bx 25 x.cells]) fun _ y hy => by
      simp only [List.mem_cons, List.not_mem_nil, or_false] at hy
      subst hy
      exact cellIt_cells _ _ _) (ownFrom_pure B (fun _ => a = { tmps := T Bx, defers := [] }))

set_option maxRecDepth 100000 in
set_option maxHeartbeats 2000000 in
theorem appendSeq_in (F : Fence) (n : Nat) (h58 : F.fn 58) (h48 : F.fn 48) (hro : F.round = none) (hn : 6 ≤ n) (Bs : Nat) (A : Option Addr) (len cap : Nat) (xs : List Hp.W) (hlen : xs.length = len) (hbig : len * 16 ≤ 140737488355328) (w : World)
    (hc : w.cell? ⟨Bs, 0, none⟩ = some (.slice A len cap)) (hR : Rd w w.heap.size 2 A len (xs.flatMap Hp.W.cells)) :
    CallsIn F n Try.prog 58 #[.slice none 0 0, .func (.func 48) #[] #[.pointer (some ⟨Bs, 0, none⟩)]] w (SliceRet w 25 2 len (xs.flatMap Hp.W.cells)) := by
  obtain ⟨ti, hti, t0, t1, t2⟩ := info_parts Hp.worn_info
  have h1 : 1 ≤ n := by omega
  have hBs : Bs < w.heap.size := World.block_lt_of_cell? w _ hc
  refine callsIn_of_wp_marks Try.func58 rfl h58 ?_ hro
  simp only [Try.ntmps58, List.size_toArray, List.length_cons, List.length_nil, Nat.reduceAdd, Nat.reduceSub, Array.replicate_succ, Array.replicate_zero, List.push_toArray, List.append_toArray, List.nil_append, List.cons_append]
  gi_wp2
  have hB0 : Below w.heap.size w (w.alloc (.cells #[.slice none 0 0] 22)) := (Below.refl _ w).alloc (Nat.le_refl _) _
  have hI0 : AtI w [] (w.alloc (.cells #[.slice none 0 0] 22)) := ⟨(none, 0), ((Sep.nil_ w).new 22 [.slice none 0 0]).nilRow 25 2 none⟩
  have hsz : (w.alloc (.cells #[.slice none 0 0] 22)).heap.size = w.heap.size + 1 := by simp
  obtain ⟨u0, hu0⟩ : ∃ u0, w.alloc (.cells #[.slice none 0 0] 22) = u0 := ⟨_, rfl⟩
  rw [hu0] at hB0 hI0 hsz ⊢
  clear hu0
  refine wpIn_rangeFunc_ownH hro h1 (gf := 48) (lb := #[.pointer (some ⟨Bs, 0, none⟩)]) rfl h48 (enters_of Try.func48 (by kernel_rfl) rfl)
    (values_stops F (n - 1) h48 hro (by omega) Bs w.heap.size A len cap xs hlen (by omega) u0 (by omega) (by omega) ((hB0.cell (p := ⟨Bs, 0, none⟩) hBs).trans hc) (hR.below hB0)) belowK_t (belowK_b (by omega)) (Below.refl _ _) (fun _ => rfl)
    (AtI w) (fun _ _ _ => False) (atI_own w _ (by omega)) (fun _ _ _ _ _ hs _ _ => hs) hI0
    (fun x a' u => AtX w (fun Bx => #[.slice none 0 0, .func (.func 48) #[] #[.pointer (some ⟨Bs, 0, none⟩)], .pointer (some ⟨w.heap.size, 0, none⟩), undef, .slice none 0 0, .pointer (some ⟨Bx, 0, none⟩), .func (.func 48) #[] #[.pointer (some ⟨Bs, 0, none⟩)], wv x, undef, undef, undef, undef, undef]) x a' u)
    (fun x a' => atX_own w _ x a' _ (by omega))
    ?assign ?body ?done ?stop
  case assign =>
    rintro l pre x u K ⟨q, hs⟩ hK
    have hX : AtX w (fun Bx => #[.slice none 0 0, .func (.func 48) #[] #[.pointer (some ⟨Bs, 0, none⟩)], .pointer (some ⟨w.heap.size, 0, none⟩), undef, .slice none 0 0, .pointer (some ⟨Bx, 0, none⟩), .func (.func 48) #[] #[.pointer (some ⟨Bs, 0, none⟩)], wv x, undef, undef, undef, undef, undef]) x
      { tmps := #[.slice none 0 0, .func (.func 48) #[] #[.pointer (some ⟨Bs, 0, none⟩)], .pointer (some ⟨w.heap.size, 0, none⟩), undef, .slice none 0 0, .pointer (some ⟨u.heap.size, 0, none⟩), .func (.func 48) #[] #[.pointer (some ⟨Bs, 0, none⟩)], wv x, undef, undef, undef, undef, undef], defers := [] } (u.alloc (.cells #[.int .i64 x.id, .int .i64 x.wear] 25)) :=
      ⟨u.heap.size, (hs.pick [] (by decide) (by simp)).new 25 x.cells, rfl⟩
    have hsz' := hs.below.size
    have hI := hs.alloc (.cells #[.int .i64 x.id, .int .i64 x.wear] 25)
    gi_wp2
    exact hK _ _ ((KeepsOthers.alloc _ _).from _) ((Below.refl _ u).alloc hsz' _) ⟨q, hI⟩ hX
  case body =>
    rintro l pre x a' u hl ⟨r, hr⟩ ⟨q, hs⟩ ⟨Bx, hX, rfl⟩ hlt
    have x0 := hX.cell 0 rfl (k := 0) rfl
    have x1 := hX.cell 0 rfl (k := 1) rfl
    have s0 := hs.cell 0 rfl (k := 0) rfl
    have hnew := Rd.of_own (own_new u 25 #[.int .i64 x.id, .int .i64 x.wear] 2 1 rfl (by simp [maxLen]) (Nat.le_refl _))
    have hpl : pre.length < len := hlt
    gi_wp2_with (gi_at_builtin; refine wpListIn_append_sep (hs.alloc _) 1 rfl (.tmp 8) (.tmp 10) 22 rfl 25 ti (.agg #[.int .i64 0, .int .i64 0]) 2 16 Try.underlying22 hti t0 t1 t2 rfl (by omega) _ pre.length _ rfl rfl _ _ 1 1 _ rfl hnew (by simp [Value.oneCell']) (by simp only [maxLen]; omega) (by omega) ?_; intro A' c' u' hc' hko hbe hs'; have s1 := hs'.cell 0 rfl (k := 0) rfl; have u1 := hs'.froz 0 rfl (k := 0))
    have hfin := (hs'.set 0 rfl (k := 0) (.slice A' (pre.length + 1) c'))
    refine ⟨?_, ?_, (A', c'), ?_⟩
    · exact (((KeepsOthers.alloc _ _).trans hko).trans (KeepsOthers.setCell _ _ _)).from _
    · exact (((Below.refl _ u).alloc hs.below.size _).trans hbe).setCell (p := ⟨w.heap.size, 0, none⟩) (by simp) _
    · simp only [List.length_append, List.length_singleton, List.flatMap_append]
      exact hfin
  case done =>
    rintro D ys u hD rfl ⟨q, hs⟩ hK
    have s0 := hs.cell 0 rfl (k := 0) rfl
    gi_wp2
    refine ⟨by simp, .inl ⟨_, _, rfl, run_takeDeferred hK, ?_⟩⟩
    have hle : len ≤ q.2 := by
      rcases (hs.rowHas 1 rfl).2 with ⟨h0, _⟩ | ⟨g, cp, cur, e, _, h3, _⟩
      · omega
      · simp only [Value.slice.injEq] at e
        omega
    refine ⟨_, results_tmp rfl _ _ _, q.1, q.2, hle, rfl, ?_⟩
    rw [hlen] at hs
    refine (hs.pick [1] (by decide) (by simp)).grownNo (grownBy_putObj' u D _) (fun r e => ?_)
    cases e
    refine ⟨by omega, fun i x hx he => ?_⟩
    have hxr : x = .row 25 2 (.slice q.1 len q.2) len (ys.flatMap Hp.W.cells) := by
      rcases i with _ | i
      · simpa [pickL] using hx.symm
      · simp [pickL] at hx
    subst hxr
    have := cellIt_row _ _ _ _ _ u (hs.rowHas 1 rfl) D _ he hK
    cases this
  case stop =>
    rintro D c pre u _ _ h _
    exact h.elim

theorem collect_any (Bs : Nat) (A : Option Addr) (len cap : Nat) (xs : List Hp.W) (hlen : xs.length = len) (hbig : len * 16 ≤ 140737488355328) (w : World)
    (hc : w.cell? ⟨Bs, 0, none⟩ = some (.slice A len cap)) (hR : Rd w w.heap.size 2 A len (xs.flatMap Hp.W.cells)) :
    Calls Try.prog 47 #[.func (.func 48) #[] #[.pointer (some ⟨Bs, 0, none⟩)]] w (SliceRet w 25 2 len (xs.flatMap Hp.W.cells)) := by
  have hA := Lib.hid ((callsIn_wide (n := 6)).1 (appendSeq_in Fence.wide 6 trivial trivial rfl (by omega) Bs A len cap xs hlen hbig w hc hR))
  clear hc hR
  go_enter Try.func47, Try.ntmps47
  go_wp2_with fail
  refine hA.out.mono ?_; rintro en w1 ⟨A1, c1, hc1, rfl, K⟩
  have HS := Lib.hid K
  have HC := Lib.hid hc1
  clear K hc1 hA
  go_wp2
  go_ret
  exact ⟨A1, c1, HC.out, rfl, HS.out⟩
end Hk
end Go.Proofs.Ytfljbiobiobamab
