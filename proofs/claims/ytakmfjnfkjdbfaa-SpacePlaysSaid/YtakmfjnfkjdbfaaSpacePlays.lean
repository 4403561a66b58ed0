/-
  SpacePlays: space.Play answers as the reference does, for every size and every list of operations. Conditions: none.
-/
import Derived.Test.YtakmfjnfkjdbfaaSpaceSteps
namespace Go.Proofs.Ytakmfjnfkjdbfaa
open Go.ChangeShapes Go.WideShapes Go.ChangeAt Go.RowKit
set_option linter.unusedVariables false
namespace Sp

/-- an answer -/
structure An where
  (err at_ : Int)
def An.cells (x : An) : List Value := [.int .i64 x.err, .int .i64 x.at_]
theorem An.len : ∀ x : An, x.cells.length = 2 := fun _ => rfl
theorem An.facts {w wr : World} {b off Bd k : Nat} {l : List An} {x : An} (hb : b < Bd) (hB : Below Bd w wr) (hc : ∀ (i j : Nat) (x : An) (u : Value), l[i]? = some x → x.cells[j]? = some u → w.cell? ⟨b, off + (i * 2 + j), none⟩ = some u)
    (hx : l[k]? = some x) : wr.cell? ⟨b, off + k * 2, none⟩ = some (.int .i64 x.err) ∧ wr.cell? ⟨b, off + k * 2 + 1, none⟩ = some (.int .i64 x.at_) :=
  ⟨(hB.cell hb).trans (hc k 0 x _ hx rfl), (hB.cell hb).trans (hc k 1 x _ hx rfl)⟩
theorem neqAn (x : An) (w : World) : (binOp .neq 41 (.agg #[.int .i64 x.err, .int .i64 x.at_]) (.agg #[.int .i64 x.err, .int .i64 x.at_])).run Try.prog w = .ok (.bool false) w := by
  obtain ⟨a, b⟩ := x
  exact run_neq_self _ _ w (by kernel_rfl)
set_option maxHeartbeats 1600000 in
theorem equal_ans (A A' : Option Addr) (n c c' : Nat) (l : List An) (w : World) (hr : Rd w w.heap.size 2 A n (l.flatMap An.cells)) (hr' : Rd w w.heap.size 2 A' n (l.flatMap An.cells)) (hl : l.length = n) (hn : n ≤ 9223372036854775807) :
    Calls Try.prog 27 #[.slice A n c, .slice A' n c'] w (Ret w (.bool true)) := by
  have HR := Lib.hid hr
  have HR' := Lib.hid hr'
  have HL := Lib.hid hl
  clear hr hr' hl
  go_enter Try.func27, Try.ntmps27
  go_wp2
  go_loopg [13] n (fun g i wr => ∃ k : Nat, k ≤ n ∧ g = n - k ∧ i = .int .i64 k ∧ Below w.heap.size w wr)
  case atStart => exact ⟨0, Nat.zero_le _, rfl, rfl, Below.refl _ _⟩
  case round =>
    obtain ⟨k, hk, rfl, rfl, hB⟩ := hrel
    by_cases hlt : k < n
    · obtain ⟨b, off, rfl, hb, hc⟩ := HR.out.at_ An.len (by omega)
      obtain ⟨b', off', rfl, hb', hc'⟩ := HR'.out.at_ An.len (by omega)
      obtain ⟨y, hy⟩ : ∃ y, l[k]? = some y := ⟨_, List.getElem?_eq_getElem (by rw [HL.out]; exact hlt)⟩
      have d1 := An.facts hb hB hc hy
      have d2 := An.facts hb' hB hc' hy
      have E := neqAn y
      have i0 : (0 : Int) ≤ (k : Int) := by omega
      have i1 : (k : Int) < (n : Int) := by omega
      clear hc hc' hy
      go_wp2
      go_quiet (fail)
      go_wp2
      generalize hxw : World.drewN wr _ = xw
      have xh : Below wr.heap.size wr xw := by rw [← hxw]; exact below_drewN (Below.refl _ _) _
      clear hxw
      go_roundg (n - (k + 1))
      case measure => omega
      case rel => exact ⟨k + 1, by omega, rfl, by go_num, hB.trans (xh.mono hB.size)⟩
    · go_wp2
      go_ret
      exact Ret.mk rfl hB
theorem ans_info : (Try.prog.info? 41).map (fun i => (i.zero, i.size, i.bytes)) = some (some (.agg #[.int .i64 0, .int .i64 0]), 2, 16) := by kernel_rfl

def play (S : Nat) : List O → List N → List An × List N
  | [], l => ([], l)
  | o :: t, l => (⟨(stepL S l o.kind o.at_ o.many).2.1, (stepL S l o.kind o.at_ o.many).2.2⟩ :: (play S t (if (stepL S l o.kind o.at_ o.many).2.1 = 0 then (stepL S l o.kind o.at_ o.many).1 else l)).1,
      (play S t (if (stepL S l o.kind o.at_ o.many).2.1 = 0 then (stepL S l o.kind o.at_ o.many).1 else l)).2)
def whole (S : Nat) : List N := if 0 < S then [⟨0, S⟩] else []
theorem whole_ok (S : Nat) : Ok S 0 (whole S) := by
  unfold whole
  split
  · exact ⟨Nat.le_refl _, by simpa, by simp, trivial⟩
  · trivial
theorem whole_seg (S : Nat) : seg S 0 (whole S) = List.replicate S true := by
  unfold whole
  split
  · simp [seg]
  · obtain rfl : S = 0 := by omega
    rfl
def PlayRet (w : World) (p : List An × List N) (e : Ending) (w' : World) : Prop :=
  ∃ A1 c1 A2 c2, e = .returned (.tuple #[.slice A1 p.1.length c1, .slice A2 p.2.length c2, .int .i64 0]) ∧
    Sep w w' [.row 41 2 (.slice A1 p.1.length c1) p.1.length (p.1.flatMap An.cells), .row 50 2 (.slice A2 p.2.length c2) p.2.length (p.2.flatMap ncells)]
def OutRet (w : World) (e : Ending) (w' : World) : Prop := e = .returned (.tuple #[.slice none 0 0, .slice none 0 0, .int .i64 2]) ∧ Below w.heap.size w w'

set_option maxRecDepth 100000 in
set_option maxHeartbeats 800000 in
theorem play_out (A : Option Addr) (n c : Nat) (S : Int) (w : World) (hS : S < 0 ∨ 4096 < S) : Calls Try.prog 25 #[.int .i64 S, .slice A n c] w (OutRet w) := by
  by_cases h0 : S < 0
  all_goals
    try have h1 : 4096 < S := by omega
    clear hS
    go_enter Try.func25, Try.ntmps25
    go_wp2
    refine bodyPost_ret (v := .tuple #[.slice none 0 0, .slice none 0 0, .int .i64 2]) (by simp [results, Try.results25]) rfl ?_
    exact ⟨rfl, Below.refl _ _⟩
set_option maxRecDepth 100000 in
set_option maxHeartbeats 800000 in
theorem nplay_out (A : Option Addr) (n c : Nat) (S : Int) (w : World) (hS : S < 0 ∨ 4096 < S) : Calls Try.prog 26 #[.int .i64 S, .slice A n c] w (OutRet w) := by
  by_cases h0 : S < 0
  all_goals
    try have h1 : 4096 < S := by omega
    clear hS
    go_enter Try.func26, Try.ntmps26
    go_wp2
    refine bodyPost_ret (v := .tuple #[.slice none 0 0, .slice none 0 0, .int .i64 2]) (by simp [results, Try.results26]) rfl ?_
    exact ⟨rfl, Below.refl _ _⟩

set_option maxRecDepth 100000 in
set_option maxHeartbeats 3200000 in
theorem play_any (A : Option Addr) (n c S : Nat) (ops : List O) (w : World) (hr : Rd w w.heap.size 3 A n (ops.flatMap O.cells)) (hl : ops.length = n) (hn : n * 24 ≤ 140737488351232) (hS : S ≤ 4096) :
    Calls Try.prog 25 #[.int .i64 (S : Int), .slice A n c] w (PlayRet w (play S ops (whole S))) := by
  obtain ⟨ti, hti, t0, t1, t2⟩ := info_parts ans_info
  have HR := Lib.hid hr
  have HL := Lib.hid hl
  have s0 : ¬ (S : Int) < 0 := by omega
  have s1 : ¬ 4096 < S := by omega
  have s1' : ¬ (4096 : Int) < (S : Int) := by omega
  obtain ⟨l0, hl0⟩ : ∃ l0, l0 = whole S := ⟨_, rfl⟩
  have HOK0 : Hid (Ok S 0 l0) := Lib.hid (by rw [hl0]; exact whole_ok S)
  rw [← hl0]
  have HL0 := Lib.hid hl0
  clear hr hl hl0
  go_enter Try.func25, Try.ntmps25
  by_cases hs : 0 < S
  · have s2 : (0 : Int) < (S : Int) := by omega
    have hl0 : l0 = [⟨0, S⟩] := by rw [HL0.out, whole, if_pos hs]
    have S1 : Hid (Sep w (w.alloc (.cells #[.int .i64 0, .int .i64 (S : Int)] 50)) [.row 50 2 (.slice (some ⟨w.heap.size, 0, none⟩) l0.length 1) l0.length (l0.flatMap ncells), .row 41 2 (.slice none 0 0) 0 (([] : List An).flatMap An.cells)]) := Lib.hid (by
      rw [hl0]
      exact (((Sep.nil_ w).newRow 50 2 1 [.int .i64 ((0 : Nat) : Int), .int .i64 (S : Int)] rfl (by simp [maxLen])).nilRow 41 2 none))
    have hll : l0.length = 1 := by rw [hl0]; rfl
    have HLL := Lib.hid hll
    clear hl0 hll
    go_wp2
    generalize w.alloc (.cells #[.int .i64 0, .int .i64 (S : Int)] 50) = w1 at S1 ⊢
    generalize w.heap.size = g0 at S1 ⊢
    go_loopg [7, 8, 26] n (fun q v7 v8 i wr => ∃ (k : Nat) (A7 : Option Addr) (c7 : Nat) (A8 : Option Addr) (c8 : Nat) (lc : List N) (es : List An), k ≤ n ∧ q = n - k ∧ i = .int .i64 k ∧ v7 = .slice A7 lc.length c7 ∧ v8 = .slice A8 k c8 ∧ k ≤ c8 ∧ lc.length ≤ c7 ∧ Hid (es.length = k) ∧ Hid (Ok S 0 lc) ∧ Hid ((play S ops l0).1 = es ++ (play S (ops.drop k) lc).1 ∧ (play S ops l0).2 = (play S (ops.drop k) lc).2) ∧ Sep w wr [.row 50 2 (.slice A7 lc.length c7) lc.length (lc.flatMap ncells), .row 41 2 (.slice A8 k c8) k (es.flatMap An.cells)])
    case atStart => exact ⟨0, some ⟨g0, 0, none⟩, 1, none, 0, l0, [], Nat.zero_le _, rfl, rfl, by rw [HLL.out], rfl, Nat.le_refl _, by rw [HLL.out]; exact Nat.le_refl _, Lib.hid rfl, HOK0, Lib.hid ⟨rfl, rfl⟩, S1.out⟩
    case round =>
      clear S1
      obtain ⟨k, A7, c7, A8, c8, lc, es, hk, rfl, rfl, rfl, rfl, hc8, HLC, HEL, HOK, HF, hs⟩ := hrel
      have HS := Lib.hid hs
      clear hs
      by_cases hlt : k < n
      · obtain ⟨b, off, rfl, hb, hc⟩ := HR.out.at_ O.len (by omega)
        obtain ⟨o, ho⟩ : ∃ o, ops[k]? = some o := ⟨_, List.getElem?_eq_getElem (by rw [HL.out]; exact hlt)⟩
        have q0 : wr.cell? ⟨b, off + k * 3, none⟩ = some (.int .i64 o.kind) := (HS.out.below.cell hb).trans (hc k 0 o _ ho rfl)
        have q1 : wr.cell? ⟨b, off + k * 3 + 1, none⟩ = some (.int .i64 o.at_) := (HS.out.below.cell hb).trans (hc k 1 o _ ho rfl)
        have q2 : wr.cell? ⟨b, off + k * 3 + 2, none⟩ = some (.int .i64 o.many) := (HS.out.below.cell hb).trans (hc k 2 o _ ho rfl)
        have i0 : (0 : Int) ≤ (k : Int) := by omega
        have i1 : (k : Int) < (n : Int) := by omega
        obtain ⟨res, hres⟩ : ∃ r, r = stepL S lc o.kind o.at_ o.many := ⟨_, rfl⟩
        have HRES := Lib.hid hres
        have HSx : Hid (Sep w (wr.alloc (.cells #[.int .i64 o.kind, .int .i64 o.at_, .int .i64 o.many] 39)) [.row 50 2 (.slice A7 lc.length c7) lc.length (lc.flatMap ncells), .row 41 2 (.slice A8 k c8) k (es.flatMap An.cells), .cells wr.heap.size 39 o.cells]) := Lib.hid (HS.out.new 39 o.cells)
        have cS : Hid (∀ W, Rd W W.heap.size 2 A7 lc.length (lc.flatMap ncells) → Calls Try.prog 20 #[.int .i64 (S : Int), .slice A7 lc.length c7, .agg #[.int .i64 o.kind, .int .i64 o.at_, .int .i64 o.many]] W (StepRet W res)) := Lib.hid (fun W hW => by
          rw [hres]
          exact step_ok A7 _ c7 S _ _ _ lc W hW rfl hS HOK.out)
        have HP : Hid (play S (ops.drop k) lc = (⟨res.2.1, res.2.2⟩ :: (play S (ops.drop (k + 1)) (if res.2.1 = 0 then res.1 else lc)).1, (play S (ops.drop (k + 1)) (if res.2.1 = 0 then res.1 else lc)).2)) := Lib.hid (by rw [drop_at ho, play, hres])
        have HOK2 : Hid (Ok S 0 (if res.2.1 = 0 then res.1 else lc)) := Lib.hid (by
          split
          · rw [hres]; exact stepL_ok HOK.out _ _ _
          · exact HOK.out)
        clear hc ho hres
        obtain ⟨pl, pe, pa⟩ := res
        simp only at HP HOK2
        rw [HP.out] at HF
        have HEL2 : Hid ((es ++ [(⟨pe, pa⟩ : An)]).length = k + 1) := Lib.hid (by rw [List.length_append, HEL.out]; rfl)
        go_upto_region 10 with (fail)
        clear HS q0 q1 q2
        generalize wr.alloc (.cells #[.int .i64 o.kind, .int .i64 o.at_, .int .i64 o.many] 39) = wo at HSx ⊢
        generalize wr.heap.size = gx at HSx ⊢
        have p0 := HSx.out.cell 2 rfl (k := 0) rfl
        have p1 := HSx.out.cell 2 rfl (k := 1) rfl
        have p2 := HSx.out.cell 2 rfl (k := 2) rfl
        go_wp2_with fail
        refine (cS.out _ (HSx.out.rd 0 rfl)).mono ?_; rintro en w1 ⟨A, c, hc', rfl, K⟩
        have HS1 : Hid (Sep w (w1.alloc (.cells #[.int .i64 pe, .int .i64 pa] 41)) [.row 50 2 (.slice A7 lc.length c7) lc.length (lc.flatMap ncells), .row 41 2 (.slice A8 k c8) k (es.flatMap An.cells), .row 50 2 (.slice A pl.length c) pl.length (pl.flatMap ncells), .cells w1.heap.size 41 [.int .i64 pe, .int .i64 pa]]) := Lib.hid (((HSx.out.join K).new 41 [.int .i64 pe, .int .i64 pa]).pick [0, 1, 3, 4] (by decide) (by simp))
        clear K HSx p0 p1 p2 cS
        simp only
        go_upto_region 11 with (fail)
        generalize w1.alloc (.cells #[.int .i64 pe, .int .i64 pa] 41) = w2 at HS1 ⊢
        generalize w1.heap.size = ga at HS1 ⊢
        have f0 := HS1.out.cell 3 rfl (k := 0) rfl
        have f1 := HS1.out.cell 3 rfl (k := 1) rfl
        have hnew := Lib.hid (Rd.of_own (own_new w2 41 #[.int .i64 pe, .int .i64 pa] 2 1 rfl (by simp [maxLen]) (Nat.le_refl _)))
        by_cases he : pe = 0
        · have he2 : (pe == 0) = true := by simp [he]
          rw [if_pos he] at HF HOK2
          subst he
          clear he2
          go_wp2_with (at_builtin; refine wpList_append_sep (HS1.out.alloc _) 1 rfl (.tmp 41) (.tmp 43) 53 rfl 41 ti (.agg #[.int .i64 0, .int .i64 0]) 2 16 Try.underlying53 hti t0 t1 t2 rfl (by omega) _ k _ rfl rfl _ _ 1 1 _ rfl hnew.out (by simp [Value.oneCell']) (by simp only [maxLen]; omega) (by omega) ?_; intro A6 c6 w6 hc6 hs6 H6'; have H6 := Lib.hid H6'; clear H6')
          go_roundg (n - (k + 1))
          case measure => omega
          case rel => exact ⟨k + 1, A, c, A6, c6, pl, es ++ [⟨0, pa⟩], by omega, rfl, by go_num, rfl, rfl, hc6, hc', HEL2, HOK2, Lib.hid (by rw [HF.out.1, List.append_assoc]; exact ⟨rfl, HF.out.2⟩), by rw [List.flatMap_append]; exact H6.out.pick [2, 1] (by decide) (by simp)⟩
        · have he2 : (pe == 0) = false := by simp [he]
          rw [if_neg he] at HF HOK2
          go_wp2_with (at_builtin; refine wpList_append_sep (HS1.out.alloc _) 1 rfl (.tmp 41) (.tmp 43) 53 rfl 41 ti (.agg #[.int .i64 0, .int .i64 0]) 2 16 Try.underlying53 hti t0 t1 t2 rfl (by omega) _ k _ rfl rfl _ _ 1 1 _ rfl hnew.out (by simp [Value.oneCell']) (by simp only [maxLen]; omega) (by omega) ?_; intro A6 c6 w6 hc6 hs6 H6'; have H6 := Lib.hid H6'; clear H6')
          go_roundg (n - (k + 1))
          case measure => omega
          case rel => exact ⟨k + 1, A7, c7, A6, c6, lc, es ++ [⟨pe, pa⟩], by omega, rfl, by go_num, rfl, rfl, hc6, HLC, HEL2, HOK2, Lib.hid (by rw [HF.out.1, List.append_assoc]; exact ⟨rfl, HF.out.2⟩), by rw [List.flatMap_append]; exact H6.out.pick [0, 1] (by decide) (by simp)⟩
      · obtain rfl : k = n := by omega
        rw [List.drop_of_length_le (by rw [HL.out]; omega)] at HF
        have HFE := Lib.hid HF.out
        clear HF
        go_wp2
        refine bodyPost_ret (v := .tuple #[.slice A8 k c8, .slice A7 lc.length c7, .int .i64 0]) (by simp [results, Try.results25]) rfl ?_
        have e1 : (play S ops l0).1 = es := by rw [HFE.out.1]; simp [play]
        have e2 : (play S ops l0).2 = lc := HFE.out.2
        unfold PlayRet
        rw [e1, e2, HEL.out]
        exact ⟨A8, c8, A7, c7, rfl, HS.out.pick [1, 0] (by decide) (by simp)⟩
  · have s2 : ¬ (0 : Int) < (S : Int) := by omega
    have hl0 : l0 = [] := by rw [HL0.out, whole, if_neg hs]
    have S1 : Hid (Sep w w [.row 50 2 (.slice none l0.length 0) l0.length (l0.flatMap ncells), .row 41 2 (.slice none 0 0) 0 (([] : List An).flatMap An.cells)]) := Lib.hid (by
      rw [hl0]
      exact ((Sep.nil_ w).nilRow 50 2 none).nilRow 41 2 none)
    have hll : l0.length = 0 := by rw [hl0]; rfl
    have HLL := Lib.hid hll
    clear hl0 hll
    go_wp2
    go_loopg [7, 8, 26] n (fun q v7 v8 i wr => ∃ (k : Nat) (A7 : Option Addr) (c7 : Nat) (A8 : Option Addr) (c8 : Nat) (lc : List N) (es : List An), k ≤ n ∧ q = n - k ∧ i = .int .i64 k ∧ v7 = .slice A7 lc.length c7 ∧ v8 = .slice A8 k c8 ∧ k ≤ c8 ∧ lc.length ≤ c7 ∧ Hid (es.length = k) ∧ Hid (Ok S 0 lc) ∧ Hid ((play S ops l0).1 = es ++ (play S (ops.drop k) lc).1 ∧ (play S ops l0).2 = (play S (ops.drop k) lc).2) ∧ Sep w wr [.row 50 2 (.slice A7 lc.length c7) lc.length (lc.flatMap ncells), .row 41 2 (.slice A8 k c8) k (es.flatMap An.cells)])
    case atStart => exact ⟨0, none, 0, none, 0, l0, [], Nat.zero_le _, rfl, rfl, by rw [HLL.out], rfl, Nat.le_refl _, by rw [HLL.out]; exact Nat.le_refl _, Lib.hid rfl, HOK0, Lib.hid ⟨rfl, rfl⟩, S1.out⟩
    case round =>
      clear S1
      obtain ⟨k, A7, c7, A8, c8, lc, es, hk, rfl, rfl, rfl, rfl, hc8, HLC, HEL, HOK, HF, hs⟩ := hrel
      have HS := Lib.hid hs
      clear hs
      by_cases hlt : k < n
      · obtain ⟨b, off, rfl, hb, hc⟩ := HR.out.at_ O.len (by omega)
        obtain ⟨o, ho⟩ : ∃ o, ops[k]? = some o := ⟨_, List.getElem?_eq_getElem (by rw [HL.out]; exact hlt)⟩
        have q0 : wr.cell? ⟨b, off + k * 3, none⟩ = some (.int .i64 o.kind) := (HS.out.below.cell hb).trans (hc k 0 o _ ho rfl)
        have q1 : wr.cell? ⟨b, off + k * 3 + 1, none⟩ = some (.int .i64 o.at_) := (HS.out.below.cell hb).trans (hc k 1 o _ ho rfl)
        have q2 : wr.cell? ⟨b, off + k * 3 + 2, none⟩ = some (.int .i64 o.many) := (HS.out.below.cell hb).trans (hc k 2 o _ ho rfl)
        have i0 : (0 : Int) ≤ (k : Int) := by omega
        have i1 : (k : Int) < (n : Int) := by omega
        obtain ⟨res, hres⟩ : ∃ r, r = stepL S lc o.kind o.at_ o.many := ⟨_, rfl⟩
        have HRES := Lib.hid hres
        have HSx : Hid (Sep w (wr.alloc (.cells #[.int .i64 o.kind, .int .i64 o.at_, .int .i64 o.many] 39)) [.row 50 2 (.slice A7 lc.length c7) lc.length (lc.flatMap ncells), .row 41 2 (.slice A8 k c8) k (es.flatMap An.cells), .cells wr.heap.size 39 o.cells]) := Lib.hid (HS.out.new 39 o.cells)
        have cS : Hid (∀ W, Rd W W.heap.size 2 A7 lc.length (lc.flatMap ncells) → Calls Try.prog 20 #[.int .i64 (S : Int), .slice A7 lc.length c7, .agg #[.int .i64 o.kind, .int .i64 o.at_, .int .i64 o.many]] W (StepRet W res)) := Lib.hid (fun W hW => by
          rw [hres]
          exact step_ok A7 _ c7 S _ _ _ lc W hW rfl hS HOK.out)
        have HP : Hid (play S (ops.drop k) lc = (⟨res.2.1, res.2.2⟩ :: (play S (ops.drop (k + 1)) (if res.2.1 = 0 then res.1 else lc)).1, (play S (ops.drop (k + 1)) (if res.2.1 = 0 then res.1 else lc)).2)) := Lib.hid (by rw [drop_at ho, play, hres])
        have HOK2 : Hid (Ok S 0 (if res.2.1 = 0 then res.1 else lc)) := Lib.hid (by
          split
          · rw [hres]; exact stepL_ok HOK.out _ _ _
          · exact HOK.out)
        clear hc ho hres
        obtain ⟨pl, pe, pa⟩ := res
        simp only at HP HOK2
        rw [HP.out] at HF
        have HEL2 : Hid ((es ++ [(⟨pe, pa⟩ : An)]).length = k + 1) := Lib.hid (by rw [List.length_append, HEL.out]; rfl)
        go_upto_region 10 with (fail)
        clear HS q0 q1 q2
        generalize wr.alloc (.cells #[.int .i64 o.kind, .int .i64 o.at_, .int .i64 o.many] 39) = wo at HSx ⊢
        generalize wr.heap.size = gx at HSx ⊢
        have p0 := HSx.out.cell 2 rfl (k := 0) rfl
        have p1 := HSx.out.cell 2 rfl (k := 1) rfl
        have p2 := HSx.out.cell 2 rfl (k := 2) rfl
        go_wp2_with fail
        refine (cS.out _ (HSx.out.rd 0 rfl)).mono ?_; rintro en w1 ⟨A, c, hc', rfl, K⟩
        have HS1 : Hid (Sep w (w1.alloc (.cells #[.int .i64 pe, .int .i64 pa] 41)) [.row 50 2 (.slice A7 lc.length c7) lc.length (lc.flatMap ncells), .row 41 2 (.slice A8 k c8) k (es.flatMap An.cells), .row 50 2 (.slice A pl.length c) pl.length (pl.flatMap ncells), .cells w1.heap.size 41 [.int .i64 pe, .int .i64 pa]]) := Lib.hid (((HSx.out.join K).new 41 [.int .i64 pe, .int .i64 pa]).pick [0, 1, 3, 4] (by decide) (by simp))
        clear K HSx p0 p1 p2 cS
        simp only
        go_upto_region 11 with (fail)
        generalize w1.alloc (.cells #[.int .i64 pe, .int .i64 pa] 41) = w2 at HS1 ⊢
        generalize w1.heap.size = ga at HS1 ⊢
        have f0 := HS1.out.cell 3 rfl (k := 0) rfl
        have f1 := HS1.out.cell 3 rfl (k := 1) rfl
        have hnew := Lib.hid (Rd.of_own (own_new w2 41 #[.int .i64 pe, .int .i64 pa] 2 1 rfl (by simp [maxLen]) (Nat.le_refl _)))
        by_cases he : pe = 0
        · have he2 : (pe == 0) = true := by simp [he]
          rw [if_pos he] at HF HOK2
          subst he
          clear he2
          go_wp2_with (at_builtin; refine wpList_append_sep (HS1.out.alloc _) 1 rfl (.tmp 41) (.tmp 43) 53 rfl 41 ti (.agg #[.int .i64 0, .int .i64 0]) 2 16 Try.underlying53 hti t0 t1 t2 rfl (by omega) _ k _ rfl rfl _ _ 1 1 _ rfl hnew.out (by simp [Value.oneCell']) (by simp only [maxLen]; omega) (by omega) ?_; intro A6 c6 w6 hc6 hs6 H6'; have H6 := Lib.hid H6'; clear H6')
          go_roundg (n - (k + 1))
          case measure => omega
          case rel => exact ⟨k + 1, A, c, A6, c6, pl, es ++ [⟨0, pa⟩], by omega, rfl, by go_num, rfl, rfl, hc6, hc', HEL2, HOK2, Lib.hid (by rw [HF.out.1, List.append_assoc]; exact ⟨rfl, HF.out.2⟩), by rw [List.flatMap_append]; exact H6.out.pick [2, 1] (by decide) (by simp)⟩
        · have he2 : (pe == 0) = false := by simp [he]
          rw [if_neg he] at HF HOK2
          go_wp2_with (at_builtin; refine wpList_append_sep (HS1.out.alloc _) 1 rfl (.tmp 41) (.tmp 43) 53 rfl 41 ti (.agg #[.int .i64 0, .int .i64 0]) 2 16 Try.underlying53 hti t0 t1 t2 rfl (by omega) _ k _ rfl rfl _ _ 1 1 _ rfl hnew.out (by simp [Value.oneCell']) (by simp only [maxLen]; omega) (by omega) ?_; intro A6 c6 w6 hc6 hs6 H6'; have H6 := Lib.hid H6'; clear H6')
          go_roundg (n - (k + 1))
          case measure => omega
          case rel => exact ⟨k + 1, A7, c7, A6, c6, lc, es ++ [⟨pe, pa⟩], by omega, rfl, by go_num, rfl, rfl, hc6, HLC, HEL2, HOK2, Lib.hid (by rw [HF.out.1, List.append_assoc]; exact ⟨rfl, HF.out.2⟩), by rw [List.flatMap_append]; exact H6.out.pick [0, 1] (by decide) (by simp)⟩
      · obtain rfl : k = n := by omega
        rw [List.drop_of_length_le (by rw [HL.out]; omega)] at HF
        have HFE := Lib.hid HF.out
        clear HF
        go_wp2
        refine bodyPost_ret (v := .tuple #[.slice A8 k c8, .slice A7 lc.length c7, .int .i64 0]) (by simp [results, Try.results25]) rfl ?_
        have e1 : (play S ops l0).1 = es := by rw [HFE.out.1]; simp [play]
        have e2 : (play S ops l0).2 = lc := HFE.out.2
        unfold PlayRet
        rw [e1, e2, HEL.out]
        exact ⟨A8, c8, A7, c7, rfl, HS.out.pick [1, 0] (by decide) (by simp)⟩

set_option maxRecDepth 100000 in
set_option maxHeartbeats 3200000 in
theorem nplay_any (A : Option Addr) (n c S : Nat) (ops : List O) (w : World) (hr : Rd w w.heap.size 3 A n (ops.flatMap O.cells)) (hl : ops.length = n) (hn : n * 24 ≤ 140737488351232) (hS : S ≤ 4096) :
    Calls Try.prog 26 #[.int .i64 (S : Int), .slice A n c] w (PlayRet w (play S ops (whole S))) := by
  obtain ⟨ti, hti, t0, t1, t2⟩ := info_parts ans_info
  obtain ⟨M, hM, hmk⟩ := make_bools S hS
  have HM := Lib.hid hM
  have HR := Lib.hid hr
  have HL := Lib.hid hl
  have s0 : ¬ (S : Int) < 0 := by omega
  have s1 : ¬ 4096 < S := by omega
  have s1' : ¬ (4096 : Int) < (S : Int) := by omega
  obtain ⟨l0, hl0⟩ : ∃ l0, l0 = whole S := ⟨_, rfl⟩
  have HOK0 : Hid (Ok S 0 l0) := Lib.hid (by rw [hl0]; exact whole_ok S)
  rw [← hl0]
  have HSEG : Hid (seg S 0 l0 = List.replicate S true) := Lib.hid (by rw [hl0]; exact whole_seg S)
  have S0 := Lib.hid ((Sep.nil_ w).newRow 4 1 S M (by rw [hM, flat_len bcell_len, List.length_replicate]) (by simp only [maxLen]; omega))
  clear hr hl hl0 hM
  go_enter Try.func26, Try.ntmps26
  go_wp2
  generalize w.heap.size = gr at S0 ⊢
  go_loopg [25] S (fun q i wr => ∃ (k : Nat) (cur : List Bool), k ≤ S ∧ q = S - k ∧ i = .int .i64 k ∧ Hid (cur.length = S) ∧ Hid (∀ i, i < k → cur[i]? = some true) ∧ Sep w wr [.row 4 1 (.slice (some ⟨gr, 0, none⟩) S S) S (cur.flatMap bcell)])
  case atStart => exact ⟨0, List.replicate S false, Nat.zero_le _, rfl, rfl, Lib.hid (by simp), Lib.hid (fun i h => by omega), by rw [← HM.out]; exact S0.out⟩
  case round =>
    clear S0 hmk HM
    obtain ⟨k, cur, hk, rfl, rfl, HCL, HC, hs⟩ := hrel
    have HS := Lib.hid hs
    clear hs
    by_cases hlt : k < S
    · have p0 : (0 : Int) ≤ (k : Int) := by omega
      have p1 : (k : Int) < (S : Int) := by omega
      obtain ⟨old, hold⟩ : ∃ old, cur[k]? = some old := ⟨_, List.getElem?_eq_getElem (by rw [HCL.out]; exact hlt)⟩
      obtain ⟨g', hg', _, hat⟩ := HS.out.rowAt 0 rfl (by omega)
      cases hg'
      have e0 := (hat k).1 _ (mem_bool hold)
      have u0 := (hat k).2.1
      have K : Hid (Sep w (wr.setCell ⟨gr, k, none⟩ (.bool true)) [.row 4 1 (.slice (some ⟨gr, 0, none⟩) S S) S ((cur.set k true).flatMap bcell)]) := Lib.hid (by
        have := HS.out.field bcell_len 0 rfl (by omega) (k := k) (j := 0) (x := old) hold (by omega) true (.bool true) rfl
        rw [Nat.mul_one, Nat.add_zero] at this
        exact this)
      have HC2 : Hid (∀ i, i < k + 1 → (cur.set k true)[i]? = some true) := Lib.hid (fun i hi => by
        rw [List.getElem?_set]
        by_cases hik : k = i
        · rw [if_pos hik, if_pos (by rw [HCL.out]; exact hlt)]
        · rw [if_neg hik]
          exact HC.out i (by omega))
      have HCL2 : Hid ((cur.set k true).length = S) := Lib.hid (by rw [List.length_set]; exact HCL.out)
      clear hat hold HS HC
      go_wp2
      go_roundg (S - (k + 1))
      case measure => omega
      case rel => exact ⟨k + 1, cur.set k true, by omega, rfl, by go_num, HCL2, HC2, K.out⟩
    · obtain rfl : k = S := by omega
      have hcur : cur = seg k 0 l0 := by
        rw [HSEG.out]
        refine List.ext_getElem? fun i => ?_
        rw [List.getElem?_replicate]
        by_cases hik : i < k
        · rw [if_pos hik, HC.out i hik]
        · rw [if_neg hik, List.getElem?_eq_none (by rw [HCL.out]; omega)]
      have cG := Lib.hid (ngaps_any (some ⟨gr, 0, none⟩) k k cur wr (HS.out.rd 0 rfl) HCL.out hS)
      have hpart : part cur k = l0 := by rw [hcur]; exact part_seg HOK0.out
      rw [hpart] at cG
      clear hpart hcur HC
      generalize hkS : k = S at *
      go_wp2_with fail
      refine cG.out.mono ?_; rintro en w5 ⟨A5, c5, hc5, rfl, K5⟩
      have S5 : Hid (Sep w w5 [.row 50 2 (.slice A5 l0.length c5) l0.length (l0.flatMap ncells), .row 41 2 (.slice none 0 0) 0 (([] : List An).flatMap An.cells)]) := Lib.hid (((HS.out.join K5).pick [1] (by decide) (by simp)).nilRow 41 2 none)
      clear K5 HS cG
      go_wp2
      go_loopg [9, 10, 36] n (fun q v7 v8 i wr => ∃ (k : Nat) (A7 : Option Addr) (c7 : Nat) (A8 : Option Addr) (c8 : Nat) (lc : List N) (es : List An), k ≤ n ∧ q = n - k ∧ i = .int .i64 k ∧ v7 = .slice A7 lc.length c7 ∧ v8 = .slice A8 k c8 ∧ k ≤ c8 ∧ lc.length ≤ c7 ∧ Hid (es.length = k) ∧ Hid (Ok S 0 lc) ∧ Hid ((play S ops l0).1 = es ++ (play S (ops.drop k) lc).1 ∧ (play S ops l0).2 = (play S (ops.drop k) lc).2) ∧ Sep w wr [.row 50 2 (.slice A7 lc.length c7) lc.length (lc.flatMap ncells), .row 41 2 (.slice A8 k c8) k (es.flatMap An.cells)])
      case atStart => exact ⟨0, A5, c5, none, 0, l0, [], Nat.zero_le _, rfl, rfl, rfl, rfl, Nat.le_refl _, hc5, Lib.hid rfl, HOK0, Lib.hid ⟨rfl, rfl⟩, S5.out⟩
      case round =>
        clear S5
        obtain ⟨k, A7, c7, A8, c8, lc, es, hk, rfl, rfl, rfl, rfl, hc8, HLC, HEL, HOK, HF, hs⟩ := hrel
        have HS := Lib.hid hs
        clear hs
        by_cases hlt : k < n
        · obtain ⟨b, off, rfl, hb, hc⟩ := HR.out.at_ O.len (by omega)
          obtain ⟨o, ho⟩ : ∃ o, ops[k]? = some o := ⟨_, List.getElem?_eq_getElem (by rw [HL.out]; exact hlt)⟩
          have q0 : wr.cell? ⟨b, off + k * 3, none⟩ = some (.int .i64 o.kind) := (HS.out.below.cell hb).trans (hc k 0 o _ ho rfl)
          have q1 : wr.cell? ⟨b, off + k * 3 + 1, none⟩ = some (.int .i64 o.at_) := (HS.out.below.cell hb).trans (hc k 1 o _ ho rfl)
          have q2 : wr.cell? ⟨b, off + k * 3 + 2, none⟩ = some (.int .i64 o.many) := (HS.out.below.cell hb).trans (hc k 2 o _ ho rfl)
          have i0 : (0 : Int) ≤ (k : Int) := by omega
          have i1 : (k : Int) < (n : Int) := by omega
          obtain ⟨res, hres⟩ : ∃ r, r = stepL S lc o.kind o.at_ o.many := ⟨_, rfl⟩
          have HRES := Lib.hid hres
          have HSx : Hid (Sep w (wr.alloc (.cells #[.int .i64 o.kind, .int .i64 o.at_, .int .i64 o.many] 39)) [.row 50 2 (.slice A7 lc.length c7) lc.length (lc.flatMap ncells), .row 41 2 (.slice A8 k c8) k (es.flatMap An.cells), .cells wr.heap.size 39 o.cells]) := Lib.hid (HS.out.new 39 o.cells)
          have cS : Hid (∀ W, Rd W W.heap.size 2 A7 lc.length (lc.flatMap ncells) → Calls Try.prog 21 #[.int .i64 (S : Int), .slice A7 lc.length c7, .agg #[.int .i64 o.kind, .int .i64 o.at_, .int .i64 o.many]] W (StepRet W res)) := Lib.hid (fun W hW => by
            rw [hres]
            exact nstep_ok A7 _ c7 S _ _ _ (lc.map G.of) lc W (by rw [cells_of]; exact hW) (by simp) (by have := ok_len lc 0 HOK.out; omega) hS rfl HOK.out)
          have HP : Hid (play S (ops.drop k) lc = (⟨res.2.1, res.2.2⟩ :: (play S (ops.drop (k + 1)) (if res.2.1 = 0 then res.1 else lc)).1, (play S (ops.drop (k + 1)) (if res.2.1 = 0 then res.1 else lc)).2)) := Lib.hid (by rw [drop_at ho, play, hres])
          have HOK2 : Hid (Ok S 0 (if res.2.1 = 0 then res.1 else lc)) := Lib.hid (by
            split
            · rw [hres]; exact stepL_ok HOK.out _ _ _
            · exact HOK.out)
          clear hc ho hres
          obtain ⟨pl, pe, pa⟩ := res
          simp only at HP HOK2
          rw [HP.out] at HF
          have HEL2 : Hid ((es ++ [(⟨pe, pa⟩ : An)]).length = k + 1) := Lib.hid (by rw [List.length_append, HEL.out]; rfl)
          go_upto_region 14 with (fail)
          clear HS q0 q1 q2
          generalize wr.alloc (.cells #[.int .i64 o.kind, .int .i64 o.at_, .int .i64 o.many] 39) = wo at HSx ⊢
          generalize wr.heap.size = gx at HSx ⊢
          have p0 := HSx.out.cell 2 rfl (k := 0) rfl
          have p1 := HSx.out.cell 2 rfl (k := 1) rfl
          have p2 := HSx.out.cell 2 rfl (k := 2) rfl
          go_wp2_with fail
          refine (cS.out _ (HSx.out.rd 0 rfl)).mono ?_; rintro en w1 ⟨A, c, hc', rfl, K⟩
          have HS1 : Hid (Sep w (w1.alloc (.cells #[.int .i64 pe, .int .i64 pa] 41)) [.row 50 2 (.slice A7 lc.length c7) lc.length (lc.flatMap ncells), .row 41 2 (.slice A8 k c8) k (es.flatMap An.cells), .row 50 2 (.slice A pl.length c) pl.length (pl.flatMap ncells), .cells w1.heap.size 41 [.int .i64 pe, .int .i64 pa]]) := Lib.hid (((HSx.out.join K).new 41 [.int .i64 pe, .int .i64 pa]).pick [0, 1, 3, 4] (by decide) (by simp))
          clear K HSx p0 p1 p2 cS
          simp only
          go_upto_region 15 with (fail)
          generalize w1.alloc (.cells #[.int .i64 pe, .int .i64 pa] 41) = w2 at HS1 ⊢
          generalize w1.heap.size = ga at HS1 ⊢
          have f0 := HS1.out.cell 3 rfl (k := 0) rfl
          have f1 := HS1.out.cell 3 rfl (k := 1) rfl
          have hnew := Lib.hid (Rd.of_own (own_new w2 41 #[.int .i64 pe, .int .i64 pa] 2 1 rfl (by simp [maxLen]) (Nat.le_refl _)))
          by_cases he : pe = 0
          · have he2 : (pe == 0) = true := by simp [he]
            rw [if_pos he] at HF HOK2
            subst he
            clear he2
            go_wp2_with (at_builtin; refine wpList_append_sep (HS1.out.alloc _) 1 rfl (.tmp 51) (.tmp 53) 53 rfl 41 ti (.agg #[.int .i64 0, .int .i64 0]) 2 16 Try.underlying53 hti t0 t1 t2 rfl (by omega) _ k _ rfl rfl _ _ 1 1 _ rfl hnew.out (by simp [Value.oneCell']) (by simp only [maxLen]; omega) (by omega) ?_; intro A6 c6 w6 hc6 hs6 H6'; have H6 := Lib.hid H6'; clear H6')
            go_roundg (n - (k + 1))
            case measure => omega
            case rel => exact ⟨k + 1, A, c, A6, c6, pl, es ++ [⟨0, pa⟩], by omega, rfl, by go_num, rfl, rfl, hc6, hc', HEL2, HOK2, Lib.hid (by rw [HF.out.1, List.append_assoc]; exact ⟨rfl, HF.out.2⟩), by rw [List.flatMap_append]; exact H6.out.pick [2, 1] (by decide) (by simp)⟩
          · have he2 : (pe == 0) = false := by simp [he]
            rw [if_neg he] at HF HOK2
            go_wp2_with (at_builtin; refine wpList_append_sep (HS1.out.alloc _) 1 rfl (.tmp 51) (.tmp 53) 53 rfl 41 ti (.agg #[.int .i64 0, .int .i64 0]) 2 16 Try.underlying53 hti t0 t1 t2 rfl (by omega) _ k _ rfl rfl _ _ 1 1 _ rfl hnew.out (by simp [Value.oneCell']) (by simp only [maxLen]; omega) (by omega) ?_; intro A6 c6 w6 hc6 hs6 H6'; have H6 := Lib.hid H6'; clear H6')
            go_roundg (n - (k + 1))
            case measure => omega
            case rel => exact ⟨k + 1, A7, c7, A6, c6, lc, es ++ [⟨pe, pa⟩], by omega, rfl, by go_num, rfl, rfl, hc6, HLC, HEL2, HOK2, Lib.hid (by rw [HF.out.1, List.append_assoc]; exact ⟨rfl, HF.out.2⟩), by rw [List.flatMap_append]; exact H6.out.pick [0, 1] (by decide) (by simp)⟩
        · obtain rfl : k = n := by omega
          rw [List.drop_of_length_le (by rw [HL.out]; omega)] at HF
          have HFE := Lib.hid HF.out
          clear HF
          go_wp2
          refine bodyPost_ret (v := .tuple #[.slice A8 k c8, .slice A7 lc.length c7, .int .i64 0]) (by simp [results, Try.results26]) rfl ?_
          have e1 : (play S ops l0).1 = es := by rw [HFE.out.1]; simp [play]
          have e2 : (play S ops l0).2 = lc := HFE.out.2
          unfold PlayRet
          rw [e1, e2, HEL.out]
          exact ⟨A8, c8, A7, c7, rfl, HS.out.pick [1, 0] (by decide) (by simp)⟩

theorem play_len {S : Nat} : ∀ (ops : List O) (l : List N), Ok S 0 l → (play S ops l).1.length = ops.length ∧ (play S ops l).2.length ≤ S
  | [], l, h => ⟨rfl, ok_len l 0 h⟩
  | o :: t, l, h => by
    have h2 : Ok S 0 (if (stepL S l o.kind o.at_ o.many).2.1 = 0 then (stepL S l o.kind o.at_ o.many).1 else l) := by
      split
      · exact stepL_ok h _ _ _
      · exact h
    obtain ⟨h3, h4⟩ := play_len t _ h2
    rw [play]
    exact ⟨by rw [List.length_cons, List.length_cons, h3], h4⟩
set_option maxRecDepth 100000 in
set_option maxHeartbeats 3200000 in
theorem spacePlays_out (A : Option Addr) (n c : Nat) (S : Int) (w : World) (hS : S < 0 ∨ 4096 < S) :
    Calls Try.prog 6 #[.int .i64 S, .slice A n c] w (Ret w (.bool true)) := by
  have c1 := Lib.hid (play_out A n c S w hS)
  have c2 := Lib.hid (fun W => nplay_out A n c S W hS)
  clear hS
  go_enter Try.func6, Try.ntmps6
  go_wp2_with fail
  refine c1.out.mono ?_; rintro en w1 ⟨rfl, hb1⟩
  have H1 := Lib.hid ((Sep.nil_ w).later hb1)
  go_wp2_with fail
  refine (c2.out _).mono ?_; rintro en w2 ⟨rfl, hb2⟩
  have H2 := Lib.hid (H1.out.later hb2)
  clear H1 c1 c2 hb1 hb2
  have e1 := Lib.hid (equal_ans none none 0 0 0 [] w2 Rd.nil_ Rd.nil_ rfl (by omega))
  go_wp2_with fail
  refine e1.out.mono ?_; rintro en w3 ⟨rfl, hb3⟩
  have H3 := Lib.hid (H2.out.later hb3)
  clear H2 hb3 e1
  have e2 := Lib.hid (equal_gaps none none 0 0 0 [] w3 Rd.nil_ Rd.nil_ rfl (by omega))
  go_wp2_with fail
  refine e2.out.mono ?_; rintro en w4 ⟨rfl, hb4⟩
  have H4 := Lib.hid (H3.out.later hb4)
  clear H3 hb4 e2
  go_wp2
  go_ret
  exact Ret.mk rfl H4.out.below
set_option maxRecDepth 100000 in
set_option maxHeartbeats 3200000 in
theorem spacePlays_in (A : Option Addr) (n c S : Nat) (ops : List O) (w : World) (hr : Rd w w.heap.size 3 A n (ops.flatMap O.cells)) (hl : ops.length = n) (hn : n * 24 ≤ 140737488351232) (hS : S ≤ 4096) :
    Calls Try.prog 6 #[.int .i64 (S : Int), .slice A n c] w (Ret w (.bool true)) := by
  obtain ⟨hl1, hl2⟩ := play_len ops (whole S) (whole_ok S)
  have c1 := Lib.hid (play_any A n c S ops w hr hl hn hS)
  have c2 := Lib.hid (fun W (hW : Below w.heap.size w W) => nplay_any A n c S ops W (hr.later hW) hl hn hS)
  generalize play S ops (whole S) = p at *
  obtain ⟨es, lf⟩ := p
  simp only at hl1 hl2
  rw [hl] at hl1
  have HL1 := Lib.hid hl1
  clear hr hl hl1
  go_enter Try.func6, Try.ntmps6
  go_wp2_with fail
  refine c1.out.mono ?_; rintro en w1 ⟨A1, q1, A2, q2, rfl, K⟩
  have H1 := Lib.hid K
  clear K
  simp only at H1 ⊢
  go_wp2_with fail
  refine (c2.out _ H1.out.below).mono ?_; rintro en w2 ⟨A3, q3, A4, q4, rfl, K⟩
  have H2 := Lib.hid (H1.out.join K)
  clear K H1 c1 c2
  simp only at H2 ⊢
  have e1 := Lib.hid (equal_ans A1 A3 es.length q1 q3 es w2 (H2.out.rd 0 rfl) (H2.out.rd 2 rfl) rfl (by rw [HL1.out]; omega))
  go_wp2_with fail
  refine e1.out.mono ?_; rintro en w3 ⟨rfl, hb3⟩
  have H3 := Lib.hid (H2.out.later hb3)
  clear H2 hb3 e1
  have e2 := Lib.hid (equal_gaps A2 A4 lf.length q2 q4 lf w3 (H3.out.rd 1 rfl) (H3.out.rd 3 rfl) rfl (by omega))
  go_wp2_with fail
  refine e2.out.mono ?_; rintro en w4 ⟨rfl, hb4⟩
  have H4 := Lib.hid (H3.out.later hb4)
  clear H3 hb4 e2
  go_wp2
  go_ret
  exact Ret.mk rfl H4.out.below

theorem o_cells : Try.prog.cellsOf 39 = 3 := by kernel_rfl
theorem o_bytes : Try.prog.bytesOf 39 = 24 := by kernel_rfl
set_option maxRecDepth 100000 in
set_option maxHeartbeats 400000 in
theorem spacePlays_lifted (os : Os) (started : os.Started) (H : Type) (enc : TypeId × Value → H) :
    ReturnsInHanded {} Try.checked os 6 .any (Rows.spacePlaysSpec.pre6 enc Try.prog Try.f6 Rows.spacePlaysRow.domain false)
      (Rows.spacePlaysSpec.post enc Try.prog Try.f6 false true false false) := by
  refine returnsInHanded_of_change_sized (C := Try.checked) own started (by kernel_rfl) Try.func6
    (ChangeSpec.witness6 (enc := enc) (C := Try.checked) false ⟨#[], #[.int .i64 0, .slice none 0 0], []⟩ 8 (by kernel_rfl) (by kernel_rfl) (by kernel_rfl) (by kernel_rfl)) ?_
  intro W base args ds gs before hval0 hW hcnd hsz0 _
  have hval : ∀ (j : Nat) t v, Try.f6.params[j]? = some t → args[j]? = some v → Value.okWide Try.prog W .any base t v := hval0
  have hsz : (DataW.weightsEach Try.prog (Try.f6.params.toList ++ Rows.spacePlaysSpec.plain.varTypes Try.prog) (ds ++ gs)).all (· ≤ reachBytes) = true := hsz0
  have hW0 := hW
  obtain ⟨p, q, hA0, hV, _, _, _⟩ := hW
  have hA : DataW.TrodAll enc Try.prog W 0 (fun _ => true) true Try.f6.params.toList args.toList ds p := hA0
  rw [Try.params6] at hA hval hsz
  obtain ⟨v0, vs0, d0, ds0, p0, q0, hargs, rfl, rfl, h0, r0⟩ := trodAll_cons hA
  obtain ⟨v1, vs1, d1, ds1, p1, q1, rfl, rfl, rfl, h1, r1⟩ := trodAll_cons r0
  obtain ⟨rfl, rfl, rfl⟩ := trodAll_nil r1
  obtain rfl : args = #[v0, v1] := by cases args; simp_all
  obtain ⟨S, rfl, rfl, rfl, _⟩ := open_int Try.underlying3 (hval 0 _ v0 rfl rfl) h0
  obtain ⟨fu1, hf1⟩ := h1
  obtain ⟨A, n, cap, l, hcs, hl, hnc, hcm, _, hrd, _, hd⟩ := open_list O.cells (fun _ => True) Try.underlying52 o_cells O.len (by omega) o_parse hf1
  obtain rfl := slice_of hcs (okWide_slice Try.underlying52 (hval 1 _ v1 rfl rfl))
  have hn := reach_of hsz (j := 1) rfl rfl Try.underlying52 o_bytes hd
  have hwalk : Calls Try.prog 6 #[.int .i64 S, .slice A n cap] W (Ret W (.bool true)) := by
    by_cases h : S < 0 ∨ 4096 < S
    · exact spacePlays_out A n cap S W h
    · obtain ⟨S', rfl⟩ := Int.eq_ofNat_of_zero_le (show 0 ≤ S by omega)
      exact spacePlays_in A n cap S' l W hrd hl hn (by omega)
  refine hwalk.mono fun e W' ⟨he, hg⟩ => ⟨_, he, ?_⟩
  exact law_post laidOut Try.underlying4 rfl rfl (by kernel_rfl) (fun xs hx => by
    match xs, hx with
    | [_, _], _ => rfl) hW0 hg
theorem spacePlays_over : Rows.spacePlaysRow.holds Try.pinned (OpenSpec.ofChange Rows.spacePlaysSpec) :=
  OpenClaim.holds_of_wide 6 Try.f6 rfl rfl rfl rfl rfl rfl rfl ⟨rfl, rfl, rfl, rfl, rfl⟩ rfl rfl rfl rfl rfl (by kernel_rfl) Try.func6 (by kernel_rfl)
    (of_decide_eq_true (by kernel_rfl)) (by unfold Func.isWrapper; first | (rw [if_pos (by decide +kernel)]; kernel_rfl) | (rw [if_neg (by decide +kernel)]; exact ⟨rfl, rfl⟩))
    (fun os started H enc _ => spacePlays_lifted os started H enc)
theorem spacePlays_holds : Rows.SpacePlaysSaid := spacePlays_over
end Sp
theorem spacePlays_holds : Rows.SpacePlaysSaid := Sp.spacePlays_holds
end Go.Proofs.Ytakmfjnfkjdbfaa
