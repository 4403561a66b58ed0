/-
  Walk of ftl.Play. Conditions: none beyond each theorem's own premises.
-/
import Derived.Test.YtfljbiobiobamaaFtW6
import Derived.Test.YtfljbiobiobamaaNdN
namespace Go.Proofs.Ytfljbiobiobamaa
open Go.RowKit
set_option linter.unusedVariables false
namespace Ft
open Nd (B Rt RtB)

structure A where
  (e d : Int)
def A.cells (a : A) : List Value := [.int .i64 a.e, .int .i64 a.d]
theorem A.len : ∀ x : A, x.cells.length = 2 := fun _ => rfl
theorem O.len : ∀ x : O, x.cells.length = 3 := fun _ => rfl
theorem A.one (l : List A) : ∀ u ∈ l.flatMap A.cells, u.oneCell' = true := by
  intro u hu
  rw [List.mem_flatMap] at hu
  obtain ⟨x, _, hu⟩ := hu
  simp only [A.cells, List.mem_cons, List.not_mem_nil, or_false] at hu
  rcases hu with rfl | rfl <;> rfl
inductive Plays : (Int → Option Int) → List O → List A → Prop
  | nil {has : Int → Option Int} : Plays has [] []
  | cons {has has' : Int → Option Int} {o : O} {os : List O} {e d : Int} {as_ : List A} (h : Way has o e d has') (r : Plays has' os as_) : Plays has (o :: os) (⟨e, d⟩ :: as_)
theorem plays_ex : ∀ (os : List O) (has : Int → Option Int), ∃ as_, Plays has os as_ ∧ as_.length = os.length
  | [], has => ⟨[], .nil, rfl⟩
  | o :: os, has => by
    obtain ⟨e, d, has', hw⟩ := way_ex has o
    obtain ⟨as_, h1, h2⟩ := plays_ex os has'
    exact ⟨⟨e, d⟩ :: as_, .cons hw h1, by simp [h2]⟩
theorem drop_at {α : Type} {l : List α} {k : Nat} {x : α} (h : l[k]? = some x) : l.drop k = x :: l.drop (k + 1) := by
  obtain ⟨h1, h2⟩ := List.getElem?_eq_some_iff.1 h
  rw [List.drop_eq_getElem_cons h1, h2]
theorem ans_info : (Try.prog.info? 46).map (fun i => (i.zero, i.size, i.bytes)) = some (some (.agg #[.int .i64 0, .int .i64 0]), 2, 16) := by kernel_rfl
theorem int_info : (Try.prog.info? 3).map (fun i => (i.zero, i.size, i.bytes)) = some (some (.int .i64 0), 1, 8) := by kernel_rfl
theorem good0 : Good Nd.new8 0 mno mno mno 0 := ⟨inv0, by omega, Nd.B.blank 0, rfl, rfl⟩
def PlayRet (w : World) (n : Nat) (as_ : List A) (en : Ending) (w' : World) : Prop :=
  ∃ A1 c1 A2 c2, en = .returned (.tuple #[.slice A1 n c1, .slice A2 8 c2, .int .i64 0]) ∧ Sep w w' [.row 46 2 (.slice A1 n c1) n (as_.flatMap A.cells)]

set_option maxRecDepth 100000 in
set_option maxHeartbeats 1600000 in
theorem play_big (Ad : Option Addr) (n c : Nat) (w : World) (hn : 400 < n) :
    Calls Try.prog 13 #[.slice Ad n c] w (fun en w' => en = .returned (.tuple #[.slice none 0 0, .slice none 0 0, .int .i64 2]) ∧ Below w.heap.size w w') := by
  have i1 : (400 : Int) < (n : Int) := by omega
  clear hn
  go_enter Try.func13, Try.ntmps13
  go_wp2
  refine bodyPost_ret (v := .tuple #[.slice none 0 0, .slice none 0 0, .int .i64 2]) (by simp [results, Try.results13]) rfl ?_
  exact ⟨rfl, Below.refl _ _⟩

set_option maxRecDepth 100000 in
set_option maxHeartbeats 6400000 in
theorem play_any (Ad : Option Addr) (n c : Nat) (ops : List O) (as_ : List A) (w : World) (hr : Rd w w.heap.size 3 Ad n (ops.flatMap O.cells)) (hl : ops.length = n) (hn : n ≤ 400) (hp : Plays mno ops as_)
    (hwf : ∀ o ∈ ops, (Lit.int .i64 o.n).wf = true) :
    Calls Try.prog 13 #[.slice Ad n c] w (PlayRet w n as_) := by
  obtain ⟨ti, hti, t0, t1, t2⟩ := info_parts ans_info
  obtain ⟨ii, hii, j0, j1, j2⟩ := info_parts int_info
  have hmm := @run_makeMap Try.prog
  have HR := Lib.hid hr
  have HL := Lib.hid hl
  have HW := Lib.hid hwf
  have HF : Hid (∃ es', Plays mno (ops.drop 0) es' ∧ as_ = [] ++ es') := Lib.hid ⟨as_, hp, rfl⟩
  have i4 : ¬ (400 : Int) < (n : Int) := by omega
  clear hr hl hp hwf
  go_enter Try.func13, Try.ntmps13
  go_wp2_with fail
  refine (Nd.new_any _).mono ?_; rintro en w1 ⟨A1, c1, hc1, rfl, K⟩
  have S1 : Hid (Sep w (((w1.alloc (.map #[] 0)).alloc (.map #[] 0)).alloc (.cells #[.slice A1 8 c1, .int .i64 0, .map (some w1.heap.size), .map (some (w1.heap.size + 1))] 91)) (dI (w1.heap.size + 2) (.slice A1 8 c1) 0 w1.heap.size (w1.heap.size + 1) :: flI A1 c1 Nd.new8 :: owI w1.heap.size 0 mno :: atI (w1.heap.size + 1) 0 mno :: [.row 46 2 (.slice none 0 0) 0 (([] : List A).flatMap A.cells)])) := Lib.hid (by
    have h1 := ((K.newMap Try.prog 119 smk ienc).newMap Try.prog 3 (Value.int .i64) smk)
    have h2 := (h1.new 91 [.slice A1 8 c1, .int .i64 0, .map (some w1.heap.size), .map (some (w1.heap.size + 1))]).nilRow 46 2 none
    have e1 : (w1.alloc (.map #[] 0)).heap.size = w1.heap.size + 1 := by simp
    have e2 : ((w1.alloc (.map #[] 0)).alloc (.map #[] 0)).heap.size = w1.heap.size + 2 := by simp
    rw [e1, e2] at h2
    exact h2.pick [3, 0, 1, 2, 4] (by decide) (by simp))
  have hS1 : Hid (Is w (w1.heap.size + 2) w1.heap.size (w1.heap.size + 1) mno 0 [.row 46 2 (.slice none 0 0) 0 (([] : List A).flatMap A.cells)] (((w1.alloc (.map #[] 0)).alloc (.map #[] 0)).alloc (.cells #[.slice A1 8 c1, .int .i64 0, .map (some w1.heap.size), .map (some (w1.heap.size + 1))] 91))) := Lib.hid ⟨_, _, _, _, St.mk S1.out hc1, good0⟩
  clear K S1
  go_wp2
  clear hmm
  generalize ((w1.alloc (.map #[] 0)).alloc (.map #[] 0)).alloc (.cells #[.slice A1 8 c1, .int .i64 0, .map (some w1.heap.size), .map (some (w1.heap.size + 1))] 91) = wo at hS1 ⊢
  obtain ⟨ga, HG2⟩ : ∃ g, Hid (g = w1.heap.size + 1) := ⟨_, Lib.hid rfl⟩
  obtain ⟨gd, HGS⟩ : ∃ g, Hid (g = w1.heap.size + 2) := ⟨_, Lib.hid rfl⟩
  rw [← HGS.out, ← HG2.out] at hS1
  rw [← HGS.out]
  obtain ⟨go, HG1⟩ : ∃ g, Hid (g = w1.heap.size) := ⟨_, Lib.hid rfl⟩
  rw [← HG1.out] at hS1
  clear HGS HG2 HG1
  go_loopg [6, 22] n (fun q v6 i wr => ∃ (k : Nat) (A5 : Option Addr) (c5 : Nat) (has : Int → Option Int) (es : List A), k ≤ n ∧ q = n - k ∧ i = .int .i64 (k : Int) ∧ v6 = .slice A5 k c5 ∧ Hid (es.length = k) ∧
    Hid (∃ es', Plays has (ops.drop k) es' ∧ as_ = es ++ es') ∧ Is w gd go ga has (5 * k) [.row 46 2 (.slice A5 k c5) k (es.flatMap A.cells)] wr)
  case atStart => exact ⟨0, none, 0, mno, [], Nat.zero_le _, rfl, rfl, rfl, Lib.hid rfl, HF, hS1.out⟩
  case round =>
    clear HF hS1 wo
    obtain ⟨k, A5, c5, has, es, hk, rfl, rfl, rfl, HEL, HF, hs⟩ := hrel
    have HS := Lib.hid hs
    clear hs
    by_cases hlt : k < n
    · obtain ⟨b, off, rfl, hb, hc⟩ := HR.out.at_ O.len (by omega)
      obtain ⟨o, ho⟩ : ∃ o, ops[k]? = some o := ⟨_, List.getElem?_eq_getElem (by rw [HL.out]; exact hlt)⟩
      have hbel : Below w.heap.size w wr := by obtain ⟨_, _, _, _, ⟨_, _, _, _, _, H⟩, _⟩ := HS.out; exact H.below
      have q0 : wr.cell? ⟨b, off + k * 3, none⟩ = some (.int .i64 o.kind) := (hbel.cell hb).trans (hc k 0 o _ ho rfl)
      have q1 : wr.cell? ⟨b, off + k * 3 + 1, none⟩ = some (.int .i64 o.n) := (hbel.cell hb).trans (hc k 1 o _ ho rfl)
      have q2 : wr.cell? ⟨b, off + k * 3 + 2, none⟩ = some (.int .i64 o.data) := (hbel.cell hb).trans (hc k 2 o _ ho rfl)
      have i0 : (0 : Int) ≤ (k : Int) := by omega
      have i1 : (k : Int) < (n : Int) := by omega
      have HWF : Hid ((Lit.int .i64 o.n).wf = true) := Lib.hid (HW.out o (List.mem_of_getElem? ho))
      obtain ⟨e, d, has', es1, HWAY, HP2, HAS⟩ : ∃ e d has' es1, Hid (Way has o e d has') ∧ Hid (Plays has' (ops.drop (k + 1)) es1) ∧ Hid (as_ = (es ++ [(⟨e, d⟩ : A)]) ++ es1) := by
        obtain ⟨es', h1, h2⟩ := HF.out
        rw [drop_at ho] at h1
        cases h1 with
        | cons hw hp => exact ⟨_, _, _, _, Lib.hid hw, Lib.hid hp, Lib.hid (by rw [h2]; simp)⟩
      have HEL2 : Hid ((es ++ [(⟨e, d⟩ : A)]).length = k + 1) := Lib.hid (by rw [List.length_append, HEL.out]; rfl)
      have HBK : Hid (5 * k + 5 < 1048576) := Lib.hid (by omega)
      clear hc ho HF hbel
      go_upto_region 8 with (fail)
      have HS2 : Hid (Is w gd go ga has (5 * k) (.cells wr.heap.size 93 o.cells :: [.row 46 2 (.slice A5 k c5) k (es.flatMap A.cells)]) (wr.alloc (.cells #[.int .i64 o.kind, .int .i64 o.n, .int .i64 o.data] 93))) := Lib.hid (by
          obtain ⟨fl, hd, ow, at_, h1, h2⟩ := HS.out
          exact ⟨fl, hd, ow, at_, h1.boxed 93 o.cells, h2⟩)
      clear HS q0 q1 q2
      generalize wr.alloc (.cells #[.int .i64 o.kind, .int .i64 o.n, .int .i64 o.data] 93) = wx at HS2 ⊢
      generalize wr.heap.size = gx at HS2 ⊢
      obtain ⟨p0, p1, p2⟩ : wx.cell? ⟨gx, 0, none⟩ = some (.int .i64 o.kind) ∧ wx.cell? ⟨gx, 1, none⟩ = some (.int .i64 o.n) ∧ wx.cell? ⟨gx, 2, none⟩ = some (.int .i64 o.data) := by
        obtain ⟨_, _, _, _, ⟨_, _, _, _, _, H⟩, _⟩ := HS2.out
        exact ⟨H.cell 4 rfl (k := 0) rfl, H.cell 4 rfl (k := 1) rfl, H.cell 4 rfl (k := 2) rfl⟩
      go_wp2_with fail
      refine (step_any gd go ga (5 * k) o e d has has' _ w _ HS2.out HWAY.out HWF.out HBK.out).mono ?_
      rintro en w5 ⟨rfl, fl5, hd5, ow5, at5, ⟨gf5, c5', no5, na5, hc5, H5⟩, hg5⟩
      have HH := Lib.hid H5
      have HC5 := Lib.hid hc5
      have HG5 := Lib.hid hg5
      have hnew := Lib.hid (Rd.of_own (own_new w5 46 #[.int .i64 e, .int .i64 d] 2 1 rfl (by simp [maxLen]) (Nat.le_refl _)))
      clear H5 hc5 hg5 p0 p1 p2 HS2
      go_wp2_with (at_builtin; refine wpList_append_sep (HH.out.alloc _) 5 rfl (.tmp 26) (.tmp 30) 39 rfl 46 ti (.agg #[.int .i64 0, .int .i64 0]) 2 16 Try.underlying39 hti t0 t1 t2 rfl (by omega) _ k _ rfl rfl _ _ 1 1 _ rfl hnew.out (by simp [Value.oneCell']) (by simp only [maxLen]; omega) (by omega) ?_; intro A6 c6 w6 hc6 hs6 H6'; have H6 := Lib.hid H6'; clear H6')
      go_roundg (n - (k + 1))
      case measure => omega
      case rel =>
        refine ⟨k + 1, A6, c6, has', es ++ [⟨e, d⟩], by omega, rfl, by go_num, rfl, HEL2, Lib.hid ⟨es1, HP2.out, HAS.out⟩, fl5, hd5, ow5, at5, ⟨gf5, c5', no5, na5, HC5.out, ?_⟩, HG5.out⟩
        rw [List.flatMap_append]
        exact H6.out.sub (.cons_cons _ (.cons_cons _ (.cons_cons _ (.cons_cons _ (.cons _ (.refl _))))))
    · obtain rfl : k = n := by omega
      obtain ⟨es', h1, h2⟩ := HF.out
      rw [List.drop_of_length_le (by rw [HL.out]; omega)] at h1
      cases h1
      rw [List.append_nil] at h2
      subst h2
      obtain ⟨fl5, hd5, ow5, at5, ⟨gf, cf, no5, na5, hc5, H5⟩, hg5⟩ := HS.out
      have HFL := Lib.hid hg5.inv.rt.1
      have c0 := H5.cell 0 rfl (k := 0) rfl
      have HH := Lib.hid ((H5.pick [1, 4] (by decide) (by simp)).nilRow 3 1 none)
      clear H5 hc5 hg5 HS HF
      go_wp2
      clear c0
      go_loopg [9, 38] 8 (fun q v9 i wr => ∃ (j : Nat) (A7 : Option Addr) (c7 : Nat) (xs : List Value), j ≤ 8 ∧ q = 8 - j ∧ i = .int .i64 (j : Int) ∧ v9 = .slice A7 j c7 ∧ Sep w wr [flI (some ⟨gf, 0, none⟩) cf fl5, .row 46 2 (.slice A5 k c5) k (as_.flatMap A.cells), .row 3 1 (.slice A7 j c7) j xs])
      case atStart => exact ⟨0, none, 0, [], Nat.zero_le _, rfl, rfl, rfl, HH.out⟩
      case round =>
        clear HH
        obtain ⟨j, A7, c7, xs, hj, rfl, rfl, rfl, hs⟩ := hrel
        have HS := Lib.hid hs
        clear hs
        by_cases hlt : j < 8
        · obtain ⟨x, hx⟩ : ∃ x, fl5[j]? = some x := ⟨_, List.getElem?_eq_getElem (by rw [HFL.out]; exact hlt)⟩
          have hcell : ∀ (i : Nat) (u : Value), i < 6 → x.cells[i]? = some u → wr.cell? ⟨gf, j * 6 + i, none⟩ = some u := fun i u hi hu => by
            obtain ⟨g, e, _, h⟩ := HS.out.rowAt 0 rfl (by omega)
            cases e
            exact (h _).1 _ ((flat_get Nd.B.len fl5 j i x hx hi).trans hu)
          have q0 : wr.cell? ⟨gf, j * 6, none⟩ = some (.int .i64 x.a) := hcell 0 _ (by omega) rfl
          have q1 : wr.cell? ⟨gf, j * 6 + 1, none⟩ = some (.int .i64 x.b) := hcell 1 _ (by omega) rfl
          have q2 : wr.cell? ⟨gf, j * 6 + 2, none⟩ = some (.int .i64 x.c) := hcell 2 _ (by omega) rfl
          have q3 : wr.cell? ⟨gf, j * 6 + 3, none⟩ = some (.int .i64 x.d) := hcell 3 _ (by omega) rfl
          have q4 : wr.cell? ⟨gf, j * 6 + 4, none⟩ = some (.int .i64 x.done) := hcell 4 _ (by omega) rfl
          have q5 : wr.cell? ⟨gf, j * 6 + 5, none⟩ = some (.int .i64 x.wear) := hcell 5 _ (by omega) rfl
          have i0 : (0 : Int) ≤ (j : Int) := by omega
          have i1 : (j : Int) < 8 := by omega
          clear hcell hx
          go_upto_region 14 with (fail)
          have HS2 : Hid (Sep w (wr.alloc (.cells #[.int .i64 x.a, .int .i64 x.b, .int .i64 x.c, .int .i64 x.d, .int .i64 x.done, .int .i64 x.wear] 97)) [flI (some ⟨gf, 0, none⟩) cf fl5, .row 46 2 (.slice A5 k c5) k (as_.flatMap A.cells), .row 3 1 (.slice A7 j c7) j xs, .cells wr.heap.size 97 x.cells]) := Lib.hid (HS.out.new 97 x.cells)
          clear q0 q1 q2 q3 q4 q5 HS
          generalize wr.alloc (.cells #[.int .i64 x.a, .int .i64 x.b, .int .i64 x.c, .int .i64 x.d, .int .i64 x.done, .int .i64 x.wear] 97) = wx at HS2 ⊢
          generalize wr.heap.size = gx at HS2 ⊢
          have q5 := HS2.out.cell 3 rfl (k := 5) rfl
          have hnew := Lib.hid (Rd.of_own (own_new wx 3 #[.int .i64 x.wear] 1 1 rfl (by simp [maxLen]) (Nat.le_refl _)))
          go_wp2_with (at_builtin; refine wpList_append_sep (HS2.out.alloc _) 2 rfl (.tmp 42) (.tmp 45) 23 rfl 3 ii (.int .i64 0) 1 8 Try.underlying23 hii j0 j1 j2 rfl (by omega) _ j _ rfl rfl _ _ 1 1 _ rfl hnew.out (by simp [Value.oneCell']) (by simp only [maxLen]; omega) (by omega) ?_; intro A6 c6 w6 hc6 hs6 H6'; have H6 := Lib.hid H6'; clear H6')
          go_roundg (8 - (j + 1))
          case measure => omega
          case rel => exact ⟨j + 1, A6, c6, _, by omega, rfl, by go_num, rfl, H6.out.pick [0, 1, 2] (by decide) (by simp)⟩
        · obtain rfl : j = 8 := by omega
          go_wp2
          refine bodyPost_ret (v := .tuple #[.slice A5 k c5, .slice A7 8 c7, .int .i64 0]) (by simp [results, Try.results13]) rfl ?_
          exact ⟨A5, c5, A7, c7, rfl, HS.out.pick [1] (by decide) (by simp)⟩
end Ft
end Go.Proofs.Ytfljbiobiobamaa
