/-
  RunsCut: runs.Cut answers as the reference does, for every list of runs and every two numbers. Conditions: none.
-/
import Derived.Test.YtmbkonhclniolaaRcC
import Derived.Test.YtmbkonhclniolaaParse
import Derived.Test.YtmbkonhclniolaaEq
namespace Go.Proofs.Ytmbkonhclniolaa
open Go.ChangeShapes Go.WideShapes Go.ChangeAt Go.RowKit
set_option linter.unusedVariables false
namespace Runs

theorem neqR (x : R) (w : World) : (binOp .neq 58 (.agg #[.int .i64 x.at_, .int .i64 x.disk, .int .i64 x.many]) (.agg #[.int .i64 x.at_, .int .i64 x.disk, .int .i64 x.many])).run Try.prog w = .ok (.bool false) w := by
  obtain ⟨a, b, d⟩ := x
  exact run_neq_self _ _ w (by kernel_rfl)
set_option maxHeartbeats 1600000 in
theorem equal_any (A A' : Option Addr) (n c c' : Nat) (l : List R) (w : World) (hr : Rd w w.heap.size 3 A n (l.flatMap R.cells)) (hr' : Rd w w.heap.size 3 A' n (l.flatMap R.cells)) (hl : l.length = n) (hn : n ≤ 9223372036854775807) :
    Calls Try.prog 25 #[.slice A n c, .slice A' n c'] w (Ret w (.bool true)) := by
  have HR := Lib.hid hr
  have HR' := Lib.hid hr'
  have HL := Lib.hid hl
  clear hr hr' hl
  go_enter Try.func25, Try.ntmps25
  go_wp2
  go_loopg [13] n (fun g i wr => ∃ k : Nat, k ≤ n ∧ g = n - k ∧ i = .int .i64 k ∧ Below w.heap.size w wr)
  case atStart => exact ⟨0, Nat.zero_le _, rfl, rfl, Below.refl _ _⟩
  case round =>
    obtain ⟨k, hk, rfl, rfl, hB⟩ := hrel
    by_cases hlt : k < n
    · obtain ⟨b, off, rfl, hb, hc⟩ := HR.out.at_ R.len (by omega)
      obtain ⟨b', off', rfl, hb', hc'⟩ := HR'.out.at_ R.len (by omega)
      obtain ⟨y, hy⟩ : ∃ y, l[k]? = some y := ⟨_, List.getElem?_eq_getElem (by rw [HL.out]; exact hlt)⟩
      have d1 := R.facts hb hB hc hy
      have d2 := R.facts hb' hB hc' hy
      have E := neqR y
      have i0 : (0 : Int) ≤ (k : Int) := by omega
      have i1 : (k : Int) < (n : Int) := by omega
      clear hc hc' hy
      go_wp2
      go_quiet (fail)
      go_wp2
      generalize hxw : World.drewN wr _ = xw
      have xh : Below wr.heap.size wr xw := by rw [← hxw]; exact below_drewN (Below.refl _ _) _
      clear hxw
      go_roundg (n - (k + 1))
      case measure => omega
      case rel => exact ⟨k + 1, by omega, rfl, by go_num, hB.trans (xh.mono hB.size)⟩
    · go_wp2
      go_ret
      exact Ret.mk rfl hB

set_option maxRecDepth 100000 in
set_option maxHeartbeats 1600000 in
theorem runsCut_form (A : Option Addr) (n c : Nat) (l : List R) (s m : Int) (w : World) (hr : Rd w w.heap.size 3 A n (l.flatMap R.cells)) (hl : l.length = n) (hn : n ≤ 9223372036854775807) (hno : rightB l = false) :
    Calls Try.prog 6 #[.slice A n c, .int .i64 s, .int .i64 m] w (Ret w (.bool true)) := by
  have cC := Lib.hid (cut_form A n c l s m w hr hl hn hno)
  have cM := Lib.hid (fun W (hW : Below w.heap.size w W) => mright_any A n c l W (hr.later hW) hl hn)
  rw [mr_right, hno] at cM
  clear hr hl hno
  go_enter Try.func6, Try.ntmps6
  go_wp2_with fail
  refine cC.out.mono ?_; rintro en w1 ⟨A1, c1, hc1, rfl, K⟩
  have hb := K.below
  clear K cC
  simp only [List.length_nil]
  go_wp2_with fail
  refine (cM.out w1 hb).mono ?_; rintro en w2 ⟨rfl, hb2⟩
  have hb3 := hb.trans (hb2.mono hb.size)
  clear cM
  go_wp2
  go_ret
  exact Ret.mk rfl hb3

set_option maxRecDepth 100000 in
set_option maxHeartbeats 1600000 in
theorem runsCut_range (A : Option Addr) (n c : Nat) (l : List R) (s m : Int) (w : World) (hr : Rd w w.heap.size 3 A n (l.flatMap R.cells)) (hl : l.length = n) (hn : n ≤ 9223372036854775807) (hyes : rightB l = true) (hb : s < 0 ∨ 1099511627776 < s ∨ m < 1 ∨ 1099511627776 < m) :
    Calls Try.prog 6 #[.slice A n c, .int .i64 s, .int .i64 m] w (Ret w (.bool true)) := by
  have cC := Lib.hid (cut_range A n c l s m w hr hl hn hyes hb)
  have cM := Lib.hid (fun W (hW : Below w.heap.size w W) => mright_any A n c l W (hr.later hW) hl hn)
  rw [mr_right, hyes] at cM
  clear hr hl hyes
  have hb' : s < 0 ∨ (¬ s < 0 ∧ 1099511627776 < s) ∨ (¬ s < 0 ∧ ¬ 1099511627776 < s ∧ m < 1) ∨ (¬ s < 0 ∧ ¬ 1099511627776 < s ∧ ¬ m < 1 ∧ 1099511627776 < m) := by omega
  clear hb
  rcases hb' with h1 | ⟨h1, h2⟩ | ⟨h1, h2, h3⟩ | ⟨h1, h2, h3, h4⟩
  all_goals
    go_enter Try.func6, Try.ntmps6
    go_wp2_with fail
    refine cC.out.mono ?_; rintro en w1 ⟨A1, c1, hc1, rfl, K⟩
    have hb := K.below
    clear K cC
    simp only [List.length_nil]
    go_wp2_with fail
    refine (cM.out w1 hb).mono ?_; rintro en w2 ⟨rfl, hb2⟩
    have hb3 := hb.trans (hb2.mono hb.size)
    clear cM
    go_wp2
    go_ret
    exact Ret.mk rfl hb3

set_option maxRecDepth 100000 in
set_option maxHeartbeats 1600000 in
theorem runsCut_in (A : Option Addr) (n c : Nat) (l : List R) (s m : Int) (w : World) (hr : Rd w w.heap.size 3 A n (l.flatMap R.cells)) (hl : l.length = n) (hyes : rightB l = true) (h1 : 0 ≤ s) (h2 : s ≤ 1099511627776) (h3 : 1 ≤ m) (h4 : m ≤ 1099511627776) :
    Calls Try.prog 6 #[.slice A n c, .int .i64 s, .int .i64 m] w (Ret w (.bool true)) := by
  have hsm := small_of_right hyes
  have hnf : NF none l := nf_of_right l none (by simp) (by rw [← rightB_eq]; exact hyes)
  have hn : n ≤ 1099511627777 := by rw [← hl]; exact nf_len hnf hsm
  have hclen := cut_len s (s + m) l
  obtain ⟨cl, hcl⟩ : ∃ cl, cl = cutL s (s + m) l := ⟨_, rfl⟩
  have cC := Lib.hid (cut_any A n c l s m w hr hl hn hyes h1 h2 h3 h4)
  rw [← hcl] at cC hclen
  have cM := Lib.hid (fun W (hW : Below w.heap.size w W) => mright_any A n c l W (hr.later hW) hl (by omega))
  rw [mr_right, hyes] at cM
  have cL := Lib.hid (fun W (hW : Below w.heap.size w W) => mlist_any A n c l cl s 0 m false W (hr.later hW) hl hn hsm h1 h2 (by omega) (by omega) h3 h4
    (by rw [hcl]; exact nf_cut (by omega) l none none hnf (by simp)) (fun q hq => by rw [hcl] at hq; exact cut_edges h3 hq 0) (fun x _ d => by rw [hcl]; exact cut_fn h3 hsm))
  have g1 : ¬ s < 0 := by omega
  have g2 : ¬ 1099511627776 < s := by omega
  have g3 : ¬ m < 1 := by omega
  have g4 : ¬ 1099511627776 < m := by omega
  have hcn : cl.length ≤ 9223372036854775807 := by omega
  clear hr hl hyes hsm hnf hn hclen hcl h1 h2 h3 h4
  cases hrc : rightB cl with
  | true =>
    rw [hrc] at cC
    simp only [if_true] at cC
    have cL' : Hid (∀ W, Below w.heap.size w W → Calls Try.prog 24 #[.slice A n c, .agg #[.int .i64 s, .int .i64 0, .int .i64 m], .bool false] W fun e w' => ∃ A' c', e = .returned (.tuple #[.slice A' cl.length c', .bool true]) ∧ Sep W w' [.row 58 3 (.slice A' cl.length c') cl.length (cl.flatMap R.cells)]) := Lib.hid (fun W hW => by
      have := cL.out W hW
      unfold MRet at this
      rw [hrc] at this
      exact this)
    clear cL hrc
    go_enter Try.func6, Try.ntmps6
    go_wp2_with fail
    refine cC.out.mono ?_; rintro en w1 ⟨A1, c1, hc1, rfl, K⟩
    have S1 := Lib.hid K
    clear K cC
    go_wp2_with fail
    refine (cM.out w1 S1.out.below).mono ?_; rintro en w2 ⟨rfl, hb2⟩
    have S2 := Lib.hid (S1.out.later hb2)
    clear cM S1 hb2
    go_wp2_with fail
    refine (cL'.out w2 S2.out.below).mono ?_; rintro en w3 ⟨A3, c3, rfl, K⟩
    have S3 := Lib.hid (S2.out.join K)
    have cE := Lib.hid (equal_any A1 A3 cl.length c1 c3 cl w3 (S3.out.rd 0 rfl) (S3.out.rd 1 rfl) rfl hcn)
    clear K S2 cL'
    go_wp2_with fail
    refine cE.out.mono ?_; rintro en w4 ⟨rfl, hb4⟩
    have S4 := Lib.hid (S3.out.later hb4)
    clear hb4 S3 cE
    go_wp2
    go_ret
    exact Ret.mk rfl S4.out.below
  | false =>
    rw [hrc] at cC
    simp only [Bool.false_eq_true, if_false] at cC
    have cL' : Hid (∀ W, Below w.heap.size w W → Calls Try.prog 24 #[.slice A n c, .agg #[.int .i64 s, .int .i64 0, .int .i64 m], .bool false] W fun e w' => ∃ A' c', e = .returned (.tuple #[.slice A' cl.length c', .bool false]) ∧ Sep W w' [.row 58 3 (.slice A' cl.length c') cl.length (cl.flatMap R.cells)]) := Lib.hid (fun W hW => by
      have := cL.out W hW
      unfold MRet at this
      rw [hrc] at this
      exact this)
    clear cL hrc
    go_enter Try.func6, Try.ntmps6
    go_wp2_with fail
    refine cC.out.mono ?_; rintro en w1 ⟨A1, c1, hc1, rfl, K⟩
    have hb := K.below
    clear K cC
    simp only [List.length_nil]
    go_wp2_with fail
    refine (cM.out w1 hb).mono ?_; rintro en w2 ⟨rfl, hb2⟩
    have hb3 := hb.trans (hb2.mono hb.size)
    clear cM hb hb2
    go_wp2_with fail
    refine (cL'.out w2 hb3).mono ?_; rintro en w3 ⟨A3, c3, rfl, K⟩
    have hb4 := hb3.trans (K.below.mono hb3.size)
    clear K cL' hb3
    go_wp2
    go_ret
    exact Ret.mk rfl hb4

theorem runsCut_walk (A : Option Addr) (n c : Nat) (l : List R) (s m : Int) (w : World) (hr : Rd w w.heap.size 3 A n (l.flatMap R.cells)) (hl : l.length = n) (hn : n ≤ 9223372036854775807) :
    Calls Try.prog 6 #[.slice A n c, .int .i64 s, .int .i64 m] w (Ret w (.bool true)) := by
  cases hb : rightB l with
  | false => exact runsCut_form A n c l s m w hr hl hn hb
  | true =>
    by_cases h : s < 0 ∨ 1099511627776 < s ∨ m < 1 ∨ 1099511627776 < m
    · exact runsCut_range A n c l s m w hr hl hn hb h
    · exact runsCut_in A n c l s m w hr hl hb (by omega) (by omega) (by omega) (by omega)

theorem run_cells : Try.prog.cellsOf 58 = 3 := by kernel_rfl
theorem run_parse {H : Type} {enc : TypeId × Value → H} {w : World} {base : Nat} {spare : Nat → Bool} {held : Bool} (n : Nat) (cs : List Value) (y : DataW H × List MemPlace)
    (h : DataW.trod enc Try.prog w base spare held n 58 cs = some y) : ∃ x : R, cs = x.cells ∧ True := by
  obtain ⟨hl, m, hf⟩ := parse_fields Try.underlying58 (by kernel_rfl) (by kernel_rfl) h
  obtain ⟨v0, z0, e0, t0⟩ := hf 0 _ rfl
  obtain ⟨v1, z1, e1, t1⟩ := hf 1 _ rfl
  obtain ⟨v2, z2, e2, t2⟩ := hf 2 _ rfl
  obtain ⟨a, rfl, _⟩ := parse_int Try.underlying3 t0
  obtain ⟨d, rfl, _⟩ := parse_int Try.underlying3 t1
  obtain ⟨m', rfl, _⟩ := parse_int Try.underlying3 t2
  match cs, hl with
  | [c0, c1, c2], _ =>
    simp at e0 e1 e2
    subst e0 e1 e2
    exact ⟨⟨a, d, m'⟩, rfl, trivial⟩

set_option maxRecDepth 100000 in
set_option maxHeartbeats 400000 in
theorem runsCut_lifted (os : Os) (started : os.Started) (H : Type) (enc : TypeId × Value → H) :
    ReturnsInHanded {} Try.checked os 6 .any (Rows.runsCutSpec.pre6 enc Try.prog Try.f6 Rows.runsCutRow.domain false)
      (Rows.runsCutSpec.post enc Try.prog Try.f6 false true false false) := by
  refine returnsInHanded_of_change (C := Try.checked) own started (by kernel_rfl) Try.func6
    (ChangeSpec.witness6 (enc := enc) (C := Try.checked) false ⟨#[], #[.slice none 0 0, .int .i64 0, .int .i64 0], []⟩ 8 (by kernel_rfl) (by kernel_rfl) (by kernel_rfl) (by kernel_rfl)) ?_
  intro W base args ds gs before hval0 hW hcnd _
  have hval : ∀ (j : Nat) t v, Try.f6.params[j]? = some t → args[j]? = some v → Value.okWide Try.prog W .any base t v := hval0
  have hW0 := hW
  obtain ⟨p, q, hA0, hV, _, _, _⟩ := hW
  have hA : DataW.TrodAll enc Try.prog W 0 (fun _ => true) true Try.f6.params.toList args.toList ds p := hA0
  rw [Try.params6] at hA hval
  obtain ⟨v0, vs0, d0, ds0, p0, q0, hargs, rfl, rfl, h0, r0⟩ := trodAll_cons hA
  obtain ⟨v1, vs1, d1, ds1, p1, q1, rfl, rfl, rfl, h1, r1⟩ := trodAll_cons r0
  obtain ⟨v2, vs2, d2, ds2, p2, q2, rfl, rfl, rfl, h2, r2⟩ := trodAll_cons r1
  obtain ⟨rfl, rfl, rfl⟩ := trodAll_nil r2
  obtain rfl : args = #[v0, v1, v2] := by cases args; simp_all
  obtain ⟨b, rfl, rfl, rfl, _⟩ := open_int Try.underlying3 (hval 1 _ v1 rfl rfl) h1
  obtain ⟨m, rfl, rfl, rfl, _⟩ := open_int Try.underlying3 (hval 2 _ v2 rfl rfl) h2
  obtain ⟨fu, hf⟩ := h0
  obtain ⟨A, n, cap, l, hcs, hl, hnc, hcm, _, hrd, _, _⟩ := open_list R.cells (fun _ => True) Try.underlying51 run_cells R.len (by omega) run_parse hf
  obtain rfl := slice_of hcs (okWide_slice Try.underlying51 (hval 0 _ v0 rfl rfl))
  unfold maxLen at hcm
  refine (runsCut_walk A n cap l b m W hrd hl (by omega)).mono fun e W' ⟨he, hg⟩ => ⟨_, he, ?_⟩
  exact law_post laidOut Try.underlying4 rfl rfl (by kernel_rfl) (fun xs hx => by
    match xs, hx with
    | [_, _, _], _ => rfl) hW0 hg
theorem runsCut_over : Rows.runsCutRow.holds Try.pinned (OpenSpec.ofChange Rows.runsCutSpec) :=
  OpenClaim.holds_of_wide 6 Try.f6 rfl rfl rfl rfl rfl rfl rfl ⟨rfl, rfl, rfl, rfl, rfl⟩ rfl rfl rfl rfl rfl (by kernel_rfl) Try.func6 (by kernel_rfl)
    (of_decide_eq_true (by kernel_rfl)) (by unfold Func.isWrapper; first | (rw [if_pos (by decide +kernel)]; kernel_rfl) | (rw [if_neg (by decide +kernel)]; exact ⟨rfl, rfl⟩))
    (fun os started H enc _ => runsCut_lifted os started H enc)
theorem runsCut_holds : Rows.RunsCutSaid := runsCut_over
end Runs
theorem runsCut_holds : Rows.RunsCutSaid := Runs.runsCut_holds
end Go.Proofs.Ytmbkonhclniolaa
