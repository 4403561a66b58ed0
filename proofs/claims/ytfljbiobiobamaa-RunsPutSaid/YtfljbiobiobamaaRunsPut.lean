/-
  RunsPut: runs.Put answers as the reference does, for every list of runs and every run. Conditions: none.
-/
import Derived.Test.YtfljbiobiobamaaRpW2
import Derived.Test.YtfljbiobiobamaaParse
import Derived.Test.YtfljbiobiobamaaParse3
import Derived.Test.YtfljbiobiobamaaEq
namespace Go.Proofs.Ytfljbiobiobamaa
open Go.ChangeShapes Go.WideShapes Go.ChangeAt Go.RowKit
set_option linter.unusedVariables false
namespace Runs

theorem neqR (x : R) (w : World) : (binOp .neq 50 (.agg #[.int .i64 x.at_, .int .i64 x.disk, .int .i64 x.many]) (.agg #[.int .i64 x.at_, .int .i64 x.disk, .int .i64 x.many])).run Try.prog w = .ok (.bool false) w := by
  obtain ⟨a, b, d⟩ := x
  exact run_neq_self _ _ w (by kernel_rfl)
set_option maxHeartbeats 1600000 in
theorem equal_any (A A' : Option Addr) (n c c' : Nat) (l : List R) (w : World) (hr : Rd w w.heap.size 3 A n (l.flatMap R.cells)) (hr' : Rd w w.heap.size 3 A' n (l.flatMap R.cells)) (hl : l.length = n) (hn : n ≤ 9223372036854775807) :
    Calls Try.prog 19 #[.slice A n c, .slice A' n c'] w (Ret w (.bool true)) := by
  have HR := Lib.hid hr
  have HR' := Lib.hid hr'
  have HL := Lib.hid hl
  clear hr hr' hl
  go_enter Try.func19, Try.ntmps19
  go_wp2
  go_loopg [13] n (fun g i wr => ∃ k : Nat, k ≤ n ∧ g = n - k ∧ i = .int .i64 k ∧ Below w.heap.size w wr)
  case atStart => exact ⟨0, Nat.zero_le _, rfl, rfl, Below.refl _ _⟩
  case round =>
    obtain ⟨k, hk, rfl, rfl, hB⟩ := hrel
    by_cases hlt : k < n
    · obtain ⟨b, off, rfl, hb, hc⟩ := HR.out.at_ R.len (by omega)
      obtain ⟨b', off', rfl, hb', hc'⟩ := HR'.out.at_ R.len (by omega)
      obtain ⟨y, hy⟩ : ∃ y, l[k]? = some y := ⟨_, List.getElem?_eq_getElem (by rw [HL.out]; exact hlt)⟩
      have d1 := R.facts hb hB hc hy
      have d2 := R.facts hb' hB hc' hy
      have E := neqR y
      have i0 : (0 : Int) ≤ (k : Int) := by omega
      have i1 : (k : Int) < (n : Int) := by omega
      clear hc hc' hy
      go_wp2
      go_quiet (fail)
      go_wp2
      generalize hxw : World.drewN wr _ = xw
      have xh : Below wr.heap.size wr xw := by rw [← hxw]; exact below_drewN (Below.refl _ _) _
      clear hxw
      go_roundg (n - (k + 1))
      case measure => omega
      case rel => exact ⟨k + 1, by omega, rfl, by go_num, hB.trans (xh.mono hB.size)⟩
    · go_wp2
      go_ret
      exact Ret.mk rfl hB
theorem right_one (r : R) : rightB [r] = oneB r := by
  rw [rightB_eq]
  simp [rightR, chk]

set_option maxRecDepth 100000 in
set_option maxHeartbeats 1600000 in
theorem put_form (A : Option Addr) (n c : Nat) (l : List R) (ra rd rm : Int) (w : World) (hr : Rd w w.heap.size 3 A n (l.flatMap R.cells)) (hl : l.length = n) (hn : n ≤ 9223372036854775807) (hno : rightB l = false ∨ oneB ⟨ra, rd, rm⟩ = false) :
    Calls Try.prog 16 #[.slice A n c, .agg #[.int .i64 ra, .int .i64 rd, .int .i64 rm]] w (fun e w' => e = .returned (.tuple #[.slice none 0 0, .int .i64 1]) ∧ Below w.heap.size w w') := by
  have HS1 : Hid (Sep w (w.alloc (.cells #[.int .i64 ra, .int .i64 rd, .int .i64 rm] 50)) [.cells w.heap.size 50 [.int .i64 ra, .int .i64 rd, .int .i64 rm]]) := Lib.hid ((Sep.nil_ w).new 50 [.int .i64 ra, .int .i64 rd, .int .i64 rm])
  have cR := Lib.hid (right_any A n c l _ (hr.later HS1.out.below) hl hn)
  cases hb : rightB l with
  | false =>
    rw [hb] at cR
    clear hr hl hno hb
    go_enter Try.func16, Try.ntmps16
    go_upto_region 1 with (fail)
    generalize w.alloc (.cells #[.int .i64 ra, .int .i64 rd, .int .i64 rm] 50) = wo at HS1 cR ⊢
    go_wp2_with fail
    refine cR.out.mono ?_; rintro en w1 ⟨rfl, hb1⟩
    have HS2 := Lib.hid (HS1.out.later hb1)
    go_wp2
    refine bodyPost_ret (v := .tuple #[.slice none 0 0, .int .i64 1]) (by simp [results, Try.results16]) rfl ?_
    exact ⟨rfl, HS2.out.below⟩
  | true =>
    rw [hb] at cR
    have cO := Lib.hid (fun W => one_is ⟨ra, rd, rm⟩ false W (hno.resolve_left (by rw [hb]; simp)))
    unfold R.val at cO
    clear hr hl hno hb
    go_enter Try.func16, Try.ntmps16
    go_upto_region 1 with (fail)
    generalize w.alloc (.cells #[.int .i64 ra, .int .i64 rd, .int .i64 rm] 50) = wo at HS1 cR ⊢
    generalize w.heap.size = gx at HS1 ⊢
    go_wp2_with fail
    refine cR.out.mono ?_; rintro en w1 ⟨rfl, hb1⟩
    have HS2 := Lib.hid (HS1.out.later hb1)
    have x0 := HS2.out.cell 0 rfl (k := 0) rfl
    have x1 := HS2.out.cell 0 rfl (k := 1) rfl
    have x2 := HS2.out.cell 0 rfl (k := 2) rfl
    clear cR hb1 HS1
    go_wp2_with fail
    refine (cO.out _).mono ?_; rintro en w2 ⟨rfl, hb2⟩
    have HS3 := Lib.hid (HS2.out.later hb2)
    clear cO hb2 HS2 x0 x1 x2
    go_wp2
    refine bodyPost_ret (v := .tuple #[.slice none 0 0, .int .i64 1]) (by simp [results, Try.results16]) rfl ?_
    exact ⟨rfl, HS3.out.below⟩

set_option maxRecDepth 100000 in
set_option maxHeartbeats 3200000 in
theorem runsPut_form (A : Option Addr) (n c : Nat) (l : List R) (ra rd rm : Int) (w : World) (hr : Rd w w.heap.size 3 A n (l.flatMap R.cells)) (hl : l.length = n) (hn : n ≤ 9223372036854775807) (hno : rightB l = false ∨ oneB ⟨ra, rd, rm⟩ = false) :
    Calls Try.prog 6 #[.slice A n c, .agg #[.int .i64 ra, .int .i64 rd, .int .i64 rm]] w (Ret w (.bool true)) := by
  have HS1 : Hid (Sep w (w.alloc (.cells #[.int .i64 ra, .int .i64 rd, .int .i64 rm] 50)) [.cells w.heap.size 50 [.int .i64 ra, .int .i64 rd, .int .i64 rm]]) := Lib.hid ((Sep.nil_ w).new 50 [.int .i64 ra, .int .i64 rd, .int .i64 rm])
  have cP := Lib.hid (put_form A n c l ra rd rm _ (hr.later HS1.out.below) hl hn hno)
  have cM := Lib.hid (fun W (hW : Below w.heap.size w W) => mright_any A n c l W (hr.later hW) hl hn)
  rw [mr_right] at cM
  go_enter Try.func6, Try.ntmps6
  go_upto_region 1 with (fail)
  generalize w.alloc (.cells #[.int .i64 ra, .int .i64 rd, .int .i64 rm] 50) = wo at HS1 cP ⊢
  generalize w.heap.size = gx at HS1 ⊢
  have x0 := HS1.out.cell 0 rfl (k := 0) rfl
  have x1 := HS1.out.cell 0 rfl (k := 1) rfl
  have x2 := HS1.out.cell 0 rfl (k := 2) rfl
  go_wp2_with fail
  refine cP.out.mono ?_; rintro en w1 ⟨rfl, hb1⟩
  have HS2 := Lib.hid (HS1.out.later hb1)
  clear cP hb1 HS1 x0 x1 x2
  cases hb : rightB l with
  | false =>
    rw [hb] at cM
    clear hr hl hno hb
    go_wp2_with fail
    refine (cM.out w1 HS2.out.below).mono ?_; rintro en w2 ⟨rfl, hb2⟩
    have HS3 := Lib.hid (HS2.out.later hb2)
    clear cM hb2 HS2
    go_wp2
    go_ret
    exact Ret.mk rfl HS3.out.below
  | true =>
    rw [hb] at cM
    have hone := hno.resolve_left (by rw [hb]; simp)
    have HR1 := Lib.hid ((right_one ⟨ra, rd, rm⟩).trans hone)
    clear hr hl hno hb hone
    go_wp2_with fail
    refine (cM.out w1 HS2.out.below).mono ?_; rintro en w2 ⟨rfl, hb2⟩
    have HS3 := Lib.hid (HS2.out.later hb2)
    clear cM hb2 HS2
    have x0 := HS3.out.cell 0 rfl (k := 0) rfl
    have x1 := HS3.out.cell 0 rfl (k := 1) rfl
    have x2 := HS3.out.cell 0 rfl (k := 2) rfl
    have cN := Lib.hid (mright_any (some ⟨w2.heap.size, 0, none⟩) 1 1 [⟨ra, rd, rm⟩] (w2.alloc (.cells #[.int .i64 ra, .int .i64 rd, .int .i64 rm] 50)) (Rd.of_own (own_new w2 50 #[.int .i64 ra, .int .i64 rd, .int .i64 rm] 3 1 rfl (by simp [maxLen]) (Nat.le_refl _))) rfl (by omega))
    rw [mr_right, HR1.out] at cN
    go_wp2_with fail
    refine cN.out.mono ?_; rintro en w3 ⟨rfl, hb3⟩
    have HS4 := Lib.hid ((HS3.out.alloc _).later hb3)
    clear cN hb3 HS3 x0 x1 x2
    go_wp2
    go_ret
    exact Ret.mk rfl HS4.out.below

set_option maxRecDepth 100000 in
set_option maxHeartbeats 3200000 in
theorem runsPut_in (A : Option Addr) (n c : Nat) (l : List R) (ra rd rm : Int) (w : World) (hr : Rd w w.heap.size 3 A n (l.flatMap R.cells)) (hl : l.length = n) (hyes : rightB l = true) (hone : oneB ⟨ra, rd, rm⟩ = true) :
    Calls Try.prog 6 #[.slice A n c, .agg #[.int .i64 ra, .int .i64 rd, .int .i64 rm]] w (Ret w (.bool true)) := by
  have hsm := small_of_right hyes
  have hs1 := small_of_one hone
  unfold Small at hs1
  simp only at hs1
  have hnf : NF none l := nf_of_right l none (by simp) (by rw [← rightB_eq]; exact hyes)
  have hn : n ≤ 1099511627777 := by rw [← hl]; exact nf_len hnf hsm
  have HS1 : Hid (Sep w (w.alloc (.cells #[.int .i64 ra, .int .i64 rd, .int .i64 rm] 50)) [.cells w.heap.size 50 [.int .i64 ra, .int .i64 rd, .int .i64 rm]]) := Lib.hid ((Sep.nil_ w).new 50 [.int .i64 ra, .int .i64 rd, .int .i64 rm])
  have cP := Lib.hid (put_any A n c l ra rd rm _ (hr.later HS1.out.below) hl hn hyes hone hnf)
  have cM := Lib.hid (fun W (hW : Below w.heap.size w W) => mright_any A n c l W (hr.later hW) hl (by omega))
  rw [mr_right, hyes] at cM
  have HML := Lib.hid (fun (cl : List R) (hcl : PutOk ⟨ra, rd, rm⟩ l cl) W (hW : Below w.heap.size w W) => mlist_any A n c l cl ra rd rm true W (hr.later hW) hl hn hsm hs1.1 hs1.2.1 hs1.2.2.1 hs1.2.2.2.1 hs1.2.2.2.2.1 hs1.2.2.2.2.2 hcl.nf hcl.edges (fun x _ d => hcl.fn x d))
  have HR1 := Lib.hid ((right_one ⟨ra, rd, rm⟩).trans hone)
  clear hr hl hyes hone hsm hs1 hnf hn
  go_enter Try.func6, Try.ntmps6
  go_upto_region 1 with (fail)
  generalize hwo : w.alloc (.cells #[.int .i64 ra, .int .i64 rd, .int .i64 rm] 50) = wo at HS1 cP ⊢
  clear hwo
  generalize w.heap.size = gx at HS1 ⊢
  have x0 := HS1.out.cell 0 rfl (k := 0) rfl
  have x1 := HS1.out.cell 0 rfl (k := 1) rfl
  have x2 := HS1.out.cell 0 rfl (k := 2) rfl
  go_wp2_with fail
  refine cP.out.mono ?_; rintro en w1 ⟨cl, hok, A1, c1, hc1, rfl, K1⟩
  have HOK := Lib.hid hok
  clear hok hc1 cP x0 x1 x2
  have HML2 := Lib.hid (HML.out cl HOK.out)
  unfold MRet at HML2
  clear HML
  have HCN : Hid (cl.length ≤ 9223372036854775807) := Lib.hid (by have := HOK.out.len; omega)
  cases hrc : rightB cl with
  | true =>
    rw [hrc] at K1 HML2
    simp only [if_true] at K1 ⊢
    have HS2 := Lib.hid (HS1.out.join K1)
    clear K1 HS1 hrc
    go_wp2_with fail
    refine (cM.out w1 HS2.out.below).mono ?_; rintro en w2 ⟨rfl, hb2⟩
    have HS3 := Lib.hid (HS2.out.later hb2)
    clear cM hb2 HS2
    have x0 := HS3.out.cell 0 rfl (k := 0) rfl
    have x1 := HS3.out.cell 0 rfl (k := 1) rfl
    have x2 := HS3.out.cell 0 rfl (k := 2) rfl
    have cN := Lib.hid (mright_any (some ⟨w2.heap.size, 0, none⟩) 1 1 [⟨ra, rd, rm⟩] (w2.alloc (.cells #[.int .i64 ra, .int .i64 rd, .int .i64 rm] 50)) (Rd.of_own (own_new w2 50 #[.int .i64 ra, .int .i64 rd, .int .i64 rm] 3 1 rfl (by simp [maxLen]) (Nat.le_refl _))) rfl (by omega))
    rw [mr_right, HR1.out] at cN
    go_wp2_with fail
    refine cN.out.mono ?_; rintro en w3 ⟨rfl, hb3⟩
    have HS4 := Lib.hid ((HS3.out.alloc _).later hb3)
    clear cN hb3 HS3 x0 x1 x2
    have x0 := HS4.out.cell 0 rfl (k := 0) rfl
    have x1 := HS4.out.cell 0 rfl (k := 1) rfl
    have x2 := HS4.out.cell 0 rfl (k := 2) rfl
    go_wp2_with fail
    refine (HML2.out w3 HS4.out.below).mono ?_; rintro en w4 ⟨A3, c3, rfl, K⟩
    have HS5 := Lib.hid (HS4.out.join K)
    have cE := Lib.hid (equal_any A1 A3 cl.length c1 c3 cl w4 (HS5.out.rd 1 rfl) (HS5.out.rd 2 rfl) rfl HCN.out)
    clear K HS4 HML2 x0 x1 x2
    go_wp2_with fail
    refine cE.out.mono ?_; rintro en w5 ⟨rfl, hb5⟩
    have HS6 := Lib.hid (HS5.out.later hb5)
    clear hb5 HS5 cE
    go_wp2
    go_ret
    exact Ret.mk rfl HS6.out.below
  | false =>
    rw [hrc] at K1 HML2
    simp only [Bool.false_eq_true, if_false] at K1 ⊢
    have HS2 := Lib.hid (HS1.out.join K1)
    clear K1 HS1 hrc
    simp only [List.length_nil]
    go_wp2_with fail
    refine (cM.out w1 HS2.out.below).mono ?_; rintro en w2 ⟨rfl, hb2⟩
    have HS3 := Lib.hid (HS2.out.later hb2)
    clear cM hb2 HS2
    have x0 := HS3.out.cell 0 rfl (k := 0) rfl
    have x1 := HS3.out.cell 0 rfl (k := 1) rfl
    have x2 := HS3.out.cell 0 rfl (k := 2) rfl
    have cN := Lib.hid (mright_any (some ⟨w2.heap.size, 0, none⟩) 1 1 [⟨ra, rd, rm⟩] (w2.alloc (.cells #[.int .i64 ra, .int .i64 rd, .int .i64 rm] 50)) (Rd.of_own (own_new w2 50 #[.int .i64 ra, .int .i64 rd, .int .i64 rm] 3 1 rfl (by simp [maxLen]) (Nat.le_refl _))) rfl (by omega))
    rw [mr_right, HR1.out] at cN
    go_wp2_with fail
    refine cN.out.mono ?_; rintro en w3 ⟨rfl, hb3⟩
    have HS4 := Lib.hid ((HS3.out.alloc _).later hb3)
    clear cN hb3 HS3 x0 x1 x2
    have x0 := HS4.out.cell 0 rfl (k := 0) rfl
    have x1 := HS4.out.cell 0 rfl (k := 1) rfl
    have x2 := HS4.out.cell 0 rfl (k := 2) rfl
    go_wp2_with fail
    refine (HML2.out w3 HS4.out.below).mono ?_; rintro en w4 ⟨A3, c3, rfl, K⟩
    have HS5 := Lib.hid (HS4.out.join K)
    clear K HS4 HML2 x0 x1 x2
    go_wp2
    go_ret
    exact Ret.mk rfl HS5.out.below

theorem runsPut_walk (A : Option Addr) (n c : Nat) (l : List R) (r : R) (w : World) (hr : Rd w w.heap.size 3 A n (l.flatMap R.cells)) (hl : l.length = n) (hn : n ≤ 9223372036854775807) :
    Calls Try.prog 6 #[.slice A n c, .agg #[.int .i64 r.at_, .int .i64 r.disk, .int .i64 r.many]] w (Ret w (.bool true)) := by
  cases hb : rightB l with
  | false => exact runsPut_form A n c l _ _ _ w hr hl hn (.inl hb)
  | true => cases ho : oneB r with
    | false => exact runsPut_form A n c l _ _ _ w hr hl hn (.inr ho)
    | true => exact runsPut_in A n c l _ _ _ w hr hl hb ho

theorem run_cells : Try.prog.cellsOf 50 = 3 := by kernel_rfl
theorem run_parse {H : Type} {enc : TypeId × Value → H} {w : World} {base : Nat} {spare : Nat → Bool} {held : Bool} (n : Nat) (cs : List Value) (y : DataW H × List MemPlace)
    (h : DataW.trod enc Try.prog w base spare held n 50 cs = some y) : ∃ x : R, cs = x.cells ∧ True := by
  obtain ⟨hl, m, hf⟩ := parse_fields Try.underlying50 (by kernel_rfl) (by kernel_rfl) h
  obtain ⟨v0, z0, e0, t0⟩ := hf 0 _ rfl
  obtain ⟨v1, z1, e1, t1⟩ := hf 1 _ rfl
  obtain ⟨v2, z2, e2, t2⟩ := hf 2 _ rfl
  obtain ⟨a, rfl, _⟩ := parse_int Try.underlying3 t0
  obtain ⟨d, rfl, _⟩ := parse_int Try.underlying3 t1
  obtain ⟨m', rfl, _⟩ := parse_int Try.underlying3 t2
  match cs, hl with
  | [c0, c1, c2], _ =>
    simp at e0 e1 e2
    subst e0 e1 e2
    exact ⟨⟨a, d, m'⟩, rfl, trivial⟩

set_option maxRecDepth 100000 in
set_option maxHeartbeats 400000 in
theorem runsPut_lifted (os : Os) (started : os.Started) (H : Type) (enc : TypeId × Value → H) :
    ReturnsInHanded {} Try.checked os 6 .any (Rows.runsPutSpec.pre6 enc Try.prog Try.f6 Rows.runsPutRow.domain false)
      (Rows.runsPutSpec.post enc Try.prog Try.f6 false true false false) := by
  refine returnsInHanded_of_change (C := Try.checked) own started (by kernel_rfl) Try.func6
    (ChangeSpec.witness6 (enc := enc) (C := Try.checked) false ⟨#[], #[.slice none 0 0, .agg #[.int .i64 0, .int .i64 0, .int .i64 0]], []⟩ 8 (by kernel_rfl) (by kernel_rfl) (by kernel_rfl) (by kernel_rfl)) ?_
  intro W base args ds gs before hval0 hW hcnd _
  have hval : ∀ (j : Nat) t v, Try.f6.params[j]? = some t → args[j]? = some v → Value.okWide Try.prog W .any base t v := hval0
  have hW0 := hW
  obtain ⟨p, q, hA0, hV, _, _, _⟩ := hW
  have hA : DataW.TrodAll enc Try.prog W 0 (fun _ => true) true Try.f6.params.toList args.toList ds p := hA0
  rw [Try.params6] at hA hval
  obtain ⟨v0, vs0, d0, ds0, p0, q0, hargs, rfl, rfl, h0, r0⟩ := trodAll_cons hA
  obtain ⟨v1, vs1, d1, ds1, p1, q1, rfl, rfl, rfl, h1, r1⟩ := trodAll_cons r0
  obtain ⟨rfl, rfl, rfl⟩ := trodAll_nil r1
  obtain rfl : args = #[v0, v1] := by cases args; simp_all
  obtain ⟨fu, hf⟩ := h0
  obtain ⟨A, n, cap, l, hcs, hl, hnc, hcm, _, hrd, _, _⟩ := open_list R.cells (fun _ => True) Try.underlying48 run_cells R.len (by omega) run_parse hf
  obtain rfl := slice_of hcs (okWide_slice Try.underlying48 (hval 0 _ v0 rfl rfl))
  obtain ⟨fu1, hf1⟩ := h1
  obtain ⟨x, hx, _⟩ := run_parse fu1 _ _ hf1
  obtain rfl : v1 = .agg x.cells.toArray := agg_of Try.underlying50 (hval 1 _ v1 rfl rfl) hx
  unfold maxLen at hcm
  refine (runsPut_walk A n cap l x W hrd hl (by omega)).mono fun e W' ⟨he, hg⟩ => ⟨_, he, ?_⟩
  exact law_post laidOut Try.underlying4 rfl rfl (by kernel_rfl) (fun xs hx => by
    match xs, hx with
    | [_, _], _ => rfl) hW0 hg
theorem runsPut_over : Rows.runsPutRow.holds Try.pinned (OpenSpec.ofChange Rows.runsPutSpec) :=
  OpenClaim.holds_of_wide 6 Try.f6 rfl rfl rfl rfl rfl rfl rfl ⟨rfl, rfl, rfl, rfl, rfl⟩ rfl rfl rfl rfl rfl (by kernel_rfl) Try.func6 (by kernel_rfl)
    (of_decide_eq_true (by kernel_rfl)) (by unfold Func.isWrapper; first | (rw [if_pos (by decide +kernel)]; kernel_rfl) | (rw [if_neg (by decide +kernel)]; exact ⟨rfl, rfl⟩))
    (fun os started H enc _ => runsPut_lifted os started H enc)
theorem runsPut_holds : Rows.RunsPutSaid := runsPut_over
end Runs
theorem runsPut_holds : Rows.RunsPutSaid := Runs.runsPut_holds
end Go.Proofs.Ytfljbiobiobamaa
