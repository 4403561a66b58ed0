/-
  Walk of quota.Play. Conditions: none.
-/
import Derived.Test.YtljdfkejhgaciaaQuotaW2
import Derived.IntWalk
namespace Go.Proofs.Ytljdfkejhgaciaa
open Go.RowKit Go.Shelf
set_option linter.unusedVariables false
namespace Quota

theorem drop_at {α : Type} {l : List α} {k : Nat} {x : α} (h : l[k]? = some x) : l.drop k = x :: l.drop (k + 1) := by
  obtain ⟨hk, rfl⟩ := List.getElem?_eq_some_iff.1 h
  exact List.drop_eq_getElem_cons hk
def zero12 : List Int := [0, 0, 0, 0, 0, 0, 0, 0, 0, 0, 0, 0]
theorem zero12_ok : Ok zero12 := ⟨rfl, by simp [zero12]⟩
theorem errno_info : (Try.prog.info? 23).map (fun i => (i.zero, i.size, i.bytes)) = some (some (.int .i64 0), 1, 8) := by kernel_rfl
theorem info12 : (Try.prog.info? 58).map (·.size) = some (zero12.flatMap icell).length := by kernel_rfl
theorem info12u : (Try.prog.info? 74).map (·.size) = some (zero12.flatMap icell).length := by kernel_rfl
theorem size12 {l : List Int} (h : l.length = 12) : (Try.prog.info? 58).map (·.size) = some (l.flatMap icell).length := by rw [icell_size, h]; exact info12
theorem size12u {l : List Int} (h : l.length = 12) : (Try.prog.info? 74).map (·.size) = some (l.flatMap icell).length := by rw [icell_size, h]; exact info12u
theorem size12' {l : List Int} (h : l.length = 12) : (Try.prog.info? 58).map (·.size) = some (l.flatMap icell).toArray.size := by rw [List.size_toArray]; exact size12 h
/-- errors and rows -/
def QRet (w : World) (ES lf : List Int) (e : Ending) (w' : World) : Prop :=
  ∃ v, e = .returned (.tuple #[v, .agg (lf.flatMap icell).toArray]) ∧ w'.ownsRow w.heap.size 23 1 v ES.length (ES.flatMap icell) ∧ Below w.heap.size w w'
theorem quiet_load {P : Program} {ops : Array Oper} {C : World → Prop} {Q : Act → Prop} {rest : List Oper} {o : Oper} {a : Act} (hg : o.guard = none) (ty : TypeId) (x : Operand) (ho : o.op = .load ty x) (v : Value)
    (hx : ∀ w, C w → (Instr.loadAt ty (a.eval x)).run P w = .ok v w) (h : wpQuiet P ops C Q rest (a.put o.dst v)) : wpQuiet P ops C Q (o :: rest) a := by
  unfold wpQuiet
  rw [if_pos (by simp [Region.wanted, hg])]
  refine ⟨v, fun w hw => ?_, h⟩
  unfold Oper.quietAt execOp
  simp only [ho, Sem.run_bind, hx w hw, Result.andThen_ok, Sem.run_pure]
  exact ⟨rfl, rfl⟩
theorem loadAt_of {P : Program} {t : TypeId} {g : Nat} {w : World} {v : Value} (h : (loadVar t ⟨g, 0, none⟩).run P w = .ok v w) : (Instr.loadAt t (.pointer (some ⟨g, 0, none⟩))).run P w = .ok v w := by
  simp only [Instr.loadAt, Instr.sureAddr, Sem.run_bind, Result.andThen]
  exact h

set_option maxHeartbeats 3200000 in
theorem play_any (A : Option Addr) (n c : Nat) (ops : List Q) (ES lf : List Int) (w : World) (hr : Rd w w.heap.size 4 A n (ops.flatMap Q.cells)) (hops : ops.length = n) (hn : n * 32 ≤ 140737488351232) (hP : Plays zero12 ops ES lf) (hlf : lf.length = 12) (hes : ES.length = ops.length) :
    Calls Try.prog 26 #[.slice A n c] w (QRet w ES lf) := by
  obtain ⟨i0, hi, hz0, hz1, hz2⟩ := info_parts errno_info
  have HR := Lib.hid hr
  have HP := Lib.hid hops
  have HPL := Lib.hid hP
  have HLF := Lib.hid hlf
  have HES := Lib.hid hes
  have F0 : Hid (Blk ((w.alloc (.cells (zero12.flatMap icell).toArray 58)).alloc (.cells (zero12.flatMap icell).toArray 74)) w.heap.size 58 (zero12.flatMap icell)) := Lib.hid ((Blk.new w _ _).alloc _)
  have F1 : Hid (Blk ((w.alloc (.cells (zero12.flatMap icell).toArray 58)).alloc (.cells (zero12.flatMap icell).toArray 74)) (w.heap.size + 1) 74 (zero12.flatMap icell)) := Lib.hid (by
    have := Blk.new (w.alloc (.cells (zero12.flatMap icell).toArray 58)) 74 (zero12.flatMap icell)
    rwa [show (w.alloc (.cells (zero12.flatMap icell).toArray 58)).heap.size = w.heap.size + 1 by simp] at this)
  have hB0 : Below w.heap.size w ((w.alloc (.cells (zero12.flatMap icell).toArray 58)).alloc (.cells (zero12.flatMap icell).toArray 74)) := ((Below.refl _ _).alloc (Nat.le_refl _) _).alloc (by simp) _
  clear hr hops hP hlf hes
  go_enter Try.func26, Try.ntmps26
  go_wp2
  go_loopg [5, 11] n (fun g v i wr => ∃ (k : Nat) (es l : List Int), k ≤ n ∧ g = n - k ∧ i = .int .i64 k ∧ Hid (∃ rest, Plays l (ops.drop k) rest lf ∧ ES = es ++ rest) ∧ Hid (l.length = 12) ∧ wr.ownsRow (w.heap.size + 2) 23 1 v k (es.flatMap icell) ∧ Blk wr (w.heap.size + 1) 74 (l.flatMap icell) ∧ Blk wr w.heap.size 58 (zero12.flatMap icell) ∧ Below w.heap.size w wr)
  case atStart => exact ⟨0, [], zero12, Nat.zero_le _, rfl, rfl, Lib.hid ⟨ES, HPL.out, rfl⟩, Lib.hid rfl, own_none, F1.out, F0.out, hB0⟩
  case round =>
    obtain ⟨k, es, l, hk, rfl, rfl, HF, HLL, hown, hu, hr, hB⟩ := hrel
    have HO := Lib.hid hown
    have HU := Lib.hid hu
    have HRz := Lib.hid hr
    have hzz := hu.lt
    clear hown hu hr F0 F1 hB0
    by_cases hlt : k < n
    · obtain ⟨b, off, rfl, hb, hc⟩ := HR.out.at_ Q.len (by omega)
      obtain ⟨x, hx⟩ : ∃ x, ops[k]? = some x := ⟨_, List.getElem?_eq_getElem (by rw [HP.out]; exact hlt)⟩
      obtain ⟨c0, c1, c2, c3⟩ : wr.cell? ⟨b, off + k * 4, none⟩ = some (.int .i64 x.kind) ∧ wr.cell? ⟨b, off + k * 4 + 1, none⟩ = some (.int .i64 x.user) ∧ wr.cell? ⟨b, off + k * 4 + 2, none⟩ = some (.int .i64 x.to) ∧ wr.cell? ⟨b, off + k * 4 + 3, none⟩ = some (.int .i64 x.n) :=
        ⟨(hB.cell hb).trans (hc k 0 x _ hx rfl), (hB.cell hb).trans (hc k 1 x _ hx rfl), (hB.cell hb).trans (hc k 2 x _ hx rfl), (hB.cell hb).trans (hc k 3 x _ hx rfl)⟩
      obtain ⟨e, l', hW, HL', HN⟩ : ∃ e l', Way l x e l' ∧ Hid (l'.length = 12) ∧ Hid (∃ rest, Plays l' (ops.drop (k + 1)) rest lf ∧ ES = (es ++ [e]) ++ rest) := by
        obtain ⟨rest, hp, he⟩ := HF.out
        rw [drop_at hx] at hp
        cases hp with
        | cons h1 h2 h3 => exact ⟨_, _, h1, Lib.hid h2, Lib.hid ⟨_, h3, by rw [he]; simp⟩⟩
      clear hc hx HF
      have cC := Lib.hid (check_any (w.heap.size + 1) 74 l l' x e (wr.alloc (.cells #[.int .i64 x.kind, .int .i64 x.user, .int .i64 x.to, .int .i64 x.n] 76)) (HU.out.alloc _) hW)
      have HW0 := Lib.hid hW
      clear hW
      unfold Q.val at cC
      go_wp2_with fail
      refine cC.out.mono ?_; rintro e' w1 ⟨rfl, hb1⟩
      have hB1 := (hB.alloc hB.size (.cells #[.int .i64 x.kind, .int .i64 x.user, .int .i64 x.to, .int .i64 x.n] 76)).trans (hb1.mono (by simp; have := hB.size; omega))
      have HO1 := Lib.hid (own_below (HO.out.alloc (.cells #[.int .i64 x.kind, .int .i64 x.user, .int .i64 x.to, .int .i64 x.n] 76)) hb1)
      have HU1 := Lib.hid ((HU.out.alloc (.cells #[.int .i64 x.kind, .int .i64 x.user, .int .i64 x.to, .int .i64 x.n] 76)).later hb1)
      have HR1 := Lib.hid ((HRz.out.alloc (.cells #[.int .i64 x.kind, .int .i64 x.user, .int .i64 x.to, .int .i64 x.n] 76)).later hb1)
      by_cases he : e = 0
      · have p0 : w1.cell? ⟨wr.heap.size, 0, none⟩ = some (.int .i64 x.kind) := LaterOf.new_ ⟨w1, hb1⟩ 0 rfl
        have p1 : w1.cell? ⟨wr.heap.size, 1, none⟩ = some (.int .i64 x.user) := LaterOf.new_ ⟨w1, hb1⟩ 1 rfl
        have p2 : w1.cell? ⟨wr.heap.size, 2, none⟩ = some (.int .i64 x.to) := LaterOf.new_ ⟨w1, hb1⟩ 2 rfl
        have p3 : w1.cell? ⟨wr.heap.size, 3, none⟩ = some (.int .i64 x.n) := LaterOf.new_ ⟨w1, hb1⟩ 3 rfl
        have cD := Lib.hid (do_any (w.heap.size + 1) 74 l l' x e w1 HU1.out HW0.out he)
        unfold Q.val at cD
        subst he
        clear c0 c1 c2 c3
        go_wp2_with fail
        refine cD.out.mono ?_; rintro e' w3 ⟨vv, rfl, hu3, hg3⟩
        have HOX := Lib.hid (own_grown HO1.out hg3 (.inr (own_far HO1.out (by omega)).symm))
        have HUX := Lib.hid hu3
        have HRX := Lib.hid (HR1.out.grown hg3 (by simp))
        have HBX := hB1.grown hg3 hB1.size (fun k hk => by cases hk; omega)
        clear hu3 hg3 p0 p1 p2 p3 cD cC
        have how := HOX.out.alloc (.cells #[.int .i64 0] 23)
        have hnew := Rd.of_own (own_new w3 23 #[.int .i64 0] 1 1 rfl (by simp [maxLen]) (Nat.le_refl _))
        have hBX := HUX.out.lt
        clear HW0
        go_wp2_with (at_builtin; refine wpList_append_rd _ rfl (.tmp 21) (.tmp 23) 53 rfl (w.heap.size + 2) 23 i0 (.int .i64 0) 1 8 Try.underlying53 hi hz0 hz1 hz2 rfl (by omega) _ k _ rfl how _ _ 1 1 _ rfl hnew (by simp [Value.oneCell']) (by simp only [maxLen]; omega) (by omega) (by simp; omega) ?_; intro v2 w2 hown2 hg2 hat2)
        have hB2 := below_grown (HBX.alloc HBX.size _) (own_mono how (show w.heap.size ≤ w.heap.size + 2 by omega)) hg2 (by simp; omega)
        have hu2 := (HUX.out.alloc (.cells #[.int .i64 0] 23)).grown hg2 (own_far how (by omega))
        have hr2 := (HRX.out.alloc (.cells #[.int .i64 0] 23)).grown hg2 (own_far how (by omega))
        go_roundg (n - (k + 1))
        case measure => omega
        case rel => exact ⟨k + 1, es ++ [0], l', by omega, rfl, by go_num, HN, HL', by have := hown2; simpa [List.flatMap_append, icell] using this, hu2, hr2, hB2⟩
      · have he' : (e == 0) = false := by simpa using he
        obtain rfl : l' = l := by
          have := HW0.out
          cases this <;> first | rfl | exact absurd rfl he
        have HOX := HO1
        have HUX := HU1
        have HRX := HR1
        have HBX := hB1
        clear c0 c1 c2 c3 he cC
        have how := HOX.out.alloc (.cells #[.int .i64 e] 23)
        have hnew := Rd.of_own (own_new w1 23 #[.int .i64 e] 1 1 rfl (by simp [maxLen]) (Nat.le_refl _))
        have hBX := HUX.out.lt
        clear HW0
        go_wp2_with (at_builtin; refine wpList_append_rd _ rfl (.tmp 21) (.tmp 23) 53 rfl (w.heap.size + 2) 23 i0 (.int .i64 0) 1 8 Try.underlying53 hi hz0 hz1 hz2 rfl (by omega) _ k _ rfl how _ _ 1 1 _ rfl hnew (by simp [Value.oneCell']) (by simp only [maxLen]; omega) (by omega) (by simp; omega) ?_; intro v2 w2 hown2 hg2 hat2)
        have hB2 := below_grown (HBX.alloc HBX.size _) (own_mono how (show w.heap.size ≤ w.heap.size + 2 by omega)) hg2 (by simp; omega)
        have hu2 := (HUX.out.alloc (.cells #[.int .i64 e] 23)).grown hg2 (own_far how (by omega))
        have hr2 := (HRX.out.alloc (.cells #[.int .i64 e] 23)).grown hg2 (own_far how (by omega))
        go_roundg (n - (k + 1))
        case measure => omega
        case rel => exact ⟨k + 1, es ++ [e], l', by omega, rfl, by go_num, HN, HL', by have := hown2; simpa [List.flatMap_append, icell] using this, hu2, hr2, hB2⟩
    · obtain rfl : k = n := by omega
      have HE : Hid (ES = es ∧ lf = l) := Lib.hid (by
        obtain ⟨rest, hp, he⟩ := HF.out
        rw [List.drop_eq_nil_of_le (by rw [HP.out]; omega)] at hp
        cases hp
        exact ⟨by simpa using he, rfl⟩)
      clear HF hlt
      go_upto_region 11 with (fail)
      refine wp_region_tail 3 (by kernel_rfl) (by kernel_rfl) ?_
      simp only [List.take_succ_cons, List.take_zero, List.drop_succ_cons, List.drop_zero]
      go_big_quiet_step (fail)
      refine quiet_load rfl 74 (.tmp 4) rfl (.agg (l.flatMap icell).toArray) (fun W hW => ?_) ?_
      · obtain ⟨z, rfl⟩ := hW
        exact loadAt_of ((HU.out.later z.h).load Try.underlying74 (size12u HLL.out))
      simp only [Act.put, List.setIfInBounds_toArray, List.set_cons_succ, List.set_cons_zero]
      go_big_quiet_step (fail)
      refine wpQuiet_nil ?_; intro xw hw'; obtain ⟨xq, hw''⟩ := hw'; obtain ⟨xw0, xh⟩ := xq; change xw = xw0 at hw''; subst hw''
      have HR9 := Lib.hid (HRz.out.later xh)
      have HO9 := Lib.hid (own_below HO.out xh)
      have hB9 := hB.trans (xh.mono hB.size)
      go_wp2_with (refine wpList_store_row rfl 58 (.tmp 3) (.tmp 27) rfl w.heap.size (l.flatMap icell).toArray rfl rfl 58 (zero12.flatMap icell).toArray HR9.out (size12' HLL.out) (by rw [List.size_toArray, List.size_toArray, icell_size, icell_size, HLL.out]; rfl) (icell_one l) ?_)
      have hld := (HR9.out.row (l.flatMap icell)).load Try.underlying58 (size12 HLL.out)
      have hB3 := below_row hB9 (Nat.le_refl _) (l.flatMap icell).toArray
      have ho3 := own_grown HO9.out (grown_row xw w.heap.size (l.flatMap icell).toArray) (.inr (own_far HO9.out (by omega)).symm)
      obtain ⟨rfl, rfl⟩ := HE.out
      obtain ⟨Av, cv, rfl⟩ := own_slice HO9.out
      refine bodyPost_ret (v := .tuple #[.slice Av k cv, .agg (lf.flatMap icell).toArray]) ?_ rfl ?_
      · simp [results, Try.results26, Act.put, asAddr, hld]
      · refine ⟨_, rfl, ?_, hB3⟩
        rw [HES.out, HP.out]
        exact own_mono ho3 (by omega)
end Quota
end Go.Proofs.Ytljdfkejhgaciaa
