/-
  Walk of dedup.store's do: every way through one operation. Conditions: none beyond each theorem's own premises.
-/
import Derived.Test.YtmbkonhclniolaaDdW2
namespace Go.Proofs.Ytmbkonhclniolaa
open Go.RowKit
set_option linter.unusedVariables false
namespace Dd

def O.val (o : O) : Value := .agg #[.int .i64 o.kind, .int .i64 o.id, .string o.data]
def A.val (a : A) : Value := .agg #[.int .i64 a.err, .int .i64 a.id, .string a.data]
def O.cells (o : O) : List Value := [.int .i64 o.kind, .int .i64 o.id, .string o.data]
def A.cells (a : A) : List Value := [.int .i64 a.err, .int .i64 a.id, .string a.data]
def DoRet (w0 : World) (gs g1 g2 : Nat) (X : List It) (l' : S) (a : A) (e : Ending) (w' : World) : Prop := e = .returned a.val ∧ St w0 w' gs g1 g2 X l'
abbrev opC (gop : Nat) (o : O) : It := .cells gop 84 [.int .i64 o.kind, .int .i64 o.id, .string o.data]
abbrev anC (gan : Nat) (a : A) : It := .cells gan 49 [.int .i64 a.err, .int .i64 a.id, .string a.data]
def zA : A := ⟨0, 0, nos⟩

/-- what do lays of its own, ahead of the rest -/
theorem St.two {w0 w : World} {gs g1 g2 : Nat} {X : List It} {l : S} (H : St w0 w gs g1 g2 X l) (o : O) :
    St w0 ((w.alloc (.cells #[.int .i64 o.kind, .int .i64 o.id, .string o.data] 84)).alloc (.cells #[.int .i64 0, .int .i64 0, .string nos] 49)) gs g1 g2 (opC w.heap.size o :: anC (w.heap.size + 1) zA :: X) l := by
  obtain ⟨bl, h, m, J, R, H⟩ := H
  refine ⟨bl, h, m, J, R, ?_⟩
  have H2 := (H.new 84 [.int .i64 o.kind, .int .i64 o.id, .string o.data]).new 49 [.int .i64 0, .int .i64 0, .string nos]
  rw [show (w.alloc (.cells (([.int .i64 o.kind, .int .i64 o.id, .string o.data] : List Value)).toArray 84)).heap.size = w.heap.size + 1 by simp] at H2
  simp only [List.cons_append, List.append_assoc, List.nil_append] at H2
  refine H2.perm (List.Perm.cons _ (List.Perm.cons _ (List.Perm.cons _ ?_)))
  have := List.perm_append_comm (l₁ := [opC w.heap.size o, anC (w.heap.size + 1) zA]) (l₂ := X ++ (objs l bl ++ J))
  simp only [List.cons_append, List.append_assoc, List.nil_append] at this
  exact this
theorem St.ofSep {w0 w : World} {gs g1 g2 : Nat} {X : List It} {l : S} {bl : List Nat} {h : Int → Option Nat} {m : ByteArray → Option Int} {J : List It} {x y : It} (R : Rel l bl h m)
    (H : Sep w0 w (stC gs g1 g2 :: om g1 (live l) h :: nm g2 (live l) m :: x :: y :: (X ++ (objs l bl ++ J)))) : St w0 w gs g1 g2 X l :=
  ⟨bl, h, m, J, R, H.sub (((((List.Sublist.refl _).cons _).cons _).cons_cons _).cons_cons _ |>.cons_cons _)⟩

set_option maxRecDepth 100000 in
set_option maxHeartbeats 1600000 in
theorem do_kindLo (gs g1 g2 : Nat) (X : List It) (l : S) (ok oi : Int) (od : ByteArray) (w0 w : World) (hs : St w0 w gs g1 g2 X l) (hid : (Lit.int .i64 oi).wf = true) (hk : ok < 1) :
    Calls Try.prog 34 #[.pointer (some ⟨gs, 0, none⟩), (⟨ok, oi, od⟩ : O).val] w (DoRet w0 gs g1 g2 X l ⟨5, 0, nos⟩) := by
  have H2 : St w0 ((w.alloc (.cells #[.int .i64 ok, .int .i64 oi, .string od] 84)).alloc (.cells #[.int .i64 0, .int .i64 0, .string { data := #[] }] 49)) gs g1 g2 (opC w.heap.size ⟨ok, oi, od⟩ :: anC (w.heap.size + 1) zA :: X) l := hs.two ⟨ok, oi, od⟩
  unfold O.val
  simp only
  go_enter Try.func34, Try.ntmps34
  go_wp2
  generalize (w.alloc (.cells #[.int .i64 ok, .int .i64 oi, .string od] 84)).alloc (.cells #[.int .i64 0, .int .i64 0, .string { data := #[] }] 49) = w1 at H2 ⊢
  obtain ⟨gan, HGN⟩ : ∃ gan, Hid (gan = w.heap.size + 1) := ⟨_, Lib.hid rfl⟩
  rw [← HGN.out] at H2 ⊢
  generalize w.heap.size = gop at H2 ⊢
  clear HGN
  obtain ⟨bl, h, m, J, R, H⟩ := H2
  have q0 := fun z : LaterOf w1 => (H.later z.h).cell 3 rfl (k := 0) rfl
  have q1 := fun z : LaterOf w1 => (H.later z.h).cell 3 rfl (k := 1) rfl
  have q2 := fun z : LaterOf w1 => (H.later z.h).cell 0 rfl (k := 0) rfl
  have lk := fun z : LaterOf w1 => (H.later z.h).look 1 rfl kint hid Try.underlying79 (oz z.w)
  obtain ⟨v5, hv5⟩ : ∃ v, v = (h oi).elim (Value.pointer none) oenc := ⟨_, rfl⟩
  rw [← hv5] at lk
  have HS := Lib.hid H
  have HR := Lib.hid R
  have HV := Lib.hid hv5
  clear H R hv5 hs
  simp only at q0 q1 q2 lk
  refine wp_region_later (by kernel_rfl) (by kernel_rfl) ?_
  repeat (go_big_quiet_step (fail))
  refine wpQuiet_nil ?_; intro xw hw'; obtain ⟨xq, hw''⟩ := hw'; obtain ⟨xw0, xh⟩ := xq; change xw = xw0 at hw''; subst hw''
  have H3 := HS.out.later xh
  clear q0 q1 q2 lk HS xh
  have HT := Lib.hid H3
  have k0 := H3.cell 3 rfl (k := 0) rfl
  have k1 := H3.cell 3 rfl (k := 1) rfl
  have k2 := H3.cell 3 rfl (k := 2) rfl
  have s0 := H3.cell 0 rfl (k := 0) rfl
  have s1 := H3.cell 0 rfl (k := 1) rfl
  have e0 := H3.cell 4 rfl (k := 0) rfl
  have e1 := H3.cell 4 rfl (k := 1) rfl
  have e2 := H3.cell 4 rfl (k := 2) rfl
  have u0 := H3.froz 4 rfl (k := 0)
  have u1 := H3.froz 4 rfl (k := 1)
  have u2 := H3.froz 4 rfl (k := 2)
  simp only [zA, nos] at k0 k1 k2 e0 e1 e2
  clear H3
  have H8 := ((HT.out.set 4 rfl (k := 0) (.int .i64 5)).set 4 rfl (k := 1) (.int .i64 0)).set 4 rfl (k := 2) (.string { data := #[] })
  have f0 := H8.cell 4 rfl (k := 0) rfl
  have f1 := H8.cell 4 rfl (k := 1) rfl
  have f2 := H8.cell 4 rfl (k := 2) rfl
  have H9 := Lib.hid H8
  clear H8
  go_wp2
  refine bodyPost_ret (v := .agg #[.int .i64 5, .int .i64 0, .string { data := #[] }]) (by simp [results, Try.results34, asAddr, Result.andThen, go_sem, f0, f1, f2]) rfl ?_
  exact ⟨rfl, St.ofSep HR.out H9.out⟩
set_option maxRecDepth 100000 in
set_option maxHeartbeats 1600000 in
theorem do_kindHi (gs g1 g2 : Nat) (X : List It) (l : S) (ok oi : Int) (od : ByteArray) (w0 w : World) (hs : St w0 w gs g1 g2 X l) (hid : (Lit.int .i64 oi).wf = true) (hk : 3 < ok) :
    Calls Try.prog 34 #[.pointer (some ⟨gs, 0, none⟩), (⟨ok, oi, od⟩ : O).val] w (DoRet w0 gs g1 g2 X l ⟨5, 0, nos⟩) := by
  have hk2 : ¬ ok < 1 := by omega
  have H2 : St w0 ((w.alloc (.cells #[.int .i64 ok, .int .i64 oi, .string od] 84)).alloc (.cells #[.int .i64 0, .int .i64 0, .string { data := #[] }] 49)) gs g1 g2 (opC w.heap.size ⟨ok, oi, od⟩ :: anC (w.heap.size + 1) zA :: X) l := hs.two ⟨ok, oi, od⟩
  unfold O.val
  simp only
  go_enter Try.func34, Try.ntmps34
  go_wp2
  generalize (w.alloc (.cells #[.int .i64 ok, .int .i64 oi, .string od] 84)).alloc (.cells #[.int .i64 0, .int .i64 0, .string { data := #[] }] 49) = w1 at H2 ⊢
  obtain ⟨gan, HGN⟩ : ∃ gan, Hid (gan = w.heap.size + 1) := ⟨_, Lib.hid rfl⟩
  rw [← HGN.out] at H2 ⊢
  generalize w.heap.size = gop at H2 ⊢
  clear HGN
  obtain ⟨bl, h, m, J, R, H⟩ := H2
  have q0 := fun z : LaterOf w1 => (H.later z.h).cell 3 rfl (k := 0) rfl
  have q1 := fun z : LaterOf w1 => (H.later z.h).cell 3 rfl (k := 1) rfl
  have q2 := fun z : LaterOf w1 => (H.later z.h).cell 0 rfl (k := 0) rfl
  have lk := fun z : LaterOf w1 => (H.later z.h).look 1 rfl kint hid Try.underlying79 (oz z.w)
  obtain ⟨v5, hv5⟩ : ∃ v, v = (h oi).elim (Value.pointer none) oenc := ⟨_, rfl⟩
  rw [← hv5] at lk
  have HS := Lib.hid H
  have HR := Lib.hid R
  have HV := Lib.hid hv5
  clear H R hv5 hs
  simp only at q0 q1 q2 lk
  refine wp_region_later (by kernel_rfl) (by kernel_rfl) ?_
  repeat (go_big_quiet_step (fail))
  refine wpQuiet_nil ?_; intro xw hw'; obtain ⟨xq, hw''⟩ := hw'; obtain ⟨xw0, xh⟩ := xq; change xw = xw0 at hw''; subst hw''
  have H3 := HS.out.later xh
  clear q0 q1 q2 lk HS xh
  have HT := Lib.hid H3
  have k0 := H3.cell 3 rfl (k := 0) rfl
  have k1 := H3.cell 3 rfl (k := 1) rfl
  have k2 := H3.cell 3 rfl (k := 2) rfl
  have s0 := H3.cell 0 rfl (k := 0) rfl
  have s1 := H3.cell 0 rfl (k := 1) rfl
  have e0 := H3.cell 4 rfl (k := 0) rfl
  have e1 := H3.cell 4 rfl (k := 1) rfl
  have e2 := H3.cell 4 rfl (k := 2) rfl
  have u0 := H3.froz 4 rfl (k := 0)
  have u1 := H3.froz 4 rfl (k := 1)
  have u2 := H3.froz 4 rfl (k := 2)
  simp only [zA, nos] at k0 k1 k2 e0 e1 e2
  clear H3
  have H8 := ((HT.out.set 4 rfl (k := 0) (.int .i64 5)).set 4 rfl (k := 1) (.int .i64 0)).set 4 rfl (k := 2) (.string { data := #[] })
  have f0 := H8.cell 4 rfl (k := 0) rfl
  have f1 := H8.cell 4 rfl (k := 1) rfl
  have f2 := H8.cell 4 rfl (k := 2) rfl
  have H9 := Lib.hid H8
  clear H8
  go_wp2
  refine bodyPost_ret (v := .agg #[.int .i64 5, .int .i64 0, .string { data := #[] }]) (by simp [results, Try.results34, asAddr, Result.andThen, go_sem, f0, f1, f2]) rfl ?_
  exact ⟨rfl, St.ofSep HR.out H9.out⟩
set_option maxRecDepth 100000 in
set_option maxHeartbeats 1600000 in
theorem do_long (gs g1 g2 : Nat) (X : List It) (l : S) (oi : Int) (od : ByteArray) (w0 w : World) (hs : St w0 w gs g1 g2 X l) (hid : (Lit.int .i64 oi).wf = true) (hd : 4096 < od.size) :
    Calls Try.prog 34 #[.pointer (some ⟨gs, 0, none⟩), (⟨1, oi, od⟩ : O).val] w (DoRet w0 gs g1 g2 X l ⟨2, 0, nos⟩) := by
  have H2 : St w0 ((w.alloc (.cells #[.int .i64 1, .int .i64 oi, .string od] 84)).alloc (.cells #[.int .i64 0, .int .i64 0, .string { data := #[] }] 49)) gs g1 g2 (opC w.heap.size ⟨1, oi, od⟩ :: anC (w.heap.size + 1) zA :: X) l := hs.two ⟨1, oi, od⟩
  unfold O.val
  simp only
  go_enter Try.func34, Try.ntmps34
  go_wp2
  generalize (w.alloc (.cells #[.int .i64 1, .int .i64 oi, .string od] 84)).alloc (.cells #[.int .i64 0, .int .i64 0, .string { data := #[] }] 49) = w1 at H2 ⊢
  obtain ⟨gan, HGN⟩ : ∃ gan, Hid (gan = w.heap.size + 1) := ⟨_, Lib.hid rfl⟩
  rw [← HGN.out] at H2 ⊢
  generalize w.heap.size = gop at H2 ⊢
  clear HGN
  obtain ⟨bl, h, m, J, R, H⟩ := H2
  have q0 := fun z : LaterOf w1 => (H.later z.h).cell 3 rfl (k := 0) rfl
  have q1 := fun z : LaterOf w1 => (H.later z.h).cell 3 rfl (k := 1) rfl
  have q2 := fun z : LaterOf w1 => (H.later z.h).cell 0 rfl (k := 0) rfl
  have lk := fun z : LaterOf w1 => (H.later z.h).look 1 rfl kint hid Try.underlying79 (oz z.w)
  obtain ⟨v5, hv5⟩ : ∃ v, v = (h oi).elim (Value.pointer none) oenc := ⟨_, rfl⟩
  rw [← hv5] at lk
  have HS := Lib.hid H
  have HR := Lib.hid R
  have HV := Lib.hid hv5
  clear H R hv5 hs
  simp only at q0 q1 q2 lk
  refine wp_region_later (by kernel_rfl) (by kernel_rfl) ?_
  repeat (go_big_quiet_step (fail))
  refine wpQuiet_nil ?_; intro xw hw'; obtain ⟨xq, hw''⟩ := hw'; obtain ⟨xw0, xh⟩ := xq; change xw = xw0 at hw''; subst hw''
  have H3 := HS.out.later xh
  clear q0 q1 q2 lk HS xh
  have HT := Lib.hid H3
  have k0 := H3.cell 3 rfl (k := 0) rfl
  have k1 := H3.cell 3 rfl (k := 1) rfl
  have k2 := H3.cell 3 rfl (k := 2) rfl
  have s0 := H3.cell 0 rfl (k := 0) rfl
  have s1 := H3.cell 0 rfl (k := 1) rfl
  have e0 := H3.cell 4 rfl (k := 0) rfl
  have e1 := H3.cell 4 rfl (k := 1) rfl
  have e2 := H3.cell 4 rfl (k := 2) rfl
  have u0 := H3.froz 4 rfl (k := 0)
  have u1 := H3.froz 4 rfl (k := 1)
  have u2 := H3.froz 4 rfl (k := 2)
  simp only [zA, nos] at k0 k1 k2 e0 e1 e2
  clear H3
  have hd2 : (4096 : Int) < (od.size : Int) := by omega
  have H8 := ((HT.out.set 4 rfl (k := 0) (.int .i64 2)).set 4 rfl (k := 1) (.int .i64 0)).set 4 rfl (k := 2) (.string { data := #[] })
  have f0 := H8.cell 4 rfl (k := 0) rfl
  have f1 := H8.cell 4 rfl (k := 1) rfl
  have f2 := H8.cell 4 rfl (k := 2) rfl
  have H9 := Lib.hid H8
  clear H8
  go_wp2
  refine bodyPost_ret (v := .agg #[.int .i64 2, .int .i64 0, .string { data := #[] }]) (by simp [results, Try.results34, asAddr, Result.andThen, go_sem, f0, f1, f2]) rfl ?_
  exact ⟨rfl, St.ofSep HR.out H9.out⟩
set_option maxRecDepth 100000 in
set_option maxHeartbeats 1600000 in
theorem do_none2 (gs g1 g2 : Nat) (X : List It) (l : S) (oi : Int) (od : ByteArray) (w0 w : World) (hs : St w0 w gs g1 g2 X l) (hid : (Lit.int .i64 oi).wf = true) (hno : ∀ (i : Nat) (d : ByteArray) (r : Nat), l[i]? = some (d, r + 1) → oi ≠ (i : Int) + 1) :
    Calls Try.prog 34 #[.pointer (some ⟨gs, 0, none⟩), (⟨2, oi, od⟩ : O).val] w (DoRet w0 gs g1 g2 X l ⟨3, 0, nos⟩) := by
  have H2 : St w0 ((w.alloc (.cells #[.int .i64 2, .int .i64 oi, .string od] 84)).alloc (.cells #[.int .i64 0, .int .i64 0, .string { data := #[] }] 49)) gs g1 g2 (opC w.heap.size ⟨2, oi, od⟩ :: anC (w.heap.size + 1) zA :: X) l := hs.two ⟨2, oi, od⟩
  unfold O.val
  simp only
  go_enter Try.func34, Try.ntmps34
  go_wp2
  generalize (w.alloc (.cells #[.int .i64 2, .int .i64 oi, .string od] 84)).alloc (.cells #[.int .i64 0, .int .i64 0, .string { data := #[] }] 49) = w1 at H2 ⊢
  obtain ⟨gan, HGN⟩ : ∃ gan, Hid (gan = w.heap.size + 1) := ⟨_, Lib.hid rfl⟩
  rw [← HGN.out] at H2 ⊢
  generalize w.heap.size = gop at H2 ⊢
  clear HGN
  obtain ⟨bl, h, m, J, R, H⟩ := H2
  have q0 := fun z : LaterOf w1 => (H.later z.h).cell 3 rfl (k := 0) rfl
  have q1 := fun z : LaterOf w1 => (H.later z.h).cell 3 rfl (k := 1) rfl
  have q2 := fun z : LaterOf w1 => (H.later z.h).cell 0 rfl (k := 0) rfl
  have lk := fun z : LaterOf w1 => (H.later z.h).look 1 rfl kint hid Try.underlying79 (oz z.w)
  obtain ⟨v5, hv5⟩ : ∃ v, v = (h oi).elim (Value.pointer none) oenc := ⟨_, rfl⟩
  rw [← hv5] at lk
  have HS := Lib.hid H
  have HR := Lib.hid R
  have HV := Lib.hid hv5
  clear H R hv5 hs
  simp only at q0 q1 q2 lk
  refine wp_region_later (by kernel_rfl) (by kernel_rfl) ?_
  repeat (go_big_quiet_step (fail))
  refine wpQuiet_nil ?_; intro xw hw'; obtain ⟨xq, hw''⟩ := hw'; obtain ⟨xw0, xh⟩ := xq; change xw = xw0 at hw''; subst hw''
  have H3 := HS.out.later xh
  clear q0 q1 q2 lk HS xh
  have HT := Lib.hid H3
  have k0 := H3.cell 3 rfl (k := 0) rfl
  have k1 := H3.cell 3 rfl (k := 1) rfl
  have k2 := H3.cell 3 rfl (k := 2) rfl
  have s0 := H3.cell 0 rfl (k := 0) rfl
  have s1 := H3.cell 0 rfl (k := 1) rfl
  have e0 := H3.cell 4 rfl (k := 0) rfl
  have e1 := H3.cell 4 rfl (k := 1) rfl
  have e2 := H3.cell 4 rfl (k := 2) rfl
  have u0 := H3.froz 4 rfl (k := 0)
  have u1 := H3.froz 4 rfl (k := 1)
  have u2 := H3.froz 4 rfl (k := 2)
  simp only [zA, nos] at k0 k1 k2 e0 e1 e2
  clear H3
  have hh := HV.out
  rw [HR.out.none_obj hno] at hh
  obtain rfl : v5 = .pointer none := hh
  have H8 := ((HT.out.set 4 rfl (k := 0) (.int .i64 3)).set 4 rfl (k := 1) (.int .i64 0)).set 4 rfl (k := 2) (.string { data := #[] })
  have f0 := H8.cell 4 rfl (k := 0) rfl
  have f1 := H8.cell 4 rfl (k := 1) rfl
  have f2 := H8.cell 4 rfl (k := 2) rfl
  have H9 := Lib.hid H8
  clear H8
  go_wp2
  refine bodyPost_ret (v := .agg #[.int .i64 3, .int .i64 0, .string { data := #[] }]) (by simp [results, Try.results34, asAddr, Result.andThen, go_sem, f0, f1, f2]) rfl ?_
  exact ⟨rfl, St.ofSep HR.out H9.out⟩
set_option maxRecDepth 100000 in
set_option maxHeartbeats 1600000 in
theorem do_none3 (gs g1 g2 : Nat) (X : List It) (l : S) (oi : Int) (od : ByteArray) (w0 w : World) (hs : St w0 w gs g1 g2 X l) (hid : (Lit.int .i64 oi).wf = true) (hno : ∀ (i : Nat) (d : ByteArray) (r : Nat), l[i]? = some (d, r + 1) → oi ≠ (i : Int) + 1) :
    Calls Try.prog 34 #[.pointer (some ⟨gs, 0, none⟩), (⟨3, oi, od⟩ : O).val] w (DoRet w0 gs g1 g2 X l ⟨3, 0, nos⟩) := by
  have H2 : St w0 ((w.alloc (.cells #[.int .i64 3, .int .i64 oi, .string od] 84)).alloc (.cells #[.int .i64 0, .int .i64 0, .string { data := #[] }] 49)) gs g1 g2 (opC w.heap.size ⟨3, oi, od⟩ :: anC (w.heap.size + 1) zA :: X) l := hs.two ⟨3, oi, od⟩
  unfold O.val
  simp only
  go_enter Try.func34, Try.ntmps34
  go_wp2
  generalize (w.alloc (.cells #[.int .i64 3, .int .i64 oi, .string od] 84)).alloc (.cells #[.int .i64 0, .int .i64 0, .string { data := #[] }] 49) = w1 at H2 ⊢
  obtain ⟨gan, HGN⟩ : ∃ gan, Hid (gan = w.heap.size + 1) := ⟨_, Lib.hid rfl⟩
  rw [← HGN.out] at H2 ⊢
  generalize w.heap.size = gop at H2 ⊢
  clear HGN
  obtain ⟨bl, h, m, J, R, H⟩ := H2
  have q0 := fun z : LaterOf w1 => (H.later z.h).cell 3 rfl (k := 0) rfl
  have q1 := fun z : LaterOf w1 => (H.later z.h).cell 3 rfl (k := 1) rfl
  have q2 := fun z : LaterOf w1 => (H.later z.h).cell 0 rfl (k := 0) rfl
  have lk := fun z : LaterOf w1 => (H.later z.h).look 1 rfl kint hid Try.underlying79 (oz z.w)
  obtain ⟨v5, hv5⟩ : ∃ v, v = (h oi).elim (Value.pointer none) oenc := ⟨_, rfl⟩
  rw [← hv5] at lk
  have HS := Lib.hid H
  have HR := Lib.hid R
  have HV := Lib.hid hv5
  clear H R hv5 hs
  simp only at q0 q1 q2 lk
  refine wp_region_later (by kernel_rfl) (by kernel_rfl) ?_
  repeat (go_big_quiet_step (fail))
  refine wpQuiet_nil ?_; intro xw hw'; obtain ⟨xq, hw''⟩ := hw'; obtain ⟨xw0, xh⟩ := xq; change xw = xw0 at hw''; subst hw''
  have H3 := HS.out.later xh
  clear q0 q1 q2 lk HS xh
  have HT := Lib.hid H3
  have k0 := H3.cell 3 rfl (k := 0) rfl
  have k1 := H3.cell 3 rfl (k := 1) rfl
  have k2 := H3.cell 3 rfl (k := 2) rfl
  have s0 := H3.cell 0 rfl (k := 0) rfl
  have s1 := H3.cell 0 rfl (k := 1) rfl
  have e0 := H3.cell 4 rfl (k := 0) rfl
  have e1 := H3.cell 4 rfl (k := 1) rfl
  have e2 := H3.cell 4 rfl (k := 2) rfl
  have u0 := H3.froz 4 rfl (k := 0)
  have u1 := H3.froz 4 rfl (k := 1)
  have u2 := H3.froz 4 rfl (k := 2)
  simp only [zA, nos] at k0 k1 k2 e0 e1 e2
  clear H3
  have hh := HV.out
  rw [HR.out.none_obj hno] at hh
  obtain rfl : v5 = .pointer none := hh
  have H8 := ((HT.out.set 4 rfl (k := 0) (.int .i64 3)).set 4 rfl (k := 1) (.int .i64 0)).set 4 rfl (k := 2) (.string { data := #[] })
  have f0 := H8.cell 4 rfl (k := 0) rfl
  have f1 := H8.cell 4 rfl (k := 1) rfl
  have f2 := H8.cell 4 rfl (k := 2) rfl
  have H9 := Lib.hid H8
  clear H8
  go_wp2
  refine bodyPost_ret (v := .agg #[.int .i64 3, .int .i64 0, .string { data := #[] }]) (by simp [results, Try.results34, asAddr, Result.andThen, go_sem, f0, f1, f2]) rfl ?_
  exact ⟨rfl, St.ofSep HR.out H9.out⟩
set_option maxRecDepth 100000 in
set_option maxHeartbeats 1600000 in
theorem do_put (gs g1 g2 b : Nat) (X : List It) (l l' : S) (oi : Int) (od : ByteArray) (a : A) (w0 w : World) (hs : St w0 w gs g1 g2 X l) (hid : (Lit.int .i64 oi).wf = true) (hw : Way l ⟨1, oi, od⟩ a l') (ho : Ok l) (hb : Bd l b) (hbb : b + 3 < 140737488355328) (hd : od.size ≤ 4096) :
    Calls Try.prog 34 #[.pointer (some ⟨gs, 0, none⟩), (⟨1, oi, od⟩ : O).val] w (DoRet w0 gs g1 g2 X l' a) := by
  have cP := Lib.hid (fun X w1 hs1 => put_any gs g1 g2 b X l l' ⟨1, oi, od⟩ a w0 w1 hs1 hw ho hb hbb rfl hd)
  clear hw ho hb
  have H2 : St w0 ((w.alloc (.cells #[.int .i64 1, .int .i64 oi, .string od] 84)).alloc (.cells #[.int .i64 0, .int .i64 0, .string { data := #[] }] 49)) gs g1 g2 (opC w.heap.size ⟨1, oi, od⟩ :: anC (w.heap.size + 1) zA :: X) l := hs.two ⟨1, oi, od⟩
  unfold O.val
  simp only
  go_enter Try.func34, Try.ntmps34
  go_wp2
  generalize (w.alloc (.cells #[.int .i64 1, .int .i64 oi, .string od] 84)).alloc (.cells #[.int .i64 0, .int .i64 0, .string { data := #[] }] 49) = w1 at H2 ⊢
  obtain ⟨gan, HGN⟩ : ∃ gan, Hid (gan = w.heap.size + 1) := ⟨_, Lib.hid rfl⟩
  rw [← HGN.out] at H2 ⊢
  generalize w.heap.size = gop at H2 ⊢
  clear HGN
  obtain ⟨bl, h, m, J, R, H⟩ := H2
  have q0 := fun z : LaterOf w1 => (H.later z.h).cell 3 rfl (k := 0) rfl
  have q1 := fun z : LaterOf w1 => (H.later z.h).cell 3 rfl (k := 1) rfl
  have q2 := fun z : LaterOf w1 => (H.later z.h).cell 0 rfl (k := 0) rfl
  have lk := fun z : LaterOf w1 => (H.later z.h).look 1 rfl kint hid Try.underlying79 (oz z.w)
  obtain ⟨v5, hv5⟩ : ∃ v, v = (h oi).elim (Value.pointer none) oenc := ⟨_, rfl⟩
  rw [← hv5] at lk
  have HS := Lib.hid H
  have HR := Lib.hid R
  have HV := Lib.hid hv5
  clear H R hv5 hs
  simp only at q0 q1 q2 lk
  refine wp_region_later (by kernel_rfl) (by kernel_rfl) ?_
  repeat (go_big_quiet_step (fail))
  refine wpQuiet_nil ?_; intro xw hw'; obtain ⟨xq, hw''⟩ := hw'; obtain ⟨xw0, xh⟩ := xq; change xw = xw0 at hw''; subst hw''
  have H3 := HS.out.later xh
  clear q0 q1 q2 lk HS xh
  have HT := Lib.hid H3
  have k0 := H3.cell 3 rfl (k := 0) rfl
  have k1 := H3.cell 3 rfl (k := 1) rfl
  have k2 := H3.cell 3 rfl (k := 2) rfl
  have s0 := H3.cell 0 rfl (k := 0) rfl
  have s1 := H3.cell 0 rfl (k := 1) rfl
  have e0 := H3.cell 4 rfl (k := 0) rfl
  have e1 := H3.cell 4 rfl (k := 1) rfl
  have e2 := H3.cell 4 rfl (k := 2) rfl
  have u0 := H3.froz 4 rfl (k := 0)
  have u1 := H3.froz 4 rfl (k := 1)
  have u2 := H3.froz 4 rfl (k := 2)
  simp only [zA, nos] at k0 k1 k2 e0 e1 e2
  clear H3
  have hd2 : ¬ (4096 : Int) < (od.size : Int) := by omega
  have HT2 : Hid (St w0 xw gs g1 g2 (opC gop ⟨1, oi, od⟩ :: anC gan zA :: X) l) := Lib.hid ⟨bl, h, m, J, HR.out, HT.out⟩
  clear u0 u1 u2 e0 e1 e2
  go_wp2_with fail
  refine (cP.out _ _ HT2.out).mono ?_; rintro en w2 ⟨rfl, ha1, ha2, bl2, h2, m2, J2, R2, K2⟩
  obtain ⟨ae, ai, ad⟩ := a
  simp only at ha1 ha2 ⊢
  subst ha1 ha2
  have e0 := K2.cell 4 rfl (k := 0) rfl
  have e1 := K2.cell 4 rfl (k := 1) rfl
  have e2 := K2.cell 4 rfl (k := 2) rfl
  simp only [zA, nos] at e0 e1 e2
  have u0 := K2.froz 4 rfl (k := 0)
  have u1 := K2.froz 4 rfl (k := 1)
  have u2 := K2.froz 4 rfl (k := 2)
  have H8 := ((K2.set 4 rfl (k := 0) (.int .i64 0)).set 4 rfl (k := 1) (.int .i64 ai)).set 4 rfl (k := 2) (.string { data := #[] })
  have f0 := H8.cell 4 rfl (k := 0) rfl
  have f1 := H8.cell 4 rfl (k := 1) rfl
  have f2 := H8.cell 4 rfl (k := 2) rfl
  have H9 := Lib.hid H8
  clear H8
  have HR2 := Lib.hid R2
  clear K2 R2 k0 k1 k2 s0 s1
  go_wp2
  refine bodyPost_ret (v := .agg #[.int .i64 0, .int .i64 ai, .string { data := #[] }]) (by simp [results, Try.results34, asAddr, Result.andThen, go_sem, f0, f1, f2]) rfl ?_
  exact ⟨rfl, St.ofSep HR2.out H9.out⟩
set_option maxRecDepth 100000 in
set_option maxHeartbeats 1600000 in
theorem do_get (gs g1 g2 b : Nat) (X : List It) (l : S) (oi : Int) (od : ByteArray) (i r : Nat) (d : ByteArray) (w0 w : World) (hs : St w0 w gs g1 g2 X l) (hid : (Lit.int .i64 oi).wf = true) (hi : l[i]? = some (d, r + 1)) (hx : oi = (i : Int) + 1) :
    Calls Try.prog 34 #[.pointer (some ⟨gs, 0, none⟩), (⟨3, oi, od⟩ : O).val] w (DoRet w0 gs g1 g2 X l ⟨0, (r : Int) + 1, d⟩) := by
  have HI := Lib.hid hi
  have HX := Lib.hid hx
  clear hi hx
  have H2 : St w0 ((w.alloc (.cells #[.int .i64 3, .int .i64 oi, .string od] 84)).alloc (.cells #[.int .i64 0, .int .i64 0, .string { data := #[] }] 49)) gs g1 g2 (opC w.heap.size ⟨3, oi, od⟩ :: anC (w.heap.size + 1) zA :: X) l := hs.two ⟨3, oi, od⟩
  unfold O.val
  simp only
  go_enter Try.func34, Try.ntmps34
  go_wp2
  generalize (w.alloc (.cells #[.int .i64 3, .int .i64 oi, .string od] 84)).alloc (.cells #[.int .i64 0, .int .i64 0, .string { data := #[] }] 49) = w1 at H2 ⊢
  obtain ⟨gan, HGN⟩ : ∃ gan, Hid (gan = w.heap.size + 1) := ⟨_, Lib.hid rfl⟩
  rw [← HGN.out] at H2 ⊢
  generalize w.heap.size = gop at H2 ⊢
  clear HGN
  obtain ⟨bl, h, m, J, R, H⟩ := H2
  have q0 := fun z : LaterOf w1 => (H.later z.h).cell 3 rfl (k := 0) rfl
  have q1 := fun z : LaterOf w1 => (H.later z.h).cell 3 rfl (k := 1) rfl
  have q2 := fun z : LaterOf w1 => (H.later z.h).cell 0 rfl (k := 0) rfl
  have lk := fun z : LaterOf w1 => (H.later z.h).look 1 rfl kint hid Try.underlying79 (oz z.w)
  obtain ⟨v5, hv5⟩ : ∃ v, v = (h oi).elim (Value.pointer none) oenc := ⟨_, rfl⟩
  rw [← hv5] at lk
  have HS := Lib.hid H
  have HR := Lib.hid R
  have HV := Lib.hid hv5
  clear H R hv5 hs
  simp only at q0 q1 q2 lk
  refine wp_region_later (by kernel_rfl) (by kernel_rfl) ?_
  repeat (go_big_quiet_step (fail))
  refine wpQuiet_nil ?_; intro xw hw'; obtain ⟨xq, hw''⟩ := hw'; obtain ⟨xw0, xh⟩ := xq; change xw = xw0 at hw''; subst hw''
  have H3 := HS.out.later xh
  clear q0 q1 q2 lk HS xh
  have HT := Lib.hid H3
  have k0 := H3.cell 3 rfl (k := 0) rfl
  have k1 := H3.cell 3 rfl (k := 1) rfl
  have k2 := H3.cell 3 rfl (k := 2) rfl
  have s0 := H3.cell 0 rfl (k := 0) rfl
  have s1 := H3.cell 0 rfl (k := 1) rfl
  have e0 := H3.cell 4 rfl (k := 0) rfl
  have e1 := H3.cell 4 rfl (k := 1) rfl
  have e2 := H3.cell 4 rfl (k := 2) rfl
  have u0 := H3.froz 4 rfl (k := 0)
  have u1 := H3.froz 4 rfl (k := 1)
  have u2 := H3.froz 4 rfl (k := 2)
  simp only [zA, nos] at k0 k1 k2 e0 e1 e2
  clear H3
  obtain ⟨g, hg, hh⟩ := HR.out.some_obj HI.out
  have hv := HV.out
  rw [HX.out, hh] at hv
  obtain rfl : v5 = .pointer (some ⟨g, 0, none⟩) := hv
  have hj := list_at (X := opC gop ⟨3, oi, od⟩ :: anC gan zA :: X) (J := J) (objs_at HI.out hg)
  have j0 := fun z : LaterOf xw => (HT.out.later z.h).cell _ (by rw [List.getElem?_cons_succ, List.getElem?_cons_succ, List.getElem?_cons_succ]; exact hj) (k := 0) rfl
  have j1 := fun z : LaterOf xw => (HT.out.later z.h).cell _ (by rw [List.getElem?_cons_succ, List.getElem?_cons_succ, List.getElem?_cons_succ]; exact hj) (k := 1) rfl
  obtain ⟨q, HQ⟩ : ∃ q : Nat, Hid (q = r + 1) := ⟨_, Lib.hid rfl⟩
  rw [← HQ.out] at j1
  have hq : (r : Int) + 1 = (q : Int) := by have := HQ.out; omega
  rw [hq]
  clear hq hg hh hj
  go_wp2
  (refine wp_region_tail 9 (by kernel_rfl) (by kernel_rfl) ?_; simp only [List.take_succ_cons, List.take_zero, List.drop_succ_cons, List.drop_zero]; repeat (go_big_quiet_step (fail)))
  clear u0 u1 u2 e0 e1 e2 k0 k1 k2 s0 s1 j0 j1
  refine wpQuiet_nil ?_; intro xw2 hw'; obtain ⟨xq, hw''⟩ := hw'; obtain ⟨xw0, xh⟩ := xq; change xw2 = xw0 at hw''; subst hw''
  have H3 := HT.out.later xh
  have e0 := H3.cell 4 rfl (k := 0) rfl
  have e1 := H3.cell 4 rfl (k := 1) rfl
  have e2 := H3.cell 4 rfl (k := 2) rfl
  simp only [zA, nos] at e0 e1 e2
  have u0 := H3.froz 4 rfl (k := 0)
  have u1 := H3.froz 4 rfl (k := 1)
  have u2 := H3.froz 4 rfl (k := 2)
  have H8 := ((H3.set 4 rfl (k := 0) (.int .i64 0)).set 4 rfl (k := 1) (.int .i64 (q : Int))).set 4 rfl (k := 2) (.string d)
  have f0 := H8.cell 4 rfl (k := 0) rfl
  have f1 := H8.cell 4 rfl (k := 1) rfl
  have f2 := H8.cell 4 rfl (k := 2) rfl
  have H9 := Lib.hid H8
  clear H8
  clear H3
  go_wp2
  refine bodyPost_ret (v := .agg #[.int .i64 0, .int .i64 (q : Int), .string d]) (by simp [results, Try.results34, asAddr, Result.andThen, go_sem, f0, f1, f2]) rfl ?_
  have eq : (q : Int) = (r : Int) + 1 := by have := HQ.out; omega
  exact ⟨by rw [eq]; rfl, St.ofSep HR.out H9.out⟩
set_option maxRecDepth 100000 in
set_option maxHeartbeats 1600000 in
theorem do_drop (gs g1 g2 b : Nat) (X : List It) (l : S) (oi : Int) (od : ByteArray) (i r : Nat) (d : ByteArray) (w0 w : World) (hs : St w0 w gs g1 g2 X l) (ho : Ok l) (hb : Bd l b) (hbb : b + 3 < 140737488355328) (hid : (Lit.int .i64 oi).wf = true) (hi : l[i]? = some (d, r + 1)) (hx : oi = (i : Int) + 1) (hsz : d.size ≤ maxLen) :
    Calls Try.prog 34 #[.pointer (some ⟨gs, 0, none⟩), (⟨2, oi, od⟩ : O).val] w (DoRet w0 gs g1 g2 X (l.set i (d, r)) ⟨0, (r : Int), nos⟩) := by
  have HI := Lib.hid hi
  have HX := Lib.hid hx
  have HOK := Lib.hid ho
  have hrb : r + 1 ≤ b := hb.2 _ _ _ hi
  clear hi hx ho hb
  have H2 : St w0 ((w.alloc (.cells #[.int .i64 2, .int .i64 oi, .string od] 84)).alloc (.cells #[.int .i64 0, .int .i64 0, .string { data := #[] }] 49)) gs g1 g2 (opC w.heap.size ⟨2, oi, od⟩ :: anC (w.heap.size + 1) zA :: X) l := hs.two ⟨2, oi, od⟩
  unfold O.val
  simp only
  go_enter Try.func34, Try.ntmps34
  go_wp2
  generalize (w.alloc (.cells #[.int .i64 2, .int .i64 oi, .string od] 84)).alloc (.cells #[.int .i64 0, .int .i64 0, .string { data := #[] }] 49) = w1 at H2 ⊢
  obtain ⟨gan, HGN⟩ : ∃ gan, Hid (gan = w.heap.size + 1) := ⟨_, Lib.hid rfl⟩
  rw [← HGN.out] at H2 ⊢
  generalize w.heap.size = gop at H2 ⊢
  clear HGN
  obtain ⟨bl, h, m, J, R, H⟩ := H2
  have q0 := fun z : LaterOf w1 => (H.later z.h).cell 3 rfl (k := 0) rfl
  have q1 := fun z : LaterOf w1 => (H.later z.h).cell 3 rfl (k := 1) rfl
  have q2 := fun z : LaterOf w1 => (H.later z.h).cell 0 rfl (k := 0) rfl
  have lk := fun z : LaterOf w1 => (H.later z.h).look 1 rfl kint hid Try.underlying79 (oz z.w)
  obtain ⟨v5, hv5⟩ : ∃ v, v = (h oi).elim (Value.pointer none) oenc := ⟨_, rfl⟩
  rw [← hv5] at lk
  have HS := Lib.hid H
  have HR := Lib.hid R
  have HV := Lib.hid hv5
  clear H R hv5 hs
  simp only at q0 q1 q2 lk
  refine wp_region_later (by kernel_rfl) (by kernel_rfl) ?_
  repeat (go_big_quiet_step (fail))
  refine wpQuiet_nil ?_; intro xw hw'; obtain ⟨xq, hw''⟩ := hw'; obtain ⟨xw0, xh⟩ := xq; change xw = xw0 at hw''; subst hw''
  have H3 := HS.out.later xh
  clear q0 q1 q2 lk HS xh
  have HT := Lib.hid H3
  have k0 := H3.cell 3 rfl (k := 0) rfl
  have k1 := H3.cell 3 rfl (k := 1) rfl
  have k2 := H3.cell 3 rfl (k := 2) rfl
  have s0 := H3.cell 0 rfl (k := 0) rfl
  have s1 := H3.cell 0 rfl (k := 1) rfl
  have e0 := H3.cell 4 rfl (k := 0) rfl
  have e1 := H3.cell 4 rfl (k := 1) rfl
  have e2 := H3.cell 4 rfl (k := 2) rfl
  have u0 := H3.froz 4 rfl (k := 0)
  have u1 := H3.froz 4 rfl (k := 1)
  have u2 := H3.froz 4 rfl (k := 2)
  simp only [zA, nos] at k0 k1 k2 e0 e1 e2
  clear H3
  obtain ⟨g, hg, hh⟩ := HR.out.some_obj HI.out
  have HG := Lib.hid hg
  have hl := (List.getElem?_eq_some_iff.1 HI.out).1
  have hv := HV.out
  rw [HX.out, hh] at hv
  obtain rfl : v5 = .pointer (some ⟨g, 0, none⟩) := hv
  have hj := list_at (X := opC gop ⟨2, oi, od⟩ :: anC gan zA :: X) (J := J) (objs_at HI.out hg)
  have hj3 : (stC gs g1 g2 :: om g1 (live l) h :: nm g2 (live l) m :: ((opC gop ⟨2, oi, od⟩ :: anC gan zA :: X) ++ (objs l bl ++ J)))[(opC gop ⟨2, oi, od⟩ :: anC gan zA :: X).length + i + 3]? = some (oc g d (r + 1)) := by
    rw [List.getElem?_cons_succ, List.getElem?_cons_succ, List.getElem?_cons_succ]
    exact hj
  have j1 := HT.out.cell _ hj3 (k := 1) rfl
  have v1 := HT.out.froz _ hj3 (k := 1)
  have HA := HT.out.set _ hj3 (k := 1) (.int .i64 (r : Int))
  rw [List.set_cons_succ, List.set_cons_succ, List.set_cons_succ, list_set _ (by rw [objs_len HR.out.len]; exact hl)] at HA
  have eob := objs_set (l := l) (bl := bl) (i := i) (g := g) (r := r) (d := d)
  rw [set_same hg] at eob
  have HB : Sep w0 (xw.setCell ⟨g, 1, none⟩ (.int .i64 (r : Int))) (stC gs g1 g2 :: om g1 (live l) h :: nm g2 (live l) m :: opC gop ⟨2, oi, od⟩ :: anC gan zA :: (X ++ (objs (l.set i (d, r)) bl ++ J))) := by rw [eob]; exact HA
  obtain ⟨q, HQ⟩ : ∃ q : Nat, Hid (q = r + 1) := ⟨_, Lib.hid rfl⟩
  rw [← HQ.out] at j1
  have hq : (q : Int) - 1 = (r : Int) := by have := HQ.out; omega
  have hq0 : (0 : Int) ≤ (r : Int) := by omega
  have hq1 : (r : Int) < 140737488355328 := by omega
  clear hh hj hj3 HA eob
  have hj4 : (X ++ (objs (l.set i (d, r)) bl ++ J))[X.length + i]? = some (oc g d r) := list_at (objs_at (by rw [List.getElem?_set, if_pos rfl, if_pos hl]) hg)
  clear hl
  go_upto_region 13 with (fail)
  clear k0 k1 k2 s0 s1 e0 e1 e2 u0 u1 u2 j1 v1 hq HT
  generalize xw.setCell ⟨g, 1, none⟩ (.int .i64 (r : Int)) = xw2 at HB ⊢
  have e0 := HB.cell 4 rfl (k := 0) rfl
  have e1 := HB.cell 4 rfl (k := 1) rfl
  have e2 := HB.cell 4 rfl (k := 2) rfl
  have hj5 : (stC gs g1 g2 :: om g1 (live l) h :: nm g2 (live l) m :: opC gop ⟨2, oi, od⟩ :: anC gan zA :: (X ++ (objs (l.set i (d, r)) bl ++ J)))[X.length + i + 5]? = some (oc g d r) := by
    rw [List.getElem?_cons_succ, List.getElem?_cons_succ, List.getElem?_cons_succ, List.getElem?_cons_succ, List.getElem?_cons_succ]
    exact hj4
  have y1 := HB.cell (X.length + i + 5) hj5 (k := 1) rfl
  simp only [zA, nos] at e0 e1 e2
  have u0 := HB.froz 4 rfl (k := 0)
  have u1 := HB.froz 4 rfl (k := 1)
  have u2 := HB.froz 4 rfl (k := 2)
  by_cases hr : r = 0
  · have hr3 : ((r : Int) == 0) = true := by rw [hr]; rfl
    have HR0 := Lib.hid hr
    have HHO : Hid (h oi = some g) := Lib.hid (by rw [HX.out]; exact (HR.out.obj _ _).2 ⟨i, d, r, rfl, HI.out, hg⟩)
    have HMD : Hid (m d = some ((i : Int) + 1)) := Lib.hid ((HR.out.num _ _).2 ⟨i, r, rfl, HI.out⟩)
    have HID := Lib.hid hid
    have HSZ := Lib.hid hsz
    have HB1 := Lib.hid HB
    have f0 := fun z : LaterOf xw2 => (HB1.out.later z.h).cell 0 rfl (k := 0) rfl
    have f1 := fun z : LaterOf xw2 => (HB1.out.later z.h).cell 3 rfl (k := 1) rfl
    simp only at f1
    clear HB hr hq0 hq1 hid hsz hg hrb hbb hj4 hj5 e0 e1 e2 u0 u1 u2
    go_wp2
    clear y1
    (refine wp_region_tail 6 (by kernel_rfl) (by kernel_rfl) ?_; simp only [List.take_succ_cons, List.take_zero, List.drop_succ_cons, List.drop_zero]; repeat (go_big_quiet_step (fail)))
    clear f0 f1
    refine wpQuiet_nil ?_; intro xw hw'; obtain ⟨xq, hw''⟩ := hw'; obtain ⟨xw0, xh⟩ := xq; change xw = xw0 at hw''; subst hw''
    have H3 := HB1.out.later xh
    obtain ⟨w4, hdel, _, H4⟩ := H3.drop 1 rfl kint HID.out Try.underlying79
    rw [HHO.out] at H4
    simp only [Option.isSome, if_true] at H4
    have HB2 := Lib.hid H4
    clear H3 H4 xh
    have f0 := fun z : LaterOf w4 => (HB2.out.later z.h).cell 0 rfl (k := 1) rfl
    have f1 := fun z : LaterOf w4 => (HB2.out.later z.h).cell (X.length + i + 5) (by
      rw [List.set_cons_succ, List.set_cons_zero, List.getElem?_cons_succ, List.getElem?_cons_succ, List.getElem?_cons_succ, List.getElem?_cons_succ, List.getElem?_cons_succ]
      exact list_at (objs_at (d := d) (r := r) (by rw [List.getElem?_set, if_pos rfl, if_pos (List.getElem?_eq_some_iff.1 HI.out).1]) HG.out)) (k := 0) rfl
    go_wp2
    (refine wp_region_tail 8 (by kernel_rfl) (by kernel_rfl) ?_; simp only [List.take_succ_cons, List.take_zero, List.drop_succ_cons, List.drop_zero]; repeat (go_big_quiet_step (fail)))
    clear f0 f1
    refine wpQuiet_nil ?_; intro xw hw'; obtain ⟨xq, hw''⟩ := hw'; obtain ⟨xw0, xh⟩ := xq; change xw = xw0 at hw''; subst hw''
    have H3 := HB2.out.later xh
    obtain ⟨w5, hdel2, _, H4⟩ := H3.drop 2 rfl kstr HSZ.out Try.underlying80
    rw [HMD.out] at H4
    simp only [Option.isSome, if_true] at H4
    have hlive : live (l.set i (d, r)) = live l - 1 := by
      have := live_set l i (d, r + 1) (d, r) HI.out
      simp only at this
      rw [if_pos (by omega), if_neg (by rw [HR0.out]; omega)] at this
      omega
    have H6 : Sep w0 w5 (stC gs g1 g2 :: om g1 (live (l.set i (d, r))) (mdel h oi) :: nm g2 (live (l.set i (d, r))) (mdel m d) :: opC gop ⟨2, oi, od⟩ :: anC gan zA :: (X ++ (objs (l.set i (d, r)) bl ++ J))) := by
      rw [hlive]
      exact H4
    have HREL : Hid (Rel (l.set i (d, r)) bl (mdel h oi) (mdel m d)) := Lib.hid (by
      rw [HX.out, HR0.out]
      exact HR.out.last HOK.out (by rw [HI.out, HR0.out]))
    have e0 := H6.cell 4 rfl (k := 0) rfl
    have e1 := H6.cell 4 rfl (k := 1) rfl
    have e2 := H6.cell 4 rfl (k := 2) rfl
    have y1 := H6.cell (X.length + i + 5) (by
      rw [List.getElem?_cons_succ, List.getElem?_cons_succ, List.getElem?_cons_succ, List.getElem?_cons_succ, List.getElem?_cons_succ]
      exact list_at (objs_at (d := d) (r := r) (by rw [List.getElem?_set, if_pos rfl, if_pos (List.getElem?_eq_some_iff.1 HI.out).1]) HG.out)) (k := 1) rfl
    simp only [zA, nos] at e0 e1 e2
    have u0 := H6.froz 4 rfl (k := 0)
    have u1 := H6.froz 4 rfl (k := 1)
    have u2 := H6.froz 4 rfl (k := 2)
    have H8 := ((H6.set 4 rfl (k := 0) (.int .i64 0)).set 4 rfl (k := 1) (.int .i64 (r : Int))).set 4 rfl (k := 2) (.string { data := #[] })
    have f0 := H8.cell 4 rfl (k := 0) rfl
    have f1 := H8.cell 4 rfl (k := 1) rfl
    have f2 := H8.cell 4 rfl (k := 2) rfl
    have H9 := Lib.hid H8
    clear H8
    clear H3 H4 H6 xh hlive hdel hr3
    go_wp2
    refine bodyPost_ret (v := .agg #[.int .i64 0, .int .i64 (r : Int), .string { data := #[] }]) (by simp [results, Try.results34, asAddr, Result.andThen, go_sem, f0, f1, f2]) rfl ?_
    exact ⟨rfl, St.ofSep HREL.out H9.out⟩
  · obtain ⟨rr, HRR⟩ : ∃ rr, Hid (r = rr + 1) := ⟨r - 1, Lib.hid (by omega)⟩
    have HREL : Hid (Rel (l.set i (d, r)) bl h m) := Lib.hid (by rw [HRR.out]; exact HR.out.bump HI.out)
    have hlive : live (l.set i (d, r)) = live l := by
      have := live_set l i (d, r + 1) (d, r) HI.out
      simp only at this
      rw [if_pos (by omega), if_pos (by omega)] at this
      omega
    rw [← hlive] at HB
    have H8 := ((HB.set 4 rfl (k := 0) (.int .i64 0)).set 4 rfl (k := 1) (.int .i64 (r : Int))).set 4 rfl (k := 2) (.string { data := #[] })
    have f0 := H8.cell 4 rfl (k := 0) rfl
    have f1 := H8.cell 4 rfl (k := 1) rfl
    have f2 := H8.cell 4 rfl (k := 2) rfl
    have H9 := Lib.hid H8
    clear H8
    clear HB hlive hj4 hj5 hrb hbb hid hg hsz HV
    have hr3 : ((r : Int) == 0) = false := by rw [beq_eq_false_iff_ne]; omega
    clear hr hq0 hq1
    go_wp2
    refine bodyPost_ret (v := .agg #[.int .i64 0, .int .i64 (r : Int), .string { data := #[] }]) (by simp [results, Try.results34, asAddr, Result.andThen, go_sem, f0, f1, f2]) rfl ?_
    exact ⟨rfl, St.ofSep HREL.out H9.out⟩
theorem do_any (gs g1 g2 b : Nat) (X : List It) (l l' : S) (o : O) (a : A) (w0 w : World) (hs : St w0 w gs g1 g2 X l) (hid : (Lit.int .i64 o.id).wf = true) (hw : Way l o a l') (ho : Ok l) (hb : Bd l b) (hbb : b + 3 < 140737488355328) (hsz : ∀ (i : Nat) (d : ByteArray) (r : Nat), l[i]? = some (d, r) → d.size ≤ 4096) :
    Calls Try.prog 34 #[.pointer (some ⟨gs, 0, none⟩), o.val] w (DoRet w0 gs g1 g2 X l' a) := by
  have hw' := hw
  obtain ⟨ok, oi, od⟩ := o
  cases hw with
  | kindLo h => exact do_kindLo gs g1 g2 X l ok oi od w0 w hs hid h
  | kindHi h => exact do_kindHi gs g1 g2 X l ok oi od w0 w hs hid h
  | long hk h =>
    obtain rfl : ok = 1 := hk
    exact do_long gs g1 g2 X l oi od w0 w hs hid h
  | none hk h =>
    rcases hk with hk | hk
    · obtain rfl : ok = 2 := hk
      exact do_none2 gs g1 g2 X l oi od w0 w hs hid h
    · obtain rfl : ok = 3 := hk
      exact do_none3 gs g1 g2 X l oi od w0 w hs hid h
  | drop hk hi hx =>
    obtain rfl : ok = 2 := hk
    exact do_drop gs g1 g2 b X l oi od _ _ _ w0 w hs ho hb hbb hid hi hx (by have := hsz _ _ _ hi; simp only [maxLen]; omega)
  | get hk hi hx =>
    obtain rfl : ok = 3 := hk
    exact do_get gs g1 g2 b X l oi od _ _ _ w0 w hs hid hi hx
  | held hk h =>
    obtain rfl : ok = 1 := hk
    exact do_put gs g1 g2 b X l _ oi od _ w0 w hs hid hw' ho hb hbb h
  | again hk h =>
    obtain rfl : ok = 1 := hk
    exact do_put gs g1 g2 b X l _ oi od _ w0 w hs hid hw' ho hb hbb h
  | new hk h =>
    obtain rfl : ok = 1 := hk
    exact do_put gs g1 g2 b X l _ oi od _ w0 w hs hid hw' ho hb hbb h
end Dd
end Go.Proofs.Ytmbkonhclniolaa
