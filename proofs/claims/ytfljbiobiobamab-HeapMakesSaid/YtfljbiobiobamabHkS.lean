/-
  Walks of the sorts of a heap's blocks: heap.Sorted and the reference's FSorted. Conditions: none beyond each theorem's own premises.
-/
import Derived.Test.YtfljbiobiobamabHkC
import Derived.Test.YtfljbiobiobamabHkV
import Derived.Test.YtfljbiobiobamabSrtF
import Derived.Test.YtfljbiobiobamabShelfH
import Derived.Test.YtfljbiobiobamabSort
namespace Go.Proofs.Ytfljbiobiobamab
open Go.RowKit Go.Sort
set_option linter.unusedVariables false
namespace Hk
open Hp (W lt cmpI orI cmp_lt)
instance : Inhabited W := ⟨⟨0, 0⟩⟩

theorem lt_irr (a : W) : lt a a = false := by simp [lt]
theorem lt_tot {a b : W} (h : lt a b = false) (h' : lt b a = false) : a = b := by
  obtain ⟨i, x⟩ := a
  obtain ⟨j, y⟩ := b
  simp [lt] at h h'
  have e1 : x = y := by omega
  have e2 : i = j := by omega
  rw [e1, e2]
theorem lt_ntr {a b c : W} (h : lt a b = false) (h' : lt b c = false) : lt a c = false := by
  simp [lt] at *
  omega
theorem swo_of {cf : W → W → Int} (hcf : ∀ a b, decide (cf a b < 0) = lt a b) : SWO (ltOf cf) where
  irrefl x := by unfold ltOf; rw [hcf]; exact lt_irr x
  trans x y z h1 h2 := by unfold ltOf at *; rw [hcf] at *; exact Hp.lt_trans h1 h2
  ntrans x y z h1 h2 := by unfold ltOf at *; rw [hcf] at *; exact lt_ntr h1 h2
theorem fcmp_lt (a b : W) : decide (fcmp a b < 0) = lt a b := by
  unfold fcmp
  cases h : lt a b with
  | true => simp
  | false =>
    cases h2 : lt b a <;> simp
/-- in order, and the same blocks -/
def Srtd (l S : List W) : Prop := S.Perm l ∧ S.Pairwise (fun a b => lt b a = false)
theorem srtd_one {l S S' : List W} (h : Srtd l S) (h' : Srtd l S') : S = S' :=
  Srt.asc_unique (lt := lt) (fun a _ b _ h1 h2 => lt_tot h1 h2) h.2 h'.2 (h.1.trans h'.1.symm)

theorem sort_worn (g : Nat) (cf : W → W → Int) (hcf : ∀ a b, decide (cf a b < 0) = lt a b) (eg : ∀ args w, (callFunc g args).run Try.prog w = .ok (.enter g args) w)
    (hg : ∀ (a b : W) (u : World), Calls Try.prog g #[.agg #[.int .i64 a.id, .int .i64 a.wear], .agg #[.int .i64 b.id, .int .i64 b.wear]] u (GRet u (.int .i64 (cf a b))))
    (w0 w : World) (n c : Nat) (A : Option Addr) (l : List W) (H : Sep w0 w [.row 25 2 (.slice A n c) n (l.flatMap W.cells)]) (hl : l.length = n) (hn : n < 4611686018427387904) :
    Calls Try.prog 32 #[.slice A n c, .func (.func g) #[] #[]] w (fun e w' => e = .returned (.tuple #[]) ∧ ∃ S, Srtd l S ∧ Sep w0 w' [.row 25 2 (.slice A n c) n (S.flatMap W.cells)]) := by
  rcases Nat.eq_zero_or_pos n with rfl | h0
  · refine Calls.mono (AnyF.slices_SortFunc_none { Try.sortWorn with } A c (.func (.func g) #[] #[]) w) ?_
    rintro e w' ⟨rfl, rfl⟩
    exact ⟨rfl, l, ⟨.refl _, by rw [List.eq_nil_of_length_eq_zero hl]; exact .nil⟩, H⟩
  · obtain ⟨gb, rfl, _, _⟩ := H.rowAt 0 rfl h0
    have hgl : gb < w.heap.size := by
      obtain ⟨g', cap, cur, hv, hh, _⟩ := (H.rowHas 0 rfl).2.resolve_left (fun h => by omega)
      cases hv
      exact (Array.getElem?_eq_some_iff.1 hh).1
    have hs : l.toArray.size = n := by simpa using hl
    have hcon := AnyQ.slices_SortFunc Try.sortWorn 2 Try.isAgg25 Try.sizeOf25 W.cells Hp.W.len (fun x v hv => by simp [W.cells] at hv; rcases hv with rfl | rfl <;> rfl) cf (swo_of hcf) g #[] gb 0 c l.toArray w eg
      (fun _ _ _ _ x y => hg x y _) (holdsK_row (i := 0) W.cells 2 Hp.W.len H rfl hl h0) hgl (by rw [hs]; exact hn)
    rw [hs] at hcon
    refine Calls.mono hcon ?_
    rintro e w' ⟨rfl, d', m, os, hp, hso, rfl⟩
    rw [← hs] at hp
    obtain ⟨h1, h2⟩ := permIn_list hp
    refine ⟨rfl, d'.toList, ⟨h2, ?_⟩, sorted_row (i := 0) W.cells 2 Hp.W.len (by omega) H rfl hl h0 (h1.trans hl)⟩
    refine (sortedIn_list (h1.trans hl) hso).imp fun {a b} h => ?_
    unfold ltOf at h
    rw [hcf] at h
    exact h

def SortRet (w : World) (n : Nat) (l : List W) (e : Ending) (w' : World) : Prop := ∃ S A c, Srtd l S ∧ e = .returned (.slice A n c) ∧ Sep w w' [.row 25 2 (.slice A n c) n (S.flatMap W.cells)]

set_option maxRecDepth 100000 in
set_option maxHeartbeats 1600000 in
theorem fsorted_any (A : Option Addr) (n c : Nat) (l : List W) (w : World) (hr : Rd w w.heap.size 2 A n (l.flatMap W.cells)) (hl : l.length = n) (hn : n * 16 ≤ 140737488355328) :
    Calls Try.prog 11 #[.slice A n c] w (SortRet w n l) := by
  obtain ⟨ti, hti, t0, t1, t2⟩ := info_parts Hp.worn_info
  have HS0 : Hid (Sep w (w.alloc (.cells #[] 25)) [.row 25 2 (.slice (some ⟨w.heap.size, 0, none⟩) 0 0) 0 []]) := Lib.hid (((Sep.nil_ w).alloc _).nilRow 25 2 _)
  have HRs := Lib.hid (hr.later HS0.out.below)
  have HL := Lib.hid hl
  clear hr hl
  go_enter Try.func11, Try.ntmps11
  go_upto_region 2 with (at_builtin; refine wpList_append_sep HS0.out 0 rfl (.tmp 4) (.tmp 5) 22 rfl 25 ti (.agg #[.int .i64 0, .int .i64 0]) 2 16 Try.underlying22 hti t0 t1 t2 rfl (by omega) _ 0 _ rfl rfl _ _ n c _ rfl HRs.out (Hp.W.one l) (by simp only [maxLen]; omega) (by omega) ?_; intro A6 c6 w3 hc6 hs3 HA'; have HA := Lib.hid HA'; clear HA')
  simp only [Nat.zero_add, List.nil_append] at HA ⊢
  have cS := Lib.hid (sort_worn 33 fcmp fcmp_lt (enters_of Try.func33 (by kernel_rfl) rfl) fs1_gr w w3 n c6 A6 l HA.out HL.out (by omega))
  clear HS0 HRs HA
  go_wp2_with fail
  refine cS.out.mono ?_; rintro en w6 ⟨rfl, S, hS, K⟩
  have HS := Lib.hid K
  have HSS := Lib.hid hS
  clear cS K hS
  go_wp2
  go_ret
  exact ⟨S, A6, c6, HSS.out, rfl, HS.out⟩

set_option maxRecDepth 100000 in
set_option maxHeartbeats 1600000 in
theorem sortedFunc_any (Bs : Nat) (A : Option Addr) (len cap : Nat) (xs : List W) (hlen : xs.length = len) (hbig : len * 16 ≤ 140737488355328) (w : World)
    (hc : w.cell? ⟨Bs, 0, none⟩ = some (.slice A len cap)) (hR : Rd w w.heap.size 2 A len (xs.flatMap W.cells)) :
    Calls Try.prog 29 #[.func (.func 48) #[] #[.pointer (some ⟨Bs, 0, none⟩)], .func (.func 31) #[] #[]] w (SortRet w len xs) := by
  have cC := Lib.hid (collect_any Bs A len cap xs hlen hbig w hc hR)
  have HL := Lib.hid hlen
  clear hc hR
  go_enter Try.func29, Try.ntmps29
  go_wp2_with fail
  refine cC.out.mono ?_; rintro en w1 ⟨A1, c1, hc1, rfl, K⟩
  have cS := Lib.hid (sort_worn 31 _ cmp_lt (enters_of Try.func31 (by kernel_rfl) rfl) compare_gr w w1 len c1 A1 xs K HL.out (by omega))
  clear K cC
  go_wp2_with fail
  refine cS.out.mono ?_; rintro en w6 ⟨rfl, S, hS, K⟩
  have HS := Lib.hid K
  have HSS := Lib.hid hS
  clear cS K hS
  go_wp2
  go_ret
  exact ⟨S, A1, c1, HSS.out, rfl, HS.out⟩

set_option maxRecDepth 100000 in
set_option maxHeartbeats 1600000 in
theorem values_any (A : Option Addr) (n c : Nat) (w : World) :
    Calls Try.prog 30 #[.slice A n c] w (fun e w' => e = .returned (.func (.func 48) #[] #[.pointer (some ⟨w.heap.size, 0, none⟩)]) ∧ w' = w.alloc (.cells #[.slice A n c] 22)) := by
  go_enter Try.func30, Try.ntmps30
  go_wp2
  go_ret
  exact ⟨rfl, rfl⟩

set_option maxRecDepth 100000 in
set_option maxHeartbeats 1600000 in
theorem sorted_any (A : Option Addr) (n c : Nat) (l : List W) (w : World) (hr : Rd w w.heap.size 2 A n (l.flatMap W.cells)) (hl : l.length = n) (hn : n * 16 ≤ 140737488355328) :
    Calls Try.prog 10 #[.slice A n c] w (SortRet w n l) := by
  have HS0 := Lib.hid ((Sep.nil_ w).new 22 [.slice A n c])
  have cF := Lib.hid (sortedFunc_any w.heap.size A n c l hl hn _ (HS0.out.cell 0 rfl (k := 0) rfl) (hr.later HS0.out.below))
  clear hr hl
  go_enter Try.func10, Try.ntmps10
  go_wp2_with fail
  refine (values_any A n c _).mono ?_; rintro en w1 ⟨rfl, rfl⟩
  go_wp2_with fail
  refine cF.out.mono ?_; rintro en w2 ⟨S, A1, c1, hS, rfl, K⟩
  have HK := Lib.hid (HS0.out.join K)
  have HSS := Lib.hid hS
  clear K hS cF
  go_wp2
  go_ret
  exact ⟨S, A1, c1, HSS.out, rfl, HK.out.pick [1] (by decide) (by simp)⟩
end Hk
end Go.Proofs.Ytfljbiobiobamab
