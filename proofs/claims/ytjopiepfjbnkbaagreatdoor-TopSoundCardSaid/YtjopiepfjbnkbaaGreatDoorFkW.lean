/-
  Walk of fsck.Check. Conditions: none beyond each theorem's own premises.
-/
import Derived.Test.YtjopiepfjbnkbaaGreatDoorFsB
import Derived.Test.YtjopiepfjbnkbaaGreatDoorFkK
namespace Go.Proofs.YtjopiepfjbnkbaaGreatDoor
open Go.RowKit
open Fs (Cm CL flat cnt rightF okB ifact right_any)
set_option linter.unusedVariables false
namespace Fk

theorem int_info : (Tryz.prog.info? 3).map (fun i => (i.zero, i.size, i.bytes)) = some (some (.int .i64 0), 1, 8) := by kernel_rfl
theorem faults_size : (Tryz.prog.info? 69).map (·.size) = some 4 := by kernel_rfl
theorem bz (w : World) : (zeroValue 4).run Tryz.prog w = .ok (.bool false) w := by kernel_rfl
theorem iz (w : World) : (zeroValue 3).run Tryz.prog w = .ok (.int .i64 0) w := by kernel_rfl
theorem kintF : KMk Tryz.prog 3 (Value.int .i64) (fun x => (Lit.int .i64 x).wf = true) := kmk_int Tryz.underlying3
def hOf (K : List Int) : Int → Option Bool := fun x => if x ∈ K then some true else none
theorem hOf_nil : hOf [] = mno := by funext x; simp [hOf, mno]
theorem hOf_snoc (K : List Int) (b : Int) : mup (hOf K) b true = hOf (K ++ [b]) := by
  funext x
  unfold mup hOf
  by_cases h : x = b
  · subst h; simp
  · simp [h]
def cE (n : Nat) : Value := .int .i64 (n : Int)
def cOf (F : List Int) : Int → Option Nat := fun x => if x ∈ F then some (F.count x) else none
theorem cOf_nil : cOf [] = mno := by funext x; simp [cOf, mno]
theorem cOf_snoc (F : List Int) (b : Int) : mup (cOf F) b (F.count b + 1) = cOf (F ++ [b]) := by
  funext x
  unfold mup cOf
  by_cases h : x = b
  · subst h; simp
  · simp [h, List.count_append, List.count_cons]
    have : ¬ b = x := fun e => h e.symm
    simp [this]
theorem cOf_look (F : List Int) (b : Int) : (cOf F b).elim (Value.int .i64 0) cE = .int .i64 ((F.count b : Nat) : Int) := by
  unfold cOf
  by_cases h : b ∈ F
  · rw [if_pos h]; rfl
  · rw [if_neg h, List.count_eq_zero.2 h]; rfl
theorem cOf_mem (F : List Int) (x : Int) : (cOf F x).isSome = true ↔ x ∈ F := by
  unfold cOf
  by_cases h : x ∈ F <;> simp [h]
def MC (g n : Nat) (F : List Int) : It := .map Tryz.prog 3 (Value.int .i64) cE g n (cOf F)
def MB (g n : Nat) (K : List Int) : It := .map Tryz.prog 3 (Value.int .i64) Value.bool g n (hOf K)
theorem mc_store {w0 w : World} {L : List It} (H : Sep w0 w L) (i : Nat) {g n : Nat} {F : List Int} (hi : L[i]? = some (MC g n F)) {b : Int} (hb : (Lit.int .i64 b).wf = true) (hn : n ≤ 1099511627776) :
    ∃ (w' : World) (n' : Nat), (Instr.mapUpdate 53 (.map (some g)) (.int .i64 b) (.int .i64 ((F.count b + 1 : Nat) : Int))).run Tryz.prog w = .ok () w' ∧ n' ≤ n + 1 ∧ Sep w0 w' (L.set i (MC g n' (F ++ [b]))) := by
  obtain ⟨w', h1, _, h2⟩ := H.store i hi kintF hb Tryz.underlying53 (by simp only [maxLen]; omega) (F.count b + 1)
  rw [cOf_snoc] at h2
  exact ⟨w', _, h1, by split <;> omega, h2⟩
theorem mb_store {w0 w : World} {L : List It} (H : Sep w0 w L) (i : Nat) {g n : Nat} {F : List Int} (hi : L[i]? = some (MB g n F)) {b : Int} (hb : (Lit.int .i64 b).wf = true) (hn : n ≤ 1099511627776) :
    ∃ (w' : World) (n' : Nat), (Instr.mapUpdate 108 (.map (some g)) (.int .i64 b) (.bool true)).run Tryz.prog w = .ok () w' ∧ n' ≤ n + 1 ∧ Sep w0 w' (L.set i (MB g n' (F ++ [b]))) := by
  obtain ⟨w', h1, _, h2⟩ := H.store i hi kintF hb Tryz.underlying108 (by simp only [maxLen]; omega) true
  rw [hOf_snoc] at h2
  exact ⟨w', _, h1, by split <;> omega, h2⟩
theorem mc_look {w0 w : World} {L : List It} (H : Sep w0 w L) (i : Nat) {g n : Nat} {F : List Int} (hi : L[i]? = some (MC g n F)) {b : Int} (hb : (Lit.int .i64 b).wf = true) {q : Nat} (hq : F.count b = q) :
    (Instr.lookup 53 (.map (some g)) (.int .i64 b) false).run Tryz.prog w = .ok (.int .i64 (q : Int)) w := by
  have h := H.look i hi kintF hb Tryz.underlying53 (iz w)
  rw [cOf_look, hq] at h
  exact h
theorem mb_look {w0 w : World} {L : List It} (H : Sep w0 w L) (i : Nat) {g n : Nat} {F : List Int} (hi : L[i]? = some (MB g n F)) {b : Int} (hb : (Lit.int .i64 b).wf = true) {q : Bool} (hq : decide (b ∈ F) = q) :
    (Instr.lookup 108 (.map (some g)) (.int .i64 b) false).run Tryz.prog w = .ok (.bool q) w := by
  have h := H.look i hi kintF hb Tryz.underlying108 (bz w)
  rw [show (hOf F b).elim (Value.bool false) Value.bool = .bool q by subst hq; unfold hOf; by_cases h : b ∈ F <;> simp [h]] at h
  exact h
theorem flat_step {l : List Cm} {k : Nat} {x : Cm} (h : l[k]? = some x) : flat ((l.drop k).map Cm.p) = x.bs ++ flat ((l.drop (k + 1)).map Cm.p) := by
  obtain ⟨hl, e⟩ := List.getElem?_eq_some_iff.1 h
  unfold flat
  rw [List.drop_eq_getElem_cons hl, e, List.map_cons, List.flatMap_cons]
  rfl
theorem drop_step {α : Type} {l : List α} {k : Nat} {x : α} (h : l[k]? = some x) : l.drop k = x :: l.drop (k + 1) := by
  obtain ⟨hl, e⟩ := List.getElem?_eq_some_iff.1 h
  rw [List.drop_eq_getElem_cons hl, e]
theorem take_step {α : Type} {l : List α} {k : Nat} {x : α} (h : l[k]? = some x) : l.take (k + 1) = l.take k ++ [x] := by
  rw [List.take_add_one, h]
  rfl
theorem filt_yes {l : List Int} {k : Nat} {x : Int} {p : Int → Bool} (h : l[k]? = some x) (hp : p x = true) : (l.take (k + 1)).filter p = (l.take k).filter p ++ [x] := by
  rw [take_step h, List.filter_append]
  simp [hp]
theorem filt_no {l : List Int} {k : Nat} {x : Int} {p : Int → Bool} (h : l[k]? = some x) (hp : p x = false) : (l.take (k + 1)).filter p = (l.take k).filter p := by
  rw [take_step h, List.filter_append]
  simp [hp]
/-- a list of numbers that can be read -/
def FRd (w : World) (A : Option Addr) (n : Nat) (l : List Int) : Prop := Rd w w.heap.size 1 A n (l.flatMap icell) ∧ l.length = n
theorem FRd.later {w w' : World} {A : Option Addr} {n : Nat} {l : List Int} (h : FRd w A n l) (hb : Below w.heap.size w w') : FRd w' A n l := ⟨h.1.later hb, h.2⟩
theorem frd_row {w0 w : World} {L : List It} (H : Sep w0 w L) (i : Nat) {n c : Nat} {A : Option Addr} {l : List Int} (hi : L[i]? = some (.row 3 1 (.slice A n c) n (l.flatMap icell))) : FRd w A n l := by
  refine ⟨H.rd i hi, ?_⟩
  have h1 := (H.rowHas i hi).1
  rw [flat_len icell_len] at h1
  omega
/-- the answer as it lies in memory -/
def FV (w : World) (a : Fa) (v : Value) : Prop := ∃ A0 n0 c0 A1 n1 c1 A2 n2 c2 A3 n3 c3, v = .agg #[.slice A0 n0 c0, .slice A1 n1 c1, .slice A2 n2 c2, .slice A3 n3 c3] ∧ FRd w A0 n0 a.twice ∧ FRd w A1 n1 a.lost ∧ FRd w A2 n2 a.unm ∧ FRd w A3 n3 a.none_
theorem FV.later {w w' : World} {a : Fa} {v : Value} (h : FV w a v) (hb : Below w.heap.size w w') : FV w' a v := by
  obtain ⟨A0, n0, c0, A1, n1, c1, A2, n2, c2, A3, n3, c3, h, h0, h1, h2, h3⟩ := h
  exact ⟨A0, n0, c0, A1, n1, c1, A2, n2, c2, A3, n3, c3, h, h0.later hb, h1.later hb, h2.later hb, h3.later hb⟩
abbrev nl : Value := .slice none 0 0
def fcs (a b c d : Value) : List Value := [a, b, c, d]

set_option maxRecDepth 100000 in
set_option maxHeartbeats 3200000 in
theorem check_bad (z : Int) (A A' : Option Addr) (n c n' c' : Nat) (ms : List Int) (w : World) (hr : Rd w w.heap.size 1 A' n' (ms.flatMap icell)) (hl : ms.length = n') (hn : n' ≤ 9223372036854775807) (hb : (okB z n && rightF z (-1) ms) = false) :
    Calls Tryz.prog 14 #[.int .i64 z, .slice A n c, .slice A' n' c'] w (fun e w' => e = .returned (.tuple #[.agg #[.slice none 0 0, .slice none 0 0, .slice none 0 0, .slice none 0 0], .int .i64 1]) ∧ Below w.heap.size w w') := by
  have HS0 : Hid (Sep w (w.alloc (.cells #[.slice none 0 0, .slice none 0 0, .slice none 0 0, .slice none 0 0] 69)) [.cells w.heap.size 69 [.slice none 0 0, .slice none 0 0, .slice none 0 0, .slice none 0 0]]) := Lib.hid ((Sep.nil_ w).new 69 [.slice none 0 0, .slice none 0 0, .slice none 0 0, .slice none 0 0])
  have cR := right_any z A' A n c n' c' ms _ (hr.later HS0.out.below) hl hn
  rw [hb] at cR
  have HC := Lib.hid cR
  clear cR hr hl
  go_enter Tryz.func14, Tryz.ntmps14
  go_wp2_with fail
  refine HC.out.mono ?_; rintro en w1 ⟨rfl, hb1⟩
  have HS1 := Lib.hid (HS0.out.later hb1)
  have HB := Lib.hid (HS1.out.blk 0 rfl)
  have HW := Lib.hid (HS1.out.whole 0 rfl [.slice none 0 0, .slice none 0 0, .slice none 0 0, .slice none 0 0])
  clear HC HS0 hb1
  generalize w.heap.size = g6 at HS1 HB HW ⊢
  go_wp2_with (refine wpList_store_row rfl 69 (.tmp 6) (.tmp 24) rfl g6 _ rfl rfl 69 #[.slice none 0 0, .slice none 0 0, .slice none 0 0, .slice none 0 0] HB.out faults_size rfl (by simp [Value.oneCell']) ?_)
  have hld : (loadVar 69 ⟨g6, 0, none⟩).run Tryz.prog (w1.setRow g6 #[.slice none 0 0, .slice none 0 0, .slice none 0 0, .slice none 0 0]) = .ok (.agg #[.slice none 0 0, .slice none 0 0, .slice none 0 0, .slice none 0 0]) _ :=
    run_loadVar_row _ g6 69 69 _ (0, 0) _ (HW.out.blk 0 rfl) Tryz.underlying69 rfl faults_size
  refine bodyPost_ret (v := .tuple #[.agg #[.slice none 0 0, .slice none 0 0, .slice none 0 0, .slice none 0 0], .int .i64 1]) (by simp [results, Tryz.results14, asAddr, hld]) rfl ?_
  exact ⟨rfl, HW.out.below⟩

/-- the four lists of faults, and the block that holds them -/
def QL (g : Nat) (A0 : Option Addr) (m0 c0 : Nat) (A1 : Option Addr) (m1 c1 : Nat) (A2 : Option Addr) (m2 c2 : Nat) (A3 : Option Addr) (m3 c3 : Nat) (T L U N : List Int) : List It :=
  [.cells g 69 [.slice A0 m0 c0, .slice A1 m1 c1, .slice A2 m2 c2, .slice A3 m3 c3], .row 3 1 (.slice A0 m0 c0) m0 (T.flatMap icell), .row 3 1 (.slice A1 m1 c1) m1 (L.flatMap icell), .row 3 1 (.slice A2 m2 c2) m2 (U.flatMap icell), .row 3 1 (.slice A3 m3 c3) m3 (N.flatMap icell)]
section
variable {w0 w : World} {g : Nat} {A0 : Option Addr} {m0 c0 : Nat} {A1 : Option Addr} {m1 c1 : Nat} {A2 : Option Addr} {m2 c2 : Nat} {A3 : Option Addr} {m3 c3 : Nat} {T L U N : List Int} {J : List It} {A9 : Option Addr} {c9 : Nat} {b : Int}
theorem ql_app0 (H : Sep w0 w ((QL g A0 m0 c0 A1 m1 c1 A2 m2 c2 A3 m3 c3 T L U N ++ J).set (0 + 1) (.row 3 1 (.slice A9 (m0 + 1) c9) (m0 + 1) (T.flatMap icell ++ [.int .i64 b])))) :
    Sep w0 (w.setCell ⟨g, 0, none⟩ (.slice A9 (m0 + 1) c9)) (QL g A9 (m0 + 1) c9 A1 m1 c1 A2 m2 c2 A3 m3 c3 (T ++ [b]) L U N ++ J) := by
  have h := H.set 0 rfl (k := 0) (.slice A9 (m0 + 1) c9)
  unfold QL
  rw [List.flatMap_append]
  exact h
theorem ql_app1 (H : Sep w0 w ((QL g A0 m0 c0 A1 m1 c1 A2 m2 c2 A3 m3 c3 T L U N ++ J).set (1 + 1) (.row 3 1 (.slice A9 (m1 + 1) c9) (m1 + 1) (L.flatMap icell ++ [.int .i64 b])))) :
    Sep w0 (w.setCell ⟨g, 1, none⟩ (.slice A9 (m1 + 1) c9)) (QL g A0 m0 c0 A9 (m1 + 1) c9 A2 m2 c2 A3 m3 c3 T (L ++ [b]) U N ++ J) := by
  have h := H.set 0 rfl (k := 1) (.slice A9 (m1 + 1) c9)
  unfold QL
  rw [List.flatMap_append]
  exact h
theorem ql_app2 (H : Sep w0 w ((QL g A0 m0 c0 A1 m1 c1 A2 m2 c2 A3 m3 c3 T L U N ++ J).set (2 + 1) (.row 3 1 (.slice A9 (m2 + 1) c9) (m2 + 1) (U.flatMap icell ++ [.int .i64 b])))) :
    Sep w0 (w.setCell ⟨g, 2, none⟩ (.slice A9 (m2 + 1) c9)) (QL g A0 m0 c0 A1 m1 c1 A9 (m2 + 1) c9 A3 m3 c3 T L (U ++ [b]) N ++ J) := by
  have h := H.set 0 rfl (k := 2) (.slice A9 (m2 + 1) c9)
  unfold QL
  rw [List.flatMap_append]
  exact h
theorem ql_app3 (H : Sep w0 w ((QL g A0 m0 c0 A1 m1 c1 A2 m2 c2 A3 m3 c3 T L U N ++ J).set (3 + 1) (.row 3 1 (.slice A9 (m3 + 1) c9) (m3 + 1) (N.flatMap icell ++ [.int .i64 b])))) :
    Sep w0 (w.setCell ⟨g, 3, none⟩ (.slice A9 (m3 + 1) c9)) (QL g A0 m0 c0 A1 m1 c1 A2 m2 c2 A9 (m3 + 1) c9 T L U (N ++ [b]) ++ J) := by
  have h := H.set 0 rfl (k := 3) (.slice A9 (m3 + 1) c9)
  unfold QL
  rw [List.flatMap_append]
  exact h
theorem ql_new (H : Sep w0 w J) : Sep w0 (w.alloc (.cells #[.slice none 0 0, .slice none 0 0, .slice none 0 0, .slice none 0 0] 69)) (QL w.heap.size none 0 0 none 0 0 none 0 0 none 0 0 [] [] [] [] ++ J) := by
  have h := ((((H.new 69 [.slice none 0 0, .slice none 0 0, .slice none 0 0, .slice none 0 0]).nilRow 3 1 none).nilRow 3 1 none).nilRow 3 1 none).nilRow 3 1 none
  refine h.perm ?_
  rw [List.append_assoc, List.append_assoc, List.append_assoc, List.append_assoc]
  exact List.perm_append_comm
end
theorem flen (S : List Int) (p : Int → Bool) (a : Nat) : ((S.take a).filter p).length ≤ a := Nat.le_trans (List.length_filter_le _ _) (by rw [List.length_take]; exact Nat.min_le_left _ _)
theorem wf_of {y : Int} {Z : Nat} (h0 : 0 ≤ y) (h1 : y < (Z : Int)) (hZ : Z ≤ 4096) : (Lit.int .i64 y).wf = true := by
  simp [Lit.wf, IntKind.min, IntKind.max, IntKind.signed, IntKind.bits]
  omega
def pz (F : List Int) (b : Int) : Bool := decide (F.count b = 0)
def qT (Z : Nat) (F : List Int) (b : Int) : Bool := !outB (Z : Int) b && pT F b
def qU (Z : Nat) (ms : List Int) (b : Int) : Bool := !outB (Z : Int) b && decide (b ∉ ms)
def qN (Z : Nat) (b : Int) : Bool := outB (Z : Int) b

set_option maxRecDepth 100000 in
set_option maxHeartbeats 6400000 in
theorem check_ok (Z : Nat) (A A' : Option Addr) (n c n' c' : Nat) (ms FA : List Int) (l : List Cm) (w : World) (hr' : Rd w w.heap.size 1 A' n' (ms.flatMap icell)) (hl' : ms.length = n') (hn' : n' ≤ 1048576) (hb : (okB (Z : Int) n && rightF (Z : Int) (-1) ms) = true)
    (hr : CL w A n l) (hn : n ≤ 400) (hZ : Z ≤ 4096) (hFA : flat (l.map Cm.p) = FA) (hFL : FA.length ≤ 1099511627776 - 1) (hwf : ∀ b ∈ FA, (Lit.int .i64 b).wf = true) (hms : ∀ y ∈ ms, 0 ≤ y ∧ y < (Z : Int)) :
    Calls Tryz.prog 14 #[.int .i64 (Z : Int), .slice A n c, .slice A' n' c'] w (fun e w' => ∃ (v : Value) (S : List Int), e = .returned (.tuple #[v, .int .i64 0]) ∧ Hid (S.Pairwise (· < ·) ∧ ∀ x : Int, x ∈ S ↔ x ∈ FA) ∧ Below w.heap.size w w' ∧ FV w' ⟨S.filter (qT Z FA), ms.filter (pz FA), S.filter (qU Z ms), S.filter (qN Z)⟩ v) := by
  have HS0 : Hid (Sep w (w.alloc (.cells #[.slice none 0 0, .slice none 0 0, .slice none 0 0, .slice none 0 0] 69)) [.cells w.heap.size 69 [.slice none 0 0, .slice none 0 0, .slice none 0 0, .slice none 0 0]]) := Lib.hid ((Sep.nil_ w).new 69 [.slice none 0 0, .slice none 0 0, .slice none 0 0, .slice none 0 0])
  have cR := right_any (Z : Int) A' A n c n' c' ms _ (hr'.later HS0.out.below) hl' (by omega)
  rw [hb] at cR
  have HC := Lib.hid cR
  have hmm := @run_makeMap Tryz.prog
  obtain ⟨i0, hi, hz0, hz1, hz2⟩ := info_parts int_info
  have HR := Lib.hid hr
  have HR' := Lib.hid hr'
  have HL' := Lib.hid hl'
  have HFA := Lib.hid hFA
  have HWF := Lib.hid hwf
  have HMS := Lib.hid hms
  clear cR hr' hl' hr hb hFA hwf hms
  go_enter Tryz.func14, Tryz.ntmps14
  go_wp2_with fail
  refine HC.out.mono ?_; rintro en w1 ⟨rfl, hb1⟩
  have HS1 := Lib.hid (HS0.out.later hb1)
  clear HC HS0 hb1
  generalize w.heap.size = g6 at HS1 ⊢
  go_upto_region 4 with (fail)
  have HS2 : Hid (Sep w ((w1.alloc (.map #[] 0)).alloc (.map #[] 0)) [.cells g6 69 [.slice none 0 0, .slice none 0 0, .slice none 0 0, .slice none 0 0], MC w1.heap.size 0 [], MB (w1.heap.size + 1) 0 []]) := Lib.hid (by
    have hsz : (w1.alloc (.map #[] 0)).heap.size = w1.heap.size + 1 := by simp
    have h := (HS1.out.newMap Tryz.prog 3 (Value.int .i64) cE).newMap Tryz.prog 3 (Value.int .i64) Value.bool
    rw [← cOf_nil, ← hOf_nil, hsz] at h
    exact h)
  clear hmm HS1
  generalize (w1.alloc (.map #[] 0)).alloc (.map #[] 0) = wo at HS2 ⊢
  generalize w1.heap.size + 1 = g9 at HS2 ⊢
  generalize w1.heap.size = g8 at HS2 ⊢
  clear w1
  go_wp2
  go_loopg [29] n (fun g i wr => ∃ (k m : Nat) (F : List Int), k ≤ n ∧ g = n - k ∧ i = .int .i64 k ∧ Hid (F ++ flat ((l.drop k).map Cm.p) = FA) ∧ m ≤ F.length ∧ Sep w wr [.cells g6 69 [.slice none 0 0, .slice none 0 0, .slice none 0 0, .slice none 0 0], MC g8 m F, MB g9 0 []])
  case atStart => exact ⟨0, 0, [], Nat.zero_le _, rfl, rfl, Lib.hid (by rw [List.drop_zero, List.nil_append]; exact HFA.out), Nat.le_refl _, HS2.out⟩
  case round =>
    clear HS2 wo
    obtain ⟨k, m, F, hk, rfl, rfl, HF, hm, hs⟩ := hrel
    have HS := Lib.hid hs
    clear hs
    by_cases hlt : k < n
    · obtain ⟨b, off, rfl, hb, hc⟩ := HR.out.rd.at_ Cm.len (by omega)
      obtain ⟨x, hx⟩ : ∃ x, l[k]? = some x := ⟨_, List.getElem?_eq_getElem (by rw [HR.out.len]; exact hlt)⟩
      obtain ⟨c0, c1⟩ := Cm.facts hb HS.out.below hc hx
      have HQ := Lib.hid (HR.out.ok x (List.mem_of_getElem? hx))
      have HF2 : Hid (F ++ (x.bs ++ flat ((l.drop (k + 1)).map Cm.p)) = FA) := Lib.hid (by rw [← flat_step hx]; exact HF.out)
      clear hc hx HF
      obtain ⟨f, Ax, nx, cx, bs⟩ := x
      simp only at c0 c1 HF2
      go_upto_region 7 with (fail)
      have HS1 := Lib.hid (HS.out.alloc (.cells #[.int .i64 f, .slice Ax nx cx] 63))
      have d1 := (Blk.new wr 63 [.int .i64 f, .slice Ax nx cx]).cell (k := 1) rfl
      change (wr.alloc (.cells #[.int .i64 f, .slice Ax nx cx] 63)).cell? _ = _ at d1
      generalize wr.alloc (.cells #[.int .i64 f, .slice Ax nx cx] 63) = wo at HS1 d1 ⊢
      generalize wr.heap.size = gb at d1 ⊢
      clear c0 c1 HS
      obtain ⟨q1, q2, q3⟩ := HQ.out
      simp only at q1 q2 q3
      have HQ1 := Lib.hid q1
      have HQ2 := Lib.hid q2
      simp only [maxLen] at q3
      clear q1 q2 HQ
      go_wp2
      clear d1
      go_loopg [36] nx (fun g i wr => ∃ (j m : Nat) (F : List Int), j ≤ nx ∧ g = nx - j ∧ i = .int .i64 j ∧ Hid (F ++ (bs.drop j ++ flat ((l.drop (k + 1)).map Cm.p)) = FA) ∧ m ≤ F.length ∧ Sep w wr [.cells g6 69 [.slice none 0 0, .slice none 0 0, .slice none 0 0, .slice none 0 0], MC g8 m F, MB g9 0 []])
      case atStart => exact ⟨0, m, F, Nat.zero_le _, rfl, rfl, HF2, hm, HS1.out⟩
      case round =>
        clear HS1 wo HF2 hm F m
        obtain ⟨j, m, F, hj, rfl, rfl, HF, hm, hs⟩ := hrel
        have HS := Lib.hid hs
        clear hs
        by_cases hlt2 : j < nx
        · obtain ⟨b2, off2, rfl, hb2, hc2⟩ := HQ1.out.at_ icell_len (by omega)
          obtain ⟨y, hy⟩ : ∃ y, bs[j]? = some y := ⟨_, List.getElem?_eq_getElem (by rw [HQ2.out]; exact hlt2)⟩
          have e0 := ifact hb2 HS.out.below hc2 hy
          have HF2 : Hid ((F ++ [y]) ++ (bs.drop (j + 1) ++ flat ((l.drop (k + 1)).map Cm.p)) = FA) := Lib.hid (by rw [List.append_assoc]; have := HF.out; rw [drop_step hy] at this; exact this)
          have hyF : (Lit.int .i64 y).wf = true := HWF.out y (by rw [← HF2.out]; simp)
          have hFl : F.length + 1 ≤ FA.length := by rw [← HF2.out]; simp <;> omega
          clear hc2 hy HF
          obtain ⟨q, hq⟩ : ∃ q, F.count y = q := ⟨_, rfl⟩
          have hqb : q ≤ F.length := by rw [← hq]; exact List.count_le_length
          have hlk := mc_look HS.out 1 rfl hyF hq
          obtain ⟨w2, m2, hst, hm2, h2⟩ := mc_store HS.out 1 rfl hyF (by omega)
          have HS2 : Hid (Sep w w2 [.cells g6 69 [.slice none 0 0, .slice none 0 0, .slice none 0 0, .slice none 0 0], MC g8 m2 (F ++ [y]), MB g9 0 []]) := Lib.hid h2
          rw [hq] at hst
          have hq1 : (q : Int) + 1 = ((q + 1 : Nat) : Int) := by omega
          rw [← hq1] at hst
          clear h2 hq hyF hq1
          go_wp2
          clear HS
          go_roundg (nx - (j + 1))
          case measure => omega
          case rel => exact ⟨j + 1, m2, F ++ [y], by omega, rfl, by go_num, HF2, by rw [List.length_append, List.length_singleton]; omega, HS2.out⟩
        · have HF2 : Hid (F ++ flat ((l.drop (k + 1)).map Cm.p) = FA) := Lib.hid (by have := HF.out; rw [List.drop_of_length_le (by rw [HQ2.out]; omega), List.nil_append] at this; exact this)
          go_wp2
          go_roundg (n - (k + 1))
          case measure => omega
          case rel => exact ⟨k + 1, m, F, by omega, rfl, by go_num, HF2, hm, HS.out⟩
    · obtain rfl : F = FA := by
        have := HF.out
        rw [List.drop_of_length_le (by rw [HR.out.len]; omega)] at this
        simpa [flat] using this
      clear HF HR HFA
      go_upto_region 14 with (fail)
      have HS1 := Lib.hid (ql_new HS.out)
      clear HS
      generalize wr.alloc (.cells #[.slice none 0 0, .slice none 0 0, .slice none 0 0, .slice none 0 0] 69) = wo at HS1 ⊢
      generalize wr.heap.size = g14 at HS1 ⊢
      go_wp2
      go_loopg [48] n' (fun g i wr => ∃ (k mB : Nat) (A1 : Option Addr) (m1 c1 : Nat), k ≤ n' ∧ g = n' - k ∧ i = .int .i64 k ∧ mB ≤ k ∧ Sep w wr (QL g14 none 0 0 A1 m1 c1 none 0 0 none 0 0 [] ((ms.take k).filter (pz F)) [] [] ++ [.cells g6 69 [.slice none 0 0, .slice none 0 0, .slice none 0 0, .slice none 0 0], MC g8 m F, MB g9 mB (ms.take k)]))
      case atStart => exact ⟨0, 0, none, 0, 0, Nat.zero_le _, rfl, rfl, Nat.le_refl _, HS1.out⟩
      case round =>
        clear HS1 wo
        obtain ⟨k, mB, A1, m1, c1, hk, rfl, rfl, hmB, hs⟩ := hrel
        have HS := Lib.hid hs
        clear hs
        by_cases hlt : k < n'
        · obtain ⟨b2, off2, rfl, hb2, hc2⟩ := HR'.out.at_ icell_len (by omega)
          obtain ⟨y, hy⟩ : ∃ y, ms[k]? = some y := ⟨_, List.getElem?_eq_getElem (by rw [HL'.out]; exact hlt)⟩
          have e0 := ifact hb2 HS.out.below hc2 hy
          have HY := Lib.hid hy
          obtain ⟨y0, y1⟩ := HMS.out y (List.mem_of_getElem? hy)
          have hyF := wf_of y0 y1 hZ
          have hm1 : m1 ≤ k := by rw [← (frd_row HS.out 2 rfl).2]; exact flen _ _ _
          obtain ⟨w2, mB2, hst, hmB2, h2⟩ := mb_store HS.out 7 rfl hyF (by omega)
          rw [← take_step hy] at h2
          have HS2 : Hid (Sep w w2 (QL g14 none 0 0 A1 m1 c1 none 0 0 none 0 0 [] ((ms.take k).filter (pz F)) [] [] ++ [.cells g6 69 [.slice none 0 0, .slice none 0 0, .slice none 0 0, .slice none 0 0], MC g8 m F, MB g9 mB2 (ms.take (k + 1))])) := Lib.hid h2
          obtain ⟨q, hq⟩ : ∃ q, F.count y = q := ⟨_, rfl⟩
          have hlk := mc_look HS2.out 6 rfl hyF hq
          clear hc2 hy h2 hyF y0 y1
          cases hq0 : ((q : Int) == 0) with
          | true =>
            have HP : Hid (pz F y = true) := Lib.hid (by unfold pz; rw [hq]; simpa using hq0)
            clear hq
            go_upto_region 19 with (fail)
            clear HS e0 hst hlk
            have hnew := Lib.hid (Rd.of_own (own_new w2 3 #[.int .i64 y] 1 1 rfl (by simp [maxLen]) (Nat.le_refl _)))
            have f1 := HS2.out.cell 0 rfl (k := 1) rfl
            go_wp2_with (at_builtin; refine wpList_append_sep (HS2.out.alloc _) (1 + 1) rfl (.tmp 59) (.tmp 61) 24 rfl 3 i0 (.int .i64 0) 1 8 Tryz.underlying24 hi hz0 hz1 hz2 rfl (by omega) _ m1 _ rfl rfl _ _ 1 1 _ rfl hnew.out (by simp [Value.oneCell']) (by simp only [maxLen]; omega) (by omega) ?_; intro A9 c9 w9 hc9 hs9 H3'; have H3 := Lib.hid H3'; have v0 := H3'.froz 0 rfl (k := 1); have v1 := H3'.cell 0 rfl (k := 1) rfl; clear H3' f1)
            have HQ9 := Lib.hid (ql_app1 H3.out)
            clear H3 v0 v1 hnew hc9 hs9 HS2
            go_roundg (n' - (k + 1))
            case measure => omega
            case rel => exact ⟨k + 1, mB2, A9, m1 + 1, c9, by omega, rfl, by go_num, by omega, by rw [filt_yes HY.out HP.out]; exact HQ9.out⟩
          | false =>
            have HP : Hid (pz F y = false) := Lib.hid (by unfold pz; rw [hq]; simpa using hq0)
            clear hq
            go_wp2
            go_roundg (n' - (k + 1))
            case measure => omega
            case rel => exact ⟨k + 1, mB2, A1, m1, c1, by omega, rfl, by go_num, by omega, by rw [filt_no HY.out HP.out]; exact HS2.out⟩
        · have HS2 : Hid (Sep w wr (QL g14 none 0 0 A1 m1 c1 none 0 0 none 0 0 [] (ms.filter (pz F)) [] [] ++ [.cells g6 69 [.slice none 0 0, .slice none 0 0, .slice none 0 0, .slice none 0 0], MC g8 m F, MB g9 mB ms])) := Lib.hid (by
            have := HS.out
            rw [List.take_of_length_le (by rw [HL'.out]; omega)] at this
            exact this)
          clear HS
          have hmb : mB ≤ 1048576 := by omega
          have cK := Lib.hid (keys_any g8 wr)
          have cS := Lib.hid (sorted_any w wr _ 6 g8 m (cOf F) HS2.out rfl (by omega))
          go_upto_region 21 with (fail)
          go_wp2_with fail
          refine cK.out.mono ?_; rintro en w1 ⟨rfl, rfl⟩
          go_wp2_with fail
          refine cS.out.mono ?_; rintro en w2 ⟨A8, c8, S, rfl, HSS, hs3⟩
          have HS3 : Hid (Sep w w2 (QL g14 none 0 0 A1 m1 c1 none 0 0 none 0 0 [] (ms.filter (pz F)) [] [] ++ [.cells g6 69 [.slice none 0 0, .slice none 0 0, .slice none 0 0, .slice none 0 0], MC g8 m F, MB g9 mB ms, .row 3 1 (.slice A8 m c8) m (S.flatMap icell)])) := Lib.hid hs3
          have HSI : Hid (∀ x : Int, x ∈ S ↔ x ∈ F) := Lib.hid (fun x => (HSS.out.2.2 x).trans (cOf_mem F x))
          clear cK cS hs3 HS2
          generalize hLo : ms.filter (pz F) = Lo at HS3
          have HLo := Lib.hid hLo
          clear hLo
          have hm1 : m1 ≤ 1048576 := by
            rw [← (frd_row HS3.out 2 rfl).2, ← HLo.out]
            exact Nat.le_trans (List.length_filter_le _ _) (by rw [HL'.out]; exact hn')
          go_wp2
          go_loopg [69] m (fun g i wr => ∃ (a : Nat) (A0 : Option Addr) (m0 c0 : Nat) (A2 : Option Addr) (m2 c2 : Nat) (A3 : Option Addr) (m3 c3 : Nat), a ≤ m ∧ g = m - a ∧ i = .int .i64 a ∧ Sep w wr (QL g14 A0 m0 c0 A1 m1 c1 A2 m2 c2 A3 m3 c3 ((S.take a).filter (qT Z F)) Lo ((S.take a).filter (qU Z ms)) ((S.take a).filter (qN Z)) ++ [.cells g6 69 [.slice none 0 0, .slice none 0 0, .slice none 0 0, .slice none 0 0], MC g8 m F, MB g9 mB ms, .row 3 1 (.slice A8 m c8) m (S.flatMap icell)]))
          case atStart => exact ⟨0, none, 0, 0, none, 0, 0, none, 0, 0, Nat.zero_le _, rfl, rfl, HS3.out⟩
          case round =>
            clear HS3
            obtain ⟨a, A0, m0, c0, A2, m2, c2, A3, m3, c3, ha, rfl, rfl, hs⟩ := hrel
            have HS := Lib.hid hs
            clear hs
            have hm0 : m0 ≤ a := by rw [← (frd_row HS.out 1 rfl).2]; exact flen _ _ _
            have hm2 : m2 ≤ a := by rw [← (frd_row HS.out 3 rfl).2]; exact flen _ _ _
            have hm3 : m3 ≤ a := by rw [← (frd_row HS.out 4 rfl).2]; exact flen _ _ _
            by_cases hlt : a < m
            · obtain ⟨g5, rfl, _, hat⟩ := HS.out.rowAt 8 rfl (by omega)
              obtain ⟨y, hy⟩ : ∃ y, S[a]? = some y := ⟨_, List.getElem?_eq_getElem (by rw [HSS.out.1]; exact hlt)⟩
              have e0 : wr.cell? ⟨g5, a, none⟩ = some (.int .i64 y) := (hat a).1 _ (by have := flat_get icell_len S a 0 y hy (by omega); simpa [icell] using this)
              have HY := Lib.hid hy
              have hyF := HWF.out y ((HSI.out y).1 (List.mem_of_getElem? hy))
              clear hat hy
              by_cases h0 : y < 0
              · have HO : Hid (outB (Z : Int) y = true) := Lib.hid (by simp [outB]; omega)
                have HN3 : Hid ((S.take (a + 1)).filter (qN Z) = (S.take a).filter (qN Z) ++ [y]) := Lib.hid (filt_yes HY.out HO.out)
                have HN0 : Hid ((S.take (a + 1)).filter (qT Z F) = (S.take a).filter (qT Z F)) := Lib.hid (filt_no HY.out (by unfold qT; rw [HO.out]; rfl))
                have HN2 : Hid ((S.take (a + 1)).filter (qU Z ms) = (S.take a).filter (qU Z ms)) := Lib.hid (filt_no HY.out (by unfold qU; rw [HO.out]; rfl))
                go_upto_region 25 with (fail)
                clear e0
                have hnew := Lib.hid (Rd.of_own (own_new wr 3 #[.int .i64 y] 1 1 rfl (by simp [maxLen]) (Nat.le_refl _)))
                have f1 := HS.out.cell 0 rfl (k := 3) rfl
                go_wp2_with (at_builtin; refine wpList_append_sep (HS.out.alloc _) (3 + 1) rfl (.tmp 81) (.tmp 83) 24 rfl 3 i0 (.int .i64 0) 1 8 Tryz.underlying24 hi hz0 hz1 hz2 rfl (by omega) _ m3 _ rfl rfl _ _ 1 1 _ rfl hnew.out (by simp [Value.oneCell']) (by simp only [maxLen]; omega) (by omega) ?_; intro A9 c9 w9 hc9 hs9 H3'; have H3 := Lib.hid H3'; have v0 := H3'.froz 0 rfl (k := 3); have v1 := H3'.cell 0 rfl (k := 3) rfl; clear H3' f1)
                have HQ9 := Lib.hid (ql_app3 H3.out)
                clear H3 v0 v1 hnew hc9 hs9 HS
                go_roundg (m - (a + 1))
                case measure => omega
                case rel => exact ⟨a + 1, A0, m0, c0, A2, m2, c2, A9, m3 + 1, c9, by omega, rfl, by go_num, by rw [HN0.out, HN2.out, HN3.out]; exact HQ9.out⟩
              · by_cases h1 : y ≥ (Z : Int)
                · have HO : Hid (outB (Z : Int) y = true) := Lib.hid (by simp [outB]; omega)
                  have HN3 : Hid ((S.take (a + 1)).filter (qN Z) = (S.take a).filter (qN Z) ++ [y]) := Lib.hid (filt_yes HY.out HO.out)
                  have HN0 : Hid ((S.take (a + 1)).filter (qT Z F) = (S.take a).filter (qT Z F)) := Lib.hid (filt_no HY.out (by unfold qT; rw [HO.out]; rfl))
                  have HN2 : Hid ((S.take (a + 1)).filter (qU Z ms) = (S.take a).filter (qU Z ms)) := Lib.hid (filt_no HY.out (by unfold qU; rw [HO.out]; rfl))
                  go_upto_region 25 with (fail)
                  clear e0
                  have hnew := Lib.hid (Rd.of_own (own_new wr 3 #[.int .i64 y] 1 1 rfl (by simp [maxLen]) (Nat.le_refl _)))
                  have f1 := HS.out.cell 0 rfl (k := 3) rfl
                  go_wp2_with (at_builtin; refine wpList_append_sep (HS.out.alloc _) (3 + 1) rfl (.tmp 81) (.tmp 83) 24 rfl 3 i0 (.int .i64 0) 1 8 Tryz.underlying24 hi hz0 hz1 hz2 rfl (by omega) _ m3 _ rfl rfl _ _ 1 1 _ rfl hnew.out (by simp [Value.oneCell']) (by simp only [maxLen]; omega) (by omega) ?_; intro A9 c9 w9 hc9 hs9 H3'; have H3 := Lib.hid H3'; have v0 := H3'.froz 0 rfl (k := 3); have v1 := H3'.cell 0 rfl (k := 3) rfl; clear H3' f1)
                  have HQ9 := Lib.hid (ql_app3 H3.out)
                  clear H3 v0 v1 hnew hc9 hs9 HS
                  go_roundg (m - (a + 1))
                  case measure => omega
                  case rel => exact ⟨a + 1, A0, m0, c0, A2, m2, c2, A9, m3 + 1, c9, by omega, rfl, by go_num, by rw [HN0.out, HN2.out, HN3.out]; exact HQ9.out⟩
                · have HO : Hid (outB (Z : Int) y = false) := Lib.hid (by unfold outB; rw [decide_eq_false h0, decide_eq_false h1]; rfl)
                  have HN3 : Hid ((S.take (a + 1)).filter (qN Z) = (S.take a).filter (qN Z)) := Lib.hid (filt_no HY.out HO.out)
                  obtain ⟨q, hq⟩ : ∃ q, F.count y = q := ⟨_, rfl⟩
                  have hlk := mc_look HS.out 6 rfl hyF hq
                  by_cases hq1 : (q : Int) > 1
                  · have HN0 : Hid ((S.take (a + 1)).filter (qT Z F) = (S.take a).filter (qT Z F) ++ [y]) := Lib.hid (filt_yes HY.out (by unfold qT pT; rw [HO.out, hq, decide_eq_true (by omega)]; rfl))
                    clear hq
                    go_upto_region 27 with (fail)
                    clear e0 hlk
                    have hnew := Lib.hid (Rd.of_own (own_new wr 3 #[.int .i64 y] 1 1 rfl (by simp [maxLen]) (Nat.le_refl _)))
                    have f1 := HS.out.cell 0 rfl (k := 0) rfl
                    go_upto_region 28 with (at_builtin; refine wpList_append_sep (HS.out.alloc _) (0 + 1) rfl (.tmp 91) (.tmp 93) 24 rfl 3 i0 (.int .i64 0) 1 8 Tryz.underlying24 hi hz0 hz1 hz2 rfl (by omega) _ m0 _ rfl rfl _ _ 1 1 _ rfl hnew.out (by simp [Value.oneCell']) (by simp only [maxLen]; omega) (by omega) ?_; intro A9 c9 w9 hc9 hs9 H3'; have H3 := Lib.hid H3'; have v0 := H3'.froz 0 rfl (k := 0); have v1 := H3'.cell 0 rfl (k := 0) rfl; clear H3' f1)
                    have HQ9 := Lib.hid (ql_app0 H3.out)
                    clear H3 v0 v1 hnew hc9 hs9 HS
                    generalize w9.setCell ⟨g14, 0, none⟩ (.slice A9 (m0 + 1) c9) = w8 at HQ9 ⊢
                    cases hin : decide (y ∈ ms) with
                    | true =>
                      have HN2 : Hid ((S.take (a + 1)).filter (qU Z ms) = (S.take a).filter (qU Z ms)) := Lib.hid (filt_no HY.out (by unfold qU; rw [HO.out, decide_eq_false (by simpa using hin)]; rfl))
                      have hlb := mb_look HQ9.out 7 rfl hyF hin
                      clear hin
                      go_wp2
                      go_roundg (m - (a + 1))
                      case measure => omega
                      case rel => exact ⟨a + 1, A9, m0 + 1, c9, A2, m2, c2, A3, m3, c3, by omega, rfl, by go_num, by rw [HN0.out, HN2.out, HN3.out]; exact HQ9.out⟩
                    | false =>
                      have HN2 : Hid ((S.take (a + 1)).filter (qU Z ms) = (S.take a).filter (qU Z ms) ++ [y]) := Lib.hid (filt_yes HY.out (by unfold qU; rw [HO.out, decide_eq_true (by simpa using hin)]; rfl))
                      have hlb := mb_look HQ9.out 7 rfl hyF hin
                      clear hin
                      go_upto_region 29 with (fail)
                      clear hlb
                      obtain ⟨A7, hA7⟩ : ∃ A7, A7 = A9 := ⟨_, rfl⟩
                      obtain ⟨c7, hc7⟩ : ∃ c7, c7 = c9 := ⟨_, rfl⟩
                      rw [← hA7, ← hc7] at HQ9
                      clear hA7 hc7
                      have HQ8 := HQ9
                      clear HQ9
                      have hnew := Lib.hid (Rd.of_own (own_new w8 3 #[.int .i64 y] 1 1 rfl (by simp [maxLen]) (Nat.le_refl _)))
                      have f1 := HQ8.out.cell 0 rfl (k := 2) rfl
                      go_wp2_with (at_builtin; refine wpList_append_sep (HQ8.out.alloc _) (2 + 1) rfl (.tmp 101) (.tmp 103) 24 rfl 3 i0 (.int .i64 0) 1 8 Tryz.underlying24 hi hz0 hz1 hz2 rfl (by omega) _ m2 _ rfl rfl _ _ 1 1 _ rfl hnew.out (by simp [Value.oneCell']) (by simp only [maxLen]; omega) (by omega) ?_; intro A9 c9 w9 hc9 hs9 H3'; have H3 := Lib.hid H3'; have v0 := H3'.froz 0 rfl (k := 2); have v1 := H3'.cell 0 rfl (k := 2) rfl; clear H3' f1)
                      have HQ9 := Lib.hid (ql_app2 H3.out)
                      clear H3 v0 v1 hnew hc9 hs9 HQ8
                      go_roundg (m - (a + 1))
                      case measure => omega
                      case rel => exact ⟨a + 1, A7, m0 + 1, c7, A9, m2 + 1, c9, A3, m3, c3, by omega, rfl, by go_num, by rw [HN0.out, HN2.out, HN3.out]; exact HQ9.out⟩
                  · have HN0 : Hid ((S.take (a + 1)).filter (qT Z F) = (S.take a).filter (qT Z F)) := Lib.hid (filt_no HY.out (by unfold qT pT; rw [hq, decide_eq_false (p := 1 < q) (by omega), Bool.and_false]))
                    clear hq
                    cases hin : decide (y ∈ ms) with
                    | true =>
                      have HN2 : Hid ((S.take (a + 1)).filter (qU Z ms) = (S.take a).filter (qU Z ms)) := Lib.hid (filt_no HY.out (by unfold qU; rw [HO.out, decide_eq_false (by simpa using hin)]; rfl))
                      have hlb := mb_look HS.out 7 rfl hyF hin
                      clear hin
                      go_wp2
                      go_roundg (m - (a + 1))
                      case measure => omega
                      case rel => exact ⟨a + 1, A0, m0, c0, A2, m2, c2, A3, m3, c3, by omega, rfl, by go_num, by rw [HN0.out, HN2.out, HN3.out]; exact HS.out⟩
                    | false =>
                      have HN2 : Hid ((S.take (a + 1)).filter (qU Z ms) = (S.take a).filter (qU Z ms) ++ [y]) := Lib.hid (filt_yes HY.out (by unfold qU; rw [HO.out, decide_eq_true (by simpa using hin)]; rfl))
                      have hlb := mb_look HS.out 7 rfl hyF hin
                      clear hin
                      go_upto_region 29 with (fail)
                      clear hlb e0 hlk
                      have hnew := Lib.hid (Rd.of_own (own_new wr 3 #[.int .i64 y] 1 1 rfl (by simp [maxLen]) (Nat.le_refl _)))
                      have f1 := HS.out.cell 0 rfl (k := 2) rfl
                      go_wp2_with (at_builtin; refine wpList_append_sep (HS.out.alloc _) (2 + 1) rfl (.tmp 101) (.tmp 103) 24 rfl 3 i0 (.int .i64 0) 1 8 Tryz.underlying24 hi hz0 hz1 hz2 rfl (by omega) _ m2 _ rfl rfl _ _ 1 1 _ rfl hnew.out (by simp [Value.oneCell']) (by simp only [maxLen]; omega) (by omega) ?_; intro A9 c9 w9 hc9 hs9 H3'; have H3 := Lib.hid H3'; have v0 := H3'.froz 0 rfl (k := 2); have v1 := H3'.cell 0 rfl (k := 2) rfl; clear H3' f1)
                      have HQ9 := Lib.hid (ql_app2 H3.out)
                      clear H3 v0 v1 hnew hc9 hs9 HS
                      go_roundg (m - (a + 1))
                      case measure => omega
                      case rel => exact ⟨a + 1, A0, m0, c0, A9, m2 + 1, c9, A3, m3, c3, by omega, rfl, by go_num, by rw [HN0.out, HN2.out, HN3.out]; exact HQ9.out⟩
            · have hE : S.take a = S := List.take_of_length_le (by rw [HSS.out.1]; omega)
              rw [hE] at HS
              clear hE
              have HB := Lib.hid (HS.out.blk 5 rfl)
              have HW := Lib.hid (HS.out.whole 5 rfl [.slice A0 m0 c0, .slice A1 m1 c1, .slice A2 m2 c2, .slice A3 m3 c3])
              have e0 := HS.out.cell 0 rfl (k := 0) rfl
              have e1 := HS.out.cell 0 rfl (k := 1) rfl
              have e2 := HS.out.cell 0 rfl (k := 2) rfl
              have e3 := HS.out.cell 0 rfl (k := 3) rfl
              go_wp2_with (refine wpList_store_row rfl 69 (.tmp 6) (.tmp 107) rfl g6 _ rfl rfl 69 #[.slice none 0 0, .slice none 0 0, .slice none 0 0, .slice none 0 0] HB.out faults_size rfl (by simp [Value.oneCell']) ?_)
              have hld : (loadVar 69 ⟨g6, 0, none⟩).run Tryz.prog (wr.setRow g6 #[.slice A0 m0 c0, .slice A1 m1 c1, .slice A2 m2 c2, .slice A3 m3 c3]) = .ok (.agg #[.slice A0 m0 c0, .slice A1 m1 c1, .slice A2 m2 c2, .slice A3 m3 c3]) _ :=
                run_loadVar_row _ g6 69 69 _ (0, 0) _ (HW.out.blk 5 rfl) Tryz.underlying69 rfl faults_size
              refine bodyPost_ret (v := .tuple #[.agg #[.slice A0 m0 c0, .slice A1 m1 c1, .slice A2 m2 c2, .slice A3 m3 c3], .int .i64 0]) (by simp [results, Tryz.results14, asAddr, hld]) rfl ?_
              refine ⟨_, S, rfl, Lib.hid ⟨HSS.out.2.1, HSI.out⟩, HW.out.below, ?_⟩
              rw [HLo.out]
              exact ⟨A0, m0, c0, A1, m1, c1, A2, m2, c2, A3, m3, c3, rfl, frd_row HW.out 1 rfl, frd_row HW.out 2 rfl, frd_row HW.out 3 rfl, frd_row HW.out 4 rfl⟩
end Fk
end Go.Proofs.YtjopiepfjbnkbaaGreatDoor
