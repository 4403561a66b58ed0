/-
  Walks of file.Play's closures. Conditions: none beyond each theorem's own premises.
-/
import Derived.Test.YtfljbiobiobamaaFlW2
import Derived.Test.YtfljbiobiobamaaFlW3
import Derived.Test.YtfljbiobiobamaaFlW6
namespace Go.Proofs.Ytfljbiobiobamaa
open Go.RowKit
set_option linter.unusedVariables false
namespace Fl

theorem fl_J {gf gm L : Nat} {bl : List (Nat × Nat)} {c : Nat → Nat} {X : It} {J : List It} : (FL gf gm L bl c (X :: J))[bl.length + 2]? = some X := by
  unfold FL
  rw [List.getElem?_cons_succ, List.getElem?_cons_succ, List.getElem?_append_right (by rw [List.length_map]; exact Nat.le_refl _), List.length_map, Nat.sub_self]
  rfl
/-- the variable that holds the file's address -/
def vI (gv gf : Nat) : It := .cells gv 71 [.pointer (some ⟨gf, 0, none⟩)]

set_option maxRecDepth 100000 in
set_option maxHeartbeats 1600000 in
theorem play1_any (gv gf gm : Nat) (s : Sf) (bl : List (Nat × Nat)) (J : List It) (k m : Int) (a n c : Nat) (A : Option Addr) (ds : List Nat) (w0 w : World) (hs : Sep w0 w (FL gf gm s.L bl s.c (vI gv gf :: J))) (hk : PK bl s.P) (ho : s.Ok)
    (hr : Rd w0 w0.heap.size 1 A n (ds.flatMap bcell)) (hl : ds.length = n) (hb : a + n ≤ 4096) :
    Calls Try.prog 24 #[O.val ⟨k, (a : Int), m, ds⟩ A n c, .pointer (some ⟨gv, 0, none⟩)] w (fun e w' => e = .returned (.slice none 0 0) ∧ ∃ bl', PK bl' (s.write a ds).P ∧ Sep w0 w' (FL gf gm (s.write a ds).L bl' (s.write a ds).c (vI gv gf :: J))) := by
  have HS := Lib.hid (hs.alloc (.cells #[.int .i64 k, .int .i64 (a : Int), .int .i64 m, .slice A n c] 77))
  have HB := Lib.hid (Blk.new w 77 [.int .i64 k, .int .i64 (a : Int), .int .i64 m, .slice A n c])
  unfold O.val
  simp only
  clear hs
  go_enter Try.func24, Try.ntmps24
  go_upto_region 1 with (fail)
  have f1 := HB.out.cell (k := 1) rfl
  have f3 := HB.out.cell (k := 3) rfl
  change (w.alloc (.cells #[.int .i64 k, .int .i64 (a : Int), .int .i64 m, .slice A n c] 77)).cell? _ = _ at f1 f3
  clear HB
  generalize w.alloc (.cells #[.int .i64 k, .int .i64 (a : Int), .int .i64 m, .slice A n c] 77) = u0 at HS f1 f3 ⊢
  generalize w.heap.size = g at f1 f3 ⊢
  have fv := HS.out.cell (bl.length + 2) fl_J (k := 0) rfl
  have cW := Lib.hid (fwrite_any gf gm s bl (vI gv gf :: J) a n c A ds w0 u0 HS.out hk ho hr hl hb)
  go_wp2_with fail
  refine cW.out.mono ?_; rintro en w1 ⟨rfl, bl', h1, h2⟩
  have HF := Lib.hid (And.intro h1 h2)
  clear cW h1 h2 f1 f3 fv HS
  go_wp2
  go_ret
  exact ⟨rfl, bl', HF.out.1, HF.out.2⟩

set_option maxRecDepth 100000 in
set_option maxHeartbeats 1600000 in
theorem play2_any (gv gf gm : Nat) (s : Sf) (bl : List (Nat × Nat)) (J : List It) (k : Int) (a m n c : Nat) (A : Option Addr) (ds : List Nat) (w0 w : World) (hs : Sep w0 w (FL gf gm s.L bl s.c (vI gv gf :: J))) (hk : PK bl s.P) (ho : s.Ok)
    (ha : a ≤ 9223372036854775807) (hm : m ≤ 9223372036854775807) :
    Calls Try.prog 26 #[O.val ⟨k, (a : Int), (m : Int), ds⟩ A n c, .pointer (some ⟨gv, 0, none⟩)] w (fun e w' => ∃ (A1 : Option Addr) (c1 n1 : Nat), e = .returned (.slice A1 n1 c1) ∧ n1 = (s.read a m).length ∧
      Sep w0 w' (FL gf gm s.L bl s.c (vI gv gf :: J) ++ [.row 5 1 (.slice A1 n1 c1) n1 ((s.read a m).flatMap bcell)])) := by
  have HS := Lib.hid (hs.alloc (.cells #[.int .i64 k, .int .i64 (a : Int), .int .i64 (m : Int), .slice A n c] 77))
  have HB := Lib.hid (Blk.new w 77 [.int .i64 k, .int .i64 (a : Int), .int .i64 (m : Int), .slice A n c])
  unfold O.val
  simp only
  clear hs
  go_enter Try.func26, Try.ntmps26
  go_upto_region 1 with (fail)
  have f1 := HB.out.cell (k := 1) rfl
  have f2 := HB.out.cell (k := 2) rfl
  change (w.alloc (.cells #[.int .i64 k, .int .i64 (a : Int), .int .i64 (m : Int), .slice A n c] 77)).cell? _ = _ at f1 f2
  clear HB
  generalize w.alloc (.cells #[.int .i64 k, .int .i64 (a : Int), .int .i64 (m : Int), .slice A n c] 77) = u0 at HS f1 f2 ⊢
  generalize w.heap.size = g at f1 f2 ⊢
  have fv := HS.out.cell (bl.length + 2) fl_J (k := 0) rfl
  have cW := Lib.hid (fread_any gf gm s bl (vI gv gf :: J) a m w0 u0 HS.out hk ho ha hm)
  go_wp2_with fail
  refine cW.out.mono ?_; rintro en w1 ⟨A1, c1, n1, rfl, h1, h2⟩
  have HF := Lib.hid (And.intro h1 h2)
  clear cW h1 h2 f1 f2 fv HS
  go_wp2
  go_ret
  exact ⟨A1, c1, n1, rfl, HF.out.1, HF.out.2⟩

set_option maxRecDepth 100000 in
set_option maxHeartbeats 1600000 in
theorem play3_any (gv gf gm : Nat) (s : Sf) (bl : List (Nat × Nat)) (J : List It) (k a : Int) (m n c : Nat) (A : Option Addr) (ds : List Nat) (w0 w : World) (hs : Sep w0 w (FL gf gm s.L bl s.c (vI gv gf :: J))) (hk : PK bl s.P) (ho : s.Ok) (hm : m ≤ 4096) :
    Calls Try.prog 28 #[O.val ⟨k, a, (m : Int), ds⟩ A n c, .pointer (some ⟨gv, 0, none⟩)] w (fun e w' => e = .returned (.slice none 0 0) ∧ ∃ bl', PK bl' (s.cut m).P ∧ Sep w0 w' (FL gf gm (s.cut m).L bl' (s.cut m).c (vI gv gf :: J))) := by
  have HS := Lib.hid (hs.alloc (.cells #[.int .i64 k, .int .i64 a, .int .i64 (m : Int), .slice A n c] 77))
  have HB := Lib.hid (Blk.new w 77 [.int .i64 k, .int .i64 a, .int .i64 (m : Int), .slice A n c])
  unfold O.val
  simp only
  clear hs
  go_enter Try.func28, Try.ntmps28
  go_upto_region 1 with (fail)
  have f2 := HB.out.cell (k := 2) rfl
  change (w.alloc (.cells #[.int .i64 k, .int .i64 a, .int .i64 (m : Int), .slice A n c] 77)).cell? _ = _ at f2
  clear HB
  generalize w.alloc (.cells #[.int .i64 k, .int .i64 a, .int .i64 (m : Int), .slice A n c] 77) = u0 at HS f2 ⊢
  generalize w.heap.size = g at f2 ⊢
  have fv := HS.out.cell (bl.length + 2) fl_J (k := 0) rfl
  have cW := Lib.hid (fcut_any gf gm s bl (vI gv gf :: J) m w0 u0 HS.out hk ho hm)
  go_wp2_with fail
  refine cW.out.mono ?_; rintro en w1 ⟨rfl, bl', h1, h2⟩
  have HF := Lib.hid (And.intro h1 h2)
  clear cW h1 h2 f2 fv HS
  go_wp2
  go_ret
  exact ⟨rfl, bl', HF.out.1, HF.out.2⟩
end Fl
end Go.Proofs.Ytfljbiobiobamaa
