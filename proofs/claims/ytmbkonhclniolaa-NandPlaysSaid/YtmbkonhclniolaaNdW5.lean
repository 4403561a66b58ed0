/-
  Walk of the reference's DStep where the operation is done. Conditions: none.
-/
import Derived.Test.YtmbkonhclniolaaNdW4
namespace Go.Proofs.Ytmbkonhclniolaa
open Go.RowKit
set_option linter.unusedVariables false
namespace Nd

/-- what an operation on the block makes of it, and what it tells -/
inductive Done (x : B) : Op → B → Int → Prop
  | prog {d : Int} {bi p : Nat} (hp : p < 4) (h : x.done = (p : Int)) : Done x ⟨1, bi, p, d⟩ (x.put d p) 0
  | erase {d pg : Int} {bi : Nat} (h : x.wear < 1048576) : Done x ⟨2, bi, pg, d⟩ (.blank (x.wear + 1)) 0
  | read {d : Int} {bi p : Nat} (hp : p < 4) (h : (p : Int) < x.done) : Done x ⟨3, bi, p, d⟩ x (x.at p)
theorem way_done {l out : List B} {o : Op} {n : Int} (hw : Way l o out n 0) : ∃ (bi : Nat) (x y : B), l[bi]? = some x ∧ o.block = (bi : Int) ∧ Done x o y n ∧ out = l.set bi y := by
  cases hw with
  | @prog d bi p x hb hp h => exact ⟨bi, x, _, hb, rfl, .prog hp h, rfl⟩
  | @erase d pg bi x hb h => exact ⟨bi, x, _, hb, rfl, .erase h, rfl⟩
  | @read d bi p x hb hp h => exact ⟨bi, x, x, hb, rfl, .read hp h, by
      obtain ⟨h1, h2⟩ := List.getElem?_eq_some_iff.1 hb
      rw [← h2, List.set_getElem_self]⟩

/-- DStep's loop: where it stands -/
def AtK (w : World) (gb : Nat) (o : Op) (out : List B) (bi : Nat) (n : Int) (k : Nat) (v8 v9 : Value) (wr : World) : Prop :=
  ∃ A9 c9 n8, v9 = .slice A9 k c9 ∧ v8 = .int .i64 n8 ∧ Hid (n8 = if bi < k then n else 0) ∧ Sep w wr [.cells gb 24 o.cells, .row 31 6 (.slice A9 k c9) k ((out.take k).flatMap B.cells)]

set_option maxRecDepth 100000 in
set_option maxHeartbeats 3200000 in
theorem dstep_yes (A : Option Addr) (c : Nat) (l out : List B) (o : Op) (n : Int) (w : World) (hr : Rd w w.heap.size 6 A 8 (l.flatMap B.cells)) (hrt : Rt l) (hw : Way l o out n 0) :
    Calls Try.prog 10 #[.slice A 8 c, .agg #[.int .i64 o.kind, .int .i64 o.block, .int .i64 o.page, .int .i64 o.data]] w (StepRet w out n 0) := by
  obtain ⟨ti, hti, t0, t1, t2⟩ := info_parts block_info
  have HS0 : Hid (Sep w (w.alloc (.cells #[.int .i64 o.kind, .int .i64 o.block, .int .i64 o.page, .int .i64 o.data] 24)) [.cells w.heap.size 24 o.cells]) := Lib.hid ((Sep.nil_ w).new 24 o.cells)
  have cR := Lib.hid (dright_any A 8 c l true _ (hr.later HS0.out.below) hrt.1 (by omega) (rt_true hrt))
  have HR := Lib.hid hr
  have HRT := Lib.hid hrt
  have HOL : Hid (out.length = 8) := Lib.hid (by
    obtain ⟨bi, x, y, _, _, _, rfl⟩ := way_done hw
    rw [List.length_set]; exact hrt.1)
  obtain ⟨bi, x, y, hb, hbk, hd, ho⟩ := way_done hw
  have HB := Lib.hid hb
  have HO := Lib.hid ho
  clear hr hrt hw ho
  have hbi : bi < 8 := by have := (List.getElem?_eq_some_iff.1 hb).1; have := HRT.out.1; omega
  obtain ⟨b, off, rfl, hbb, hc⟩ := HR.out.at_ B.len (by omega)
  have HC := Lib.hid hc
  have b0 : (0 : Int) ≤ (bi : Int) := by omega
  have b1 : ¬ (7 : Int) < (bi : Int) := by omega
  have b2 : (bi : Int) < 8 := by omega
  clear hb hc
  have hloop : ∀ (a : Act), True := fun _ => trivial
  clear hloop
  go_enter Try.func10, Try.ntmps10
  cases hd with
  | @prog d bj p hp h =>
    have hbj : bi = bj := (Int.ofNat_inj.1 hbk).symm
    subst hbj
    clear hbk
    have p4 : (p : Int) < 4 := by omega
    have p0 : (0 : Int) ≤ (p : Int) := by omega
    simp only at HS0 cR HO ⊢
    go_wp2_with fail
    refine cR.out.mono ?_; rintro e1 w1 ⟨rfl, hb1⟩
    have HS1 := Lib.hid (HS0.out.later hb1)
    have q0 := HS1.out.cell 0 rfl (k := 0) rfl
    have q1 := HS1.out.cell 0 rfl (k := 1) rfl
    have q2 := HS1.out.cell 0 rfl (k := 2) rfl
    have q3 := HS1.out.cell 0 rfl (k := 3) rfl
    obtain ⟨e0, e1, e2, e3, e4, e5⟩ := B.facts hbb HS1.out.below HC.out HB.out
    clear cR hb1 HS0
    have e4' : w1.cell? ⟨b, off + bi * 6 + 4, none⟩ = some (.int .i64 (p : Int)) := by rw [← h]; exact e4
    have H := Lib.hid h
    clear e0 e1 e2 e3 e4 e5 h
    go_wp2
    go_quiet (fail)
    go_wp2
    go_quiet (fail)
    go_wp2
    go_quiet (fail)
    go_wp2
    generalize hxw : World.drewN w1 _ = xw
    have xh : Below w1.heap.size w1 xw := by rw [← hxw]; exact below_drewN (Below.refl _ _) _
    clear hxw
    have HSS := Lib.hid (HS1.out.later xh)
    clear HS1 xh q0 q1 q2 q3 e4'
    generalize w.heap.size = gb at HSS ⊢
    go_loopg [8, 9, 119] 8 (fun g v8 v9 i wr => ∃ k : Nat, k ≤ 8 ∧ g = 8 - k ∧ i = .int .i64 k ∧ AtK w gb ⟨1, bi, p, d⟩ out bi 0 k v8 v9 wr)
    case atStart => exact ⟨0, Nat.zero_le _, rfl, rfl, none, 0, 0, rfl, rfl, Lib.hid (by simp), HSS.out.nilRow 31 6 none⟩
    case round =>
      clear HSS
      obtain ⟨k, hk, rfl, rfl, A9, c9, n8, rfl, rfl, H8, hs⟩ := hrel
      have HS := Lib.hid hs
      clear hs
      by_cases hlt : k < 8
      · obtain ⟨z, hz⟩ : ∃ z, l[k]? = some z := ⟨_, List.getElem?_eq_getElem (by rw [HRT.out.1]; exact hlt)⟩
        obtain ⟨e0, e1, e2, e3, e4, e5⟩ := B.facts hbb HS.out.below HC.out hz
        have i0 : (0 : Int) ≤ (k : Int) := by omega
        have i1 : (k : Int) < 8 := by omega
        have HSx : Hid (Sep w (wr.alloc (.cells #[.int .i64 z.a, .int .i64 z.b, .int .i64 z.c, .int .i64 z.d, .int .i64 z.done, .int .i64 z.wear] 31)) [.cells gb 24 (⟨1, bi, p, d⟩ : Op).cells, .row 31 6 (.slice A9 k c9) k ((out.take k).flatMap B.cells), .cells wr.heap.size 31 z.cells]) := Lib.hid (HS.out.new 31 z.cells)
        go_upto_region 22 with (fail)
        clear HS e0 e1 e2 e3 e4 e5
        generalize wr.alloc (.cells #[.int .i64 z.a, .int .i64 z.b, .int .i64 z.c, .int .i64 z.d, .int .i64 z.done, .int .i64 z.wear] 31) = wo at HSx ⊢
        generalize wr.heap.size = gx at HSx ⊢
        have q0 := HSx.out.cell 0 rfl (k := 0) rfl
        have q1 := HSx.out.cell 0 rfl (k := 1) rfl
        have q2 := HSx.out.cell 0 rfl (k := 2) rfl
        have q3 := HSx.out.cell 0 rfl (k := 3) rfl
        by_cases hkb : k = bi
        · subst hkb
          obtain rfl : x = z := by have := HB.out; rw [hz] at this; cases this; rfl
          clear hz
          have HK : Hid (out[k]? = some (x.put d p)) := Lib.hid (by rw [HO.out, List.getElem?_set, if_pos rfl, if_pos (by rw [HRT.out.1]; exact hlt)])
          have HN8 : Hid (n8 = if k < k + 1 then 0 else 0) := Lib.hid (by rw [H8.out]; simp)
          have c4 : wo.cell? ⟨gx, 4, none⟩ = some (.int .i64 (p : Int)) := by rw [← H.out]; exact HSx.out.cell 2 rfl (k := 4) rfl
          have cp := HSx.out.cell 2 rfl (B.cell_at x hp)
          have u0 := HSx.out.froz 2 rfl (k := p)
          have u1 := HSx.out.froz 2 rfl (k := 4)
          have hy : ∃ y : B, y.cells = x.cells.set p (.int .i64 d) ∧ (x.put d p).cells = y.cells.set 4 (.int .i64 ((p : Int) + 1)) := put_cells x d hp H.out
          obtain ⟨y', hy1, hy2⟩ := hy
          have K := (HSx.out.set 2 rfl (k := p) (.int .i64 d)).set 2 rfl (k := 4) (.int .i64 ((p : Int) + 1))
          rw [← hy1, ← hy2] at K
          have HSy := Lib.hid K
          clear K hy1 hy2 HSx
          go_upto_region 29 with (fail)
          clear q0 q1 q2 q3 c4 cp u0 u1
          generalize (wo.setCell ⟨gx, p, none⟩ (.int .i64 d)).setCell ⟨gx, 4, none⟩ (.int .i64 ((p : Int) + 1)) = w5 at HSy ⊢
          have f0 := HSy.out.cell 2 rfl (k := 0) rfl
          have f1 := HSy.out.cell 2 rfl (k := 1) rfl
          have f2 := HSy.out.cell 2 rfl (k := 2) rfl
          have f3 := HSy.out.cell 2 rfl (k := 3) rfl
          have f4 := HSy.out.cell 2 rfl (k := 4) rfl
          have f5 := HSy.out.cell 2 rfl (k := 5) rfl
          have hnew := Lib.hid (Rd.of_own (own_new w5 31 (x.put d p).cells.toArray 6 1 rfl (by simp [maxLen]) (Nat.le_refl _)))
          have htk : out.take (k + 1) = out.take k ++ [x.put d p] := by rw [List.take_add_one, HK.out]; rfl
          have HTK := Lib.hid htk
          clear htk
          go_wp2_with (at_builtin; refine wpList_append_sep (HSy.out.alloc _) 1 rfl (.tmp 153) (.tmp 155) 22 rfl 31 ti (.agg #[.int .i64 0, .int .i64 0, .int .i64 0, .int .i64 0, .int .i64 0, .int .i64 0]) 6 48 Try.underlying22 hti t0 t1 t2 rfl (by omega) _ k _ rfl rfl _ _ 1 1 _ rfl hnew.out (by simp [Value.oneCell', B.cells]) (by simp only [maxLen]; omega) (by omega) ?_; intro A7 c7 w7 hc7 hs7 H7)
          go_roundg (8 - (k + 1))
          case measure => omega
          case rel => exact ⟨k + 1, by omega, rfl, by go_num, A7, c7, n8, rfl, rfl, HN8, by rw [HTK.out, List.flatMap_append]; exact H7.pick [0, 1] (by decide) (by simp)⟩
        · have HK : Hid (out[k]? = some z) := Lib.hid (by rw [HO.out, List.getElem?_set, if_neg (fun e => hkb e.symm)]; exact hz)
          have ht : ((k : Int) == (bi : Int)) = false := by simp; omega
          have HN8 : Hid (n8 = if bi < k + 1 then 0 else 0) := Lib.hid (by
            rw [H8.out]
            by_cases h : bi < k
            · rw [if_pos h, if_pos (by omega)]
            · rw [if_neg h, if_neg (by omega)])
          have HSy := HSx
          clear hz hkb HSx
          have f0 := HSy.out.cell 2 rfl (k := 0) rfl
          have f1 := HSy.out.cell 2 rfl (k := 1) rfl
          have f2 := HSy.out.cell 2 rfl (k := 2) rfl
          have f3 := HSy.out.cell 2 rfl (k := 3) rfl
          have f4 := HSy.out.cell 2 rfl (k := 4) rfl
          have f5 := HSy.out.cell 2 rfl (k := 5) rfl
          have hnew := Lib.hid (Rd.of_own (own_new wo 31 (z).cells.toArray 6 1 rfl (by simp [maxLen]) (Nat.le_refl _)))
          have htk : out.take (k + 1) = out.take k ++ [z] := by rw [List.take_add_one, HK.out]; rfl
          have HTK := Lib.hid htk
          clear htk
          go_wp2_with (at_builtin; refine wpList_append_sep (HSy.out.alloc _) 1 rfl (.tmp 153) (.tmp 155) 22 rfl 31 ti (.agg #[.int .i64 0, .int .i64 0, .int .i64 0, .int .i64 0, .int .i64 0, .int .i64 0]) 6 48 Try.underlying22 hti t0 t1 t2 rfl (by omega) _ k _ rfl rfl _ _ 1 1 _ rfl hnew.out (by simp [Value.oneCell', B.cells]) (by simp only [maxLen]; omega) (by omega) ?_; intro A7 c7 w7 hc7 hs7 H7)
          go_roundg (8 - (k + 1))
          case measure => omega
          case rel => exact ⟨k + 1, by omega, rfl, by go_num, A7, c7, n8, rfl, rfl, HN8, by rw [HTK.out, List.flatMap_append]; exact H7.pick [0, 1] (by decide) (by simp)⟩
      · obtain rfl : k = 8 := by omega
        have HE : Hid (n8 = 0) := Lib.hid (by rw [H8.out, if_pos hbi])
        have hot : out.take 8 = out := List.take_of_length_le (by rw [HOL.out]; omega)
        have HOT := Lib.hid hot
        clear hot
        go_wp2
        refine bodyPost_ret (v := .tuple #[.slice A9 8 c9, .int .i64 n8, .int .i64 0]) (by simp [results, Try.results10]) rfl ?_
        have hle := (Sep.rowHas HS.out 1 rfl).slice
        obtain ⟨A', c', he, hle⟩ := hle
        cases he
        refine ⟨A9, c9, ?_, ?_, ?_⟩
        · rw [HOL.out]; exact hle
        · rw [HOL.out, HE.out]
        · rw [HOL.out]
          have := HS.out.pick [1] (by decide) (by simp)
          rw [HOT.out] at this
          exact this
  | @erase d pg bj h =>
    have hbj : bi = bj := (Int.ofNat_inj.1 hbk).symm
    subst hbj
    clear hbk
    have hwx := (HRT.out.2 x (List.mem_of_getElem? HB.out)).w0
    have HWX : Hid (0 ≤ x.wear ∧ x.wear < 1048576) := Lib.hid ⟨hwx, h⟩
    clear hwx
    simp only at HS0 cR HO ⊢
    rcases (show pg < 0 ∨ (0 ≤ pg ∧ pg < 4) ∨ (0 ≤ pg ∧ 4 ≤ pg) by omega) with h1 | ⟨h1, h2⟩ | ⟨h1, h2⟩
    all_goals
      go_wp2_with fail
      refine cR.out.mono ?_; rintro e1 w1 ⟨rfl, hb1⟩
      have HS1 := Lib.hid (HS0.out.later hb1)
      have q0 := HS1.out.cell 0 rfl (k := 0) rfl
      have q1 := HS1.out.cell 0 rfl (k := 1) rfl
      have q2 := HS1.out.cell 0 rfl (k := 2) rfl
      have q3 := HS1.out.cell 0 rfl (k := 3) rfl
      obtain ⟨e0, e1, e2, e3, e4, e5⟩ := B.facts hbb HS1.out.below HC.out HB.out
      clear cR hb1 HS0
      have h3 : ¬ (1048576 : Int) ≤ x.wear := by omega
      clear h
      go_wp2
      go_quiet (fail)
      go_wp2
      go_quiet (fail)
      go_wp2
      go_quiet (fail)
      go_wp2
      generalize hxw : World.drewN w1 _ = xw
      have xh : Below w1.heap.size w1 xw := by rw [← hxw]; exact below_drewN (Below.refl _ _) _
      clear hxw
      have HSS := Lib.hid (HS1.out.later xh)
      clear HS1 xh q0 q1 q2 q3 e0 e1 e2 e3 e4 e5 h3
      generalize w.heap.size = gb at HSS ⊢
      go_loopg [8, 9, 119] 8 (fun g v8 v9 i wr => ∃ k : Nat, k ≤ 8 ∧ g = 8 - k ∧ i = .int .i64 k ∧ AtK w gb ⟨2, bi, pg, d⟩ out bi 0 k v8 v9 wr)
      case atStart => exact ⟨0, Nat.zero_le _, rfl, rfl, none, 0, 0, rfl, rfl, Lib.hid (by simp), HSS.out.nilRow 31 6 none⟩
      case round =>
        clear HSS
        obtain ⟨k, hk, rfl, rfl, A9, c9, n8, rfl, rfl, H8, hs⟩ := hrel
        have HS := Lib.hid hs
        clear hs
        by_cases hlt : k < 8
        · obtain ⟨z, hz⟩ : ∃ z, l[k]? = some z := ⟨_, List.getElem?_eq_getElem (by rw [HRT.out.1]; exact hlt)⟩
          obtain ⟨e0, e1, e2, e3, e4, e5⟩ := B.facts hbb HS.out.below HC.out hz
          have i0 : (0 : Int) ≤ (k : Int) := by omega
          have i1 : (k : Int) < 8 := by omega
          have HSx : Hid (Sep w (wr.alloc (.cells #[.int .i64 z.a, .int .i64 z.b, .int .i64 z.c, .int .i64 z.d, .int .i64 z.done, .int .i64 z.wear] 31)) [.cells gb 24 (⟨2, bi, pg, d⟩ : Op).cells, .row 31 6 (.slice A9 k c9) k ((out.take k).flatMap B.cells), .cells wr.heap.size 31 z.cells]) := Lib.hid (HS.out.new 31 z.cells)
          go_upto_region 22 with (fail)
          clear HS e0 e1 e2 e3 e4 e5
          generalize wr.alloc (.cells #[.int .i64 z.a, .int .i64 z.b, .int .i64 z.c, .int .i64 z.d, .int .i64 z.done, .int .i64 z.wear] 31) = wo at HSx ⊢
          generalize wr.heap.size = gx at HSx ⊢
          have q0 := HSx.out.cell 0 rfl (k := 0) rfl
          have q1 := HSx.out.cell 0 rfl (k := 1) rfl
          have q2 := HSx.out.cell 0 rfl (k := 2) rfl
          have q3 := HSx.out.cell 0 rfl (k := 3) rfl
          by_cases hkb : k = bi
          · subst hkb
            obtain rfl : x = z := by have := HB.out; rw [hz] at this; cases this; rfl
            clear hz
            have HK : Hid (out[k]? = some (B.blank (1 + x.wear))) := Lib.hid (by rw [HO.out, List.getElem?_set, if_pos rfl, if_pos (by rw [HRT.out.1]; exact hlt), Int.add_comm])
            have HN8 : Hid (n8 = if k < k + 1 then 0 else 0) := Lib.hid (by rw [H8.out]; simp)
            obtain ⟨w0', w1'⟩ := HWX.out
            have g0 := HSx.out.cell 2 rfl (k := 0) rfl
            have g1 := HSx.out.cell 2 rfl (k := 1) rfl
            have g2 := HSx.out.cell 2 rfl (k := 2) rfl
            have g3 := HSx.out.cell 2 rfl (k := 3) rfl
            have g4 := HSx.out.cell 2 rfl (k := 4) rfl
            have g5 := HSx.out.cell 2 rfl (k := 5) rfl
            have u0 := HSx.out.froz 2 rfl (k := 0)
            have u1 := HSx.out.froz 2 rfl (k := 1)
            have u2 := HSx.out.froz 2 rfl (k := 2)
            have u3 := HSx.out.froz 2 rfl (k := 3)
            have u4 := HSx.out.froz 2 rfl (k := 4)
            have u5 := HSx.out.froz 2 rfl (k := 5)
            have K := (((((HSx.out.set 2 rfl (k := 0) (.int .i64 0)).set 2 rfl (k := 1) (.int .i64 0)).set 2 rfl (k := 2) (.int .i64 0)).set 2 rfl (k := 3) (.int .i64 0)).set 2 rfl (k := 4) (.int .i64 0)).set 2 rfl (k := 5) (.int .i64 (1 + x.wear))
            have HSy : Hid (Sep w ((((((wo.setCell ⟨gx, 0, none⟩ (.int .i64 0)).setCell ⟨gx, 1, none⟩ (.int .i64 0)).setCell ⟨gx, 2, none⟩ (.int .i64 0)).setCell ⟨gx, 3, none⟩ (.int .i64 0)).setCell ⟨gx, 4, none⟩ (.int .i64 0)).setCell ⟨gx, 5, none⟩ (.int .i64 (1 + x.wear))) [.cells gb 24 (⟨2, k, pg, d⟩ : Op).cells, .row 31 6 (.slice A9 k c9) k ((out.take k).flatMap B.cells), .cells gx 31 (B.blank (1 + x.wear)).cells]) := Lib.hid K
            clear K HSx
            go_upto_region 29 with (fail)
            clear q0 q1 q2 q3 g0 g1 g2 g3 g4 g5 u0 u1 u2 u3 u4 u5
            generalize (((((wo.setCell ⟨gx, 0, none⟩ (.int .i64 0)).setCell ⟨gx, 1, none⟩ (.int .i64 0)).setCell ⟨gx, 2, none⟩ (.int .i64 0)).setCell ⟨gx, 3, none⟩ (.int .i64 0)).setCell ⟨gx, 4, none⟩ (.int .i64 0)).setCell ⟨gx, 5, none⟩ (.int .i64 (1 + x.wear)) = w5 at HSy ⊢
            have f0 := HSy.out.cell 2 rfl (k := 0) rfl
            have f1 := HSy.out.cell 2 rfl (k := 1) rfl
            have f2 := HSy.out.cell 2 rfl (k := 2) rfl
            have f3 := HSy.out.cell 2 rfl (k := 3) rfl
            have f4 := HSy.out.cell 2 rfl (k := 4) rfl
            have f5 := HSy.out.cell 2 rfl (k := 5) rfl
            have hnew := Lib.hid (Rd.of_own (own_new w5 31 (B.blank (1 + x.wear)).cells.toArray 6 1 rfl (by simp [maxLen]) (Nat.le_refl _)))
            have htk : out.take (k + 1) = out.take k ++ [B.blank (1 + x.wear)] := by rw [List.take_add_one, HK.out]; rfl
            have HTK := Lib.hid htk
            clear htk
            go_wp2_with (at_builtin; refine wpList_append_sep (HSy.out.alloc _) 1 rfl (.tmp 153) (.tmp 155) 22 rfl 31 ti (.agg #[.int .i64 0, .int .i64 0, .int .i64 0, .int .i64 0, .int .i64 0, .int .i64 0]) 6 48 Try.underlying22 hti t0 t1 t2 rfl (by omega) _ k _ rfl rfl _ _ 1 1 _ rfl hnew.out (by simp [Value.oneCell', B.cells]) (by simp only [maxLen]; omega) (by omega) ?_; intro A7 c7 w7 hc7 hs7 H7)
            go_roundg (8 - (k + 1))
            case measure => omega
            case rel => exact ⟨k + 1, by omega, rfl, by go_num, A7, c7, n8, rfl, rfl, HN8, by rw [HTK.out, List.flatMap_append]; exact H7.pick [0, 1] (by decide) (by simp)⟩
          · have HK : Hid (out[k]? = some z) := Lib.hid (by rw [HO.out, List.getElem?_set, if_neg (fun e => hkb e.symm)]; exact hz)
            have ht : ((k : Int) == (bi : Int)) = false := by simp; omega
            have HN8 : Hid (n8 = if bi < k + 1 then 0 else 0) := Lib.hid (by
              rw [H8.out]
              by_cases h : bi < k
              · rw [if_pos h, if_pos (by omega)]
              · rw [if_neg h, if_neg (by omega)])
            have HSy := HSx
            clear hz hkb HSx
            have f0 := HSy.out.cell 2 rfl (k := 0) rfl
            have f1 := HSy.out.cell 2 rfl (k := 1) rfl
            have f2 := HSy.out.cell 2 rfl (k := 2) rfl
            have f3 := HSy.out.cell 2 rfl (k := 3) rfl
            have f4 := HSy.out.cell 2 rfl (k := 4) rfl
            have f5 := HSy.out.cell 2 rfl (k := 5) rfl
            have hnew := Lib.hid (Rd.of_own (own_new wo 31 (z).cells.toArray 6 1 rfl (by simp [maxLen]) (Nat.le_refl _)))
            have htk : out.take (k + 1) = out.take k ++ [z] := by rw [List.take_add_one, HK.out]; rfl
            have HTK := Lib.hid htk
            clear htk
            go_wp2_with (at_builtin; refine wpList_append_sep (HSy.out.alloc _) 1 rfl (.tmp 153) (.tmp 155) 22 rfl 31 ti (.agg #[.int .i64 0, .int .i64 0, .int .i64 0, .int .i64 0, .int .i64 0, .int .i64 0]) 6 48 Try.underlying22 hti t0 t1 t2 rfl (by omega) _ k _ rfl rfl _ _ 1 1 _ rfl hnew.out (by simp [Value.oneCell', B.cells]) (by simp only [maxLen]; omega) (by omega) ?_; intro A7 c7 w7 hc7 hs7 H7)
            go_roundg (8 - (k + 1))
            case measure => omega
            case rel => exact ⟨k + 1, by omega, rfl, by go_num, A7, c7, n8, rfl, rfl, HN8, by rw [HTK.out, List.flatMap_append]; exact H7.pick [0, 1] (by decide) (by simp)⟩
        · obtain rfl : k = 8 := by omega
          have HE : Hid (n8 = 0) := Lib.hid (by rw [H8.out, if_pos hbi])
          have hot : out.take 8 = out := List.take_of_length_le (by rw [HOL.out]; omega)
          have HOT := Lib.hid hot
          clear hot
          go_wp2
          refine bodyPost_ret (v := .tuple #[.slice A9 8 c9, .int .i64 n8, .int .i64 0]) (by simp [results, Try.results10]) rfl ?_
          have hle := (Sep.rowHas HS.out 1 rfl).slice
          obtain ⟨A', c', he, hle⟩ := hle
          cases he
          refine ⟨A9, c9, ?_, ?_, ?_⟩
          · rw [HOL.out]; exact hle
          · rw [HOL.out, HE.out]
          · rw [HOL.out]
            have := HS.out.pick [1] (by decide) (by simp)
            rw [HOT.out] at this
            exact this
  | @read d bj p hp h =>
    have hbj : bi = bj := (Int.ofNat_inj.1 hbk).symm
    subst hbj
    clear hbk
    have p4 : (p : Int) < 4 := by omega
    have p0 : (0 : Int) ≤ (p : Int) := by omega
    simp only at HS0 cR HO ⊢
    go_wp2_with fail
    refine cR.out.mono ?_; rintro e1 w1 ⟨rfl, hb1⟩
    have HS1 := Lib.hid (HS0.out.later hb1)
    have q0 := HS1.out.cell 0 rfl (k := 0) rfl
    have q1 := HS1.out.cell 0 rfl (k := 1) rfl
    have q2 := HS1.out.cell 0 rfl (k := 2) rfl
    have q3 := HS1.out.cell 0 rfl (k := 3) rfl
    obtain ⟨e0, e1, e2, e3, e4, e5⟩ := B.facts hbb HS1.out.below HC.out HB.out
    clear cR hb1 HS0
    have h3 : ¬ x.done ≤ (p : Int) := by omega
    clear h
    go_wp2
    go_quiet (fail)
    go_wp2
    go_quiet (fail)
    go_wp2
    go_quiet (fail)
    go_wp2
    generalize hxw : World.drewN w1 _ = xw
    have xh : Below w1.heap.size w1 xw := by rw [← hxw]; exact below_drewN (Below.refl _ _) _
    clear hxw
    have HSS := Lib.hid (HS1.out.later xh)
    clear HS1 xh q0 q1 q2 q3 e0 e1 e2 e3 e4 e5 h3
    obtain ⟨v, hv⟩ : ∃ v, v = x.at p := ⟨_, rfl⟩
    have HV := Lib.hid hv
    clear hv
    generalize w.heap.size = gb at HSS ⊢
    go_loopg [8, 9, 119] 8 (fun g v8 v9 i wr => ∃ k : Nat, k ≤ 8 ∧ g = 8 - k ∧ i = .int .i64 k ∧ AtK w gb ⟨3, bi, p, d⟩ out bi (x.at p) k v8 v9 wr)
    case atStart => exact ⟨0, Nat.zero_le _, rfl, rfl, none, 0, 0, rfl, rfl, Lib.hid (by simp), HSS.out.nilRow 31 6 none⟩
    case round =>
      clear HSS
      obtain ⟨k, hk, rfl, rfl, A9, c9, n8, rfl, rfl, H8, hs⟩ := hrel
      have HS := Lib.hid hs
      clear hs
      by_cases hlt : k < 8
      · obtain ⟨z, hz⟩ : ∃ z, l[k]? = some z := ⟨_, List.getElem?_eq_getElem (by rw [HRT.out.1]; exact hlt)⟩
        obtain ⟨e0, e1, e2, e3, e4, e5⟩ := B.facts hbb HS.out.below HC.out hz
        have i0 : (0 : Int) ≤ (k : Int) := by omega
        have i1 : (k : Int) < 8 := by omega
        have HSx : Hid (Sep w (wr.alloc (.cells #[.int .i64 z.a, .int .i64 z.b, .int .i64 z.c, .int .i64 z.d, .int .i64 z.done, .int .i64 z.wear] 31)) [.cells gb 24 (⟨3, bi, p, d⟩ : Op).cells, .row 31 6 (.slice A9 k c9) k ((out.take k).flatMap B.cells), .cells wr.heap.size 31 z.cells]) := Lib.hid (HS.out.new 31 z.cells)
        go_upto_region 22 with (fail)
        clear HS e0 e1 e2 e3 e4 e5
        generalize wr.alloc (.cells #[.int .i64 z.a, .int .i64 z.b, .int .i64 z.c, .int .i64 z.d, .int .i64 z.done, .int .i64 z.wear] 31) = wo at HSx ⊢
        generalize wr.heap.size = gx at HSx ⊢
        have q0 := HSx.out.cell 0 rfl (k := 0) rfl
        have q1 := HSx.out.cell 0 rfl (k := 1) rfl
        have q2 := HSx.out.cell 0 rfl (k := 2) rfl
        have q3 := HSx.out.cell 0 rfl (k := 3) rfl
        by_cases hkb : k = bi
        · subst hkb
          obtain rfl : x = z := by have := HB.out; rw [hz] at this; cases this; rfl
          clear hz
          have HK : Hid (out[k]? = some x) := Lib.hid (by rw [HO.out, List.getElem?_set, if_pos rfl, if_pos (by rw [HRT.out.1]; exact hlt)])
          have HN8 : Hid (v = if k < k + 1 then x.at p else 0) := Lib.hid (by rw [if_pos (by omega)]; exact HV.out)
          have cp := HSx.out.cell 2 rfl (B.cell_at x hp)
          rw [← HV.out] at cp
          have HSy := HSx
          clear HSx
          go_upto_region 29 with (fail)
          clear q0 q1 q2 q3 cp
          have f0 := HSy.out.cell 2 rfl (k := 0) rfl
          have f1 := HSy.out.cell 2 rfl (k := 1) rfl
          have f2 := HSy.out.cell 2 rfl (k := 2) rfl
          have f3 := HSy.out.cell 2 rfl (k := 3) rfl
          have f4 := HSy.out.cell 2 rfl (k := 4) rfl
          have f5 := HSy.out.cell 2 rfl (k := 5) rfl
          have hnew := Lib.hid (Rd.of_own (own_new wo 31 (x).cells.toArray 6 1 rfl (by simp [maxLen]) (Nat.le_refl _)))
          have htk : out.take (k + 1) = out.take k ++ [x] := by rw [List.take_add_one, HK.out]; rfl
          have HTK := Lib.hid htk
          clear htk
          go_wp2_with (at_builtin; refine wpList_append_sep (HSy.out.alloc _) 1 rfl (.tmp 153) (.tmp 155) 22 rfl 31 ti (.agg #[.int .i64 0, .int .i64 0, .int .i64 0, .int .i64 0, .int .i64 0, .int .i64 0]) 6 48 Try.underlying22 hti t0 t1 t2 rfl (by omega) _ k _ rfl rfl _ _ 1 1 _ rfl hnew.out (by simp [Value.oneCell', B.cells]) (by simp only [maxLen]; omega) (by omega) ?_; intro A7 c7 w7 hc7 hs7 H7)
          go_roundg (8 - (k + 1))
          case measure => omega
          case rel => exact ⟨k + 1, by omega, rfl, by go_num, A7, c7, v, rfl, rfl, HN8, by rw [HTK.out, List.flatMap_append]; exact H7.pick [0, 1] (by decide) (by simp)⟩
        · have HK : Hid (out[k]? = some z) := Lib.hid (by rw [HO.out, List.getElem?_set, if_neg (fun e => hkb e.symm)]; exact hz)
          have ht : ((k : Int) == (bi : Int)) = false := by simp; omega
          have HN8 : Hid (n8 = if bi < k + 1 then (x.at p) else 0) := Lib.hid (by
            rw [H8.out]
            by_cases h : bi < k
            · rw [if_pos h, if_pos (by omega)]
            · rw [if_neg h, if_neg (by omega)])
          have HSy := HSx
          clear hz hkb HSx
          have f0 := HSy.out.cell 2 rfl (k := 0) rfl
          have f1 := HSy.out.cell 2 rfl (k := 1) rfl
          have f2 := HSy.out.cell 2 rfl (k := 2) rfl
          have f3 := HSy.out.cell 2 rfl (k := 3) rfl
          have f4 := HSy.out.cell 2 rfl (k := 4) rfl
          have f5 := HSy.out.cell 2 rfl (k := 5) rfl
          have hnew := Lib.hid (Rd.of_own (own_new wo 31 (z).cells.toArray 6 1 rfl (by simp [maxLen]) (Nat.le_refl _)))
          have htk : out.take (k + 1) = out.take k ++ [z] := by rw [List.take_add_one, HK.out]; rfl
          have HTK := Lib.hid htk
          clear htk
          go_wp2_with (at_builtin; refine wpList_append_sep (HSy.out.alloc _) 1 rfl (.tmp 153) (.tmp 155) 22 rfl 31 ti (.agg #[.int .i64 0, .int .i64 0, .int .i64 0, .int .i64 0, .int .i64 0, .int .i64 0]) 6 48 Try.underlying22 hti t0 t1 t2 rfl (by omega) _ k _ rfl rfl _ _ 1 1 _ rfl hnew.out (by simp [Value.oneCell', B.cells]) (by simp only [maxLen]; omega) (by omega) ?_; intro A7 c7 w7 hc7 hs7 H7)
          go_roundg (8 - (k + 1))
          case measure => omega
          case rel => exact ⟨k + 1, by omega, rfl, by go_num, A7, c7, n8, rfl, rfl, HN8, by rw [HTK.out, List.flatMap_append]; exact H7.pick [0, 1] (by decide) (by simp)⟩
      · obtain rfl : k = 8 := by omega
        have HE : Hid (n8 = (x.at p)) := Lib.hid (by rw [H8.out, if_pos hbi])
        have hot : out.take 8 = out := List.take_of_length_le (by rw [HOL.out]; omega)
        have HOT := Lib.hid hot
        clear hot
        go_wp2
        refine bodyPost_ret (v := .tuple #[.slice A9 8 c9, .int .i64 n8, .int .i64 0]) (by simp [results, Try.results10]) rfl ?_
        have hle := (Sep.rowHas HS.out 1 rfl).slice
        obtain ⟨A', c', he, hle⟩ := hle
        cases he
        refine ⟨A9, c9, ?_, ?_, ?_⟩
        · rw [HOL.out]; exact hle
        · rw [HOL.out, HE.out]
        · rw [HOL.out]
          have := HS.out.pick [1] (by decide) (by simp)
          rw [HOT.out] at this
          exact this
end Nd
end Go.Proofs.Ytmbkonhclniolaa
