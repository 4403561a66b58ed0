/-
  Walks of file.cut's closure and of maps.DeleteFunc. Conditions: none beyond each theorem's own premises.
-/
import Derived.Test.YtfljbiobiobamaaFlW
import Derived.Shelf.Abstract
namespace Go.Proofs.Ytfljbiobiobamaa
open Go.RowKit
set_option linter.unusedVariables false
namespace Fl

theorem cut1_any (x : Int) (v : Value) (gn n : Nat) (w : World) (hx : 0 ≤ x) (hx2 : x < 4096) (hc : w.cell? ⟨gn, 0, none⟩ = some (.int .i64 (n : Int))) :
    Calls Try.prog 46 #[.int .i64 x, v, .pointer (some ⟨gn, 0, none⟩)] w (fun e w' => e = .returned (.bool (decide (x * 16 ≥ (n : Int)))) ∧ w' = w) := by
  go_enter Try.func46, Try.ntmps46
  go_wp2
  go_ret
  exact ⟨rfl, rfl⟩

theorem it_last {X Y I : It} (R : List It) : (X :: Y :: (R ++ [I]))[R.length + 2]? = some I := by simp
theorem it_set {X Y I I' : It} (R : List It) : (X :: Y :: (R ++ [I])).set (R.length + 2) I' = X :: Y :: (R ++ [I']) := by simp
theorem it_mid {X Y I Z : It} {R : List It} {i : Nat} (h : R[i]? = some Z) : (X :: Y :: (R ++ [I]))[i + 2]? = some Z := by
  have hl := (List.getElem?_eq_some_iff.1 h).1
  rw [List.getElem?_cons_succ, List.getElem?_cons_succ, List.getElem?_append_left hl]
  exact h
def hcut (h : Int → Option Nat) (n : Nat) : Int → Option Nat := fun x => if x * 16 ≥ (n : Int) then none else h x

set_option maxRecDepth 100000 in
set_option maxHeartbeats 3200000 in
theorem delf_any (w0 w : World) (X : It) (R : List It) (ic gm gn n nn : Nat) (h : Int → Option Nat) (H : Sep w0 w (X :: .map Try.prog 3 (Value.int .i64) pE gm nn h :: R)) (hc : R[ic]? = some (.cells gn 3 [.int .i64 (n : Int)])) (hkeys : ∀ x, (h x).isSome = true → 0 ≤ x ∧ x < 4096) :
    Calls Try.prog 45 #[.map (some gm), .func (.func 46) #[] #[.pointer (some ⟨gn, 0, none⟩)]] w
      (fun e w' => e = .returned (.tuple #[]) ∧ ∃ nn', Sep w0 w' (X :: .map Try.prog 3 (Value.int .i64) pE gm nn' (hcut h n) :: R)) := by
  have eg : ∀ args w, (callFunc 46 args).run Try.prog w = .ok (.enter 46 args) w := enters_of Try.func46 (by kernel_rfl) rfl
  obtain ⟨es, clock, M, H1⟩ := H.mapOpen 1 rfl
  obtain ⟨hrun, H2, todo0, R0, htl, hmem⟩ := H1.rangeStart 1 rfl M kintL Try.underlying72
  have HM := Lib.hid M
  have HR0 := Lib.hid R0
  have HC := Lib.hid hc
  have HKE := Lib.hid hkeys
  have HS0 : Hid (Sep w0 (w.alloc (.mapIter (some gm) clock #[] clock)) (X :: .obj gm (.map es clock) :: (R ++ [.obj w.heap.size (.mapIter (some gm) clock #[] clock)]))) := Lib.hid H2
  have HI0 : Hid (∀ x, h x = if x ∈ todo0 then h x else hcut h n x) := Lib.hid (fun x => by
    by_cases hx : x ∈ todo0
    · rw [if_pos hx]
    · rw [if_neg hx]
      have : h x = none := by
        cases hh : h x with
        | none => rfl
        | some a => exact absurd ((hmem x).2 (by rw [hh]; rfl)) hx
      unfold hcut
      rw [this]
      split <;> rfl)
  have htl0 : todo0.length = todo0.length := rfl
  clear M R0 H1 H2 H hc hkeys hmem
  go_enter Try.func45, Try.ntmps45
  go_upto_region 1 with (fail)
  clear hrun
  generalize w.alloc (.mapIter (some gm) clock #[] clock) = wo at HS0 ⊢
  generalize w.heap.size = r1 at HS0 ⊢
  go_loopg [] todo0.length (fun g wl => ∃ (todo : List Int) (seen : Array Nat) (c0 nn : Nat) (es' : Array MapEntry) (hq : Int → Option Nat), g = todo.length ∧ Hid (Rg (Value.int .i64) es' clock clock seen c0 todo) ∧ Hid (MIs Try.prog 3 (Value.int .i64) pE es' clock nn hq) ∧ Hid (∀ x, hq x = if x ∈ todo then h x else hcut h n x) ∧ Hid (todo.Nodup) ∧
      Sep w0 wl (X :: .obj gm (.map es' clock) :: (R ++ [.obj r1 (.mapIter (some gm) clock seen c0)])))
  case atStart => exact ⟨todo0, #[], clock, nn, es, h, rfl, HR0, HM, HI0, Lib.hid HR0.out.nd, HS0.out⟩
  case round =>
    clear HS0 HI0 HR0 HM wo htl0
    obtain ⟨todo, seen, c0, nn, es', hq, rfl, HRG, HM, HI, HND, hs⟩ := hrel
    have HS := Lib.hid hs
    clear hs
    rcases HS.out.rangeNext 1 (R.length + 2) (by omega) rfl (it_last R) HM.out kintL HRG.out 0 with ⟨rfl, hrun⟩ | ⟨x, a, w2, seen', hx, hxa, hrun, hsz, H2, HRG2, hen⟩
    · have HF : Hid (Sep w0 wr (X :: .map Try.prog 3 (Value.int .i64) pE gm nn (hcut h n) :: R)) := Lib.hid (by
        have e : hq = hcut h n := funext fun x => by have := HI.out x; simpa using this
        have M2 := HM.out
        rw [e] at M2
        have h1 := HS.out.mapShut 1 rfl M2
        refine Sep.sub h1 ?_
        exact List.Sublist.cons_cons _ (List.Sublist.cons_cons _ (List.sublist_append_left _ _)))
      clear HS HI HRG HM
      go_wp2
      refine bodyPost_end (v := .tuple #[]) (by simp [results, Try.results45]) rfl ?_
      exact ⟨rfl, _, HF.out⟩
    · rw [it_set] at H2
      have HS2 := Lib.hid H2
      have hhx : h x = some a := by
        have := HI.out x
        rw [if_pos hx] at this
        rw [← this]
        exact hxa
      obtain ⟨x0, x1⟩ := HKE.out x (by rw [hhx]; rfl)
      have hcell := H2.cell (ic + 2) (it_mid HC.out) (k := 0) rfl
      have cC := Lib.hid (cut1_any x (pE a) gn n w2 x0 x1 hcell)
      have HRG3 := Lib.hid HRG2
      have HL : Hid ((todo.erase x).length < todo.length) := Lib.hid (by
        have h1 := List.length_erase_of_mem hx
        have h2 := List.length_pos_of_mem hx
        omega)
      have HX := Lib.hid hx
      have hwf : (Lit.int .i64 x).wf = true := by
        simp [Lit.wf, IntKind.min, IntKind.max, IntKind.signed, IntKind.bits]
        omega
      unfold pE at hrun hen cC
      clear H2 HRG2 hx hxa hsz hcell
      by_cases hge : x * 16 ≥ (n : Int)
      · obtain ⟨es2, w3, hdel, hsz3, H3, M3, R3⟩ := HS2.out.rangeDrop 1 rfl HM.out kintL Try.underlying72 HRG3.out hwf
        have HS3 : Hid (Sep w0 w3 (X :: .obj gm (.map es2 clock) :: (R ++ [.obj r1 (.mapIter (some gm) clock seen' clock)]))) := Lib.hid H3
        have HM3 := Lib.hid M3
        have HR3 := Lib.hid R3
        have HI3 : Hid (∀ y, mdel hq x y = if y ∈ todo.erase x then h y else hcut h n y) := Lib.hid (fun y => by
          have hme := HND.out.mem_erase_iff (a := y) (b := x)
          by_cases hy : y = x
          · subst hy
            rw [mdel_same, if_neg (fun e => (hme.1 e).1 rfl)]
            unfold hcut
            rw [if_pos hge]
          · rw [mdel_other _ hy, HI.out y]
            by_cases hm : y ∈ todo
            · rw [if_pos hm, if_pos (hme.2 ⟨hy, hm⟩)]
            · rw [if_neg hm, if_neg (fun e => hm (hme.1 e).2)])
        have HE : Hid ((todo.erase x).erase x = todo.erase x) := Lib.hid (List.erase_of_not_mem (fun hm => ((HND.out.mem_erase_iff).1 hm).1 rfl))
        rw [HE.out] at HR3
        rw [decide_eq_true hge] at cC
        clear H3 M3 R3 hsz3 HS HS2
        go_wp2_with fail
        refine cC.out.mono ?_; rintro en w4 ⟨rfl, rfl⟩
        go_wp2
        go_roundg (todo.erase x).length
        case measure => exact HL.out
        case rel => exact ⟨todo.erase x, seen', clock, _, es2, mdel hq x, rfl, HR3, HM3, HI3, Lib.hid (HND.out.erase _), HS3.out⟩
      · have HI3 : Hid (∀ y, hq y = if y ∈ todo.erase x then h y else hcut h n y) := Lib.hid (fun y => by
          have hme := HND.out.mem_erase_iff (a := y) (b := x)
          rw [HI.out y]
          by_cases hy : y = x
          · subst hy
            rw [if_pos HX.out, if_neg (fun e => (hme.1 e).1 rfl)]
            unfold hcut
            rw [if_neg hge]
          · by_cases hm : y ∈ todo
            · rw [if_pos hm, if_pos (hme.2 ⟨hy, hm⟩)]
            · rw [if_neg hm, if_neg (fun e => hm (hme.1 e).2)])
        rw [decide_eq_false hge] at cC
        clear HS
        go_wp2_with fail
        refine cC.out.mono ?_; rintro en w4 ⟨rfl, rfl⟩
        go_wp2
        go_roundg (todo.erase x).length
        case measure => exact HL.out
        case rel => exact ⟨todo.erase x, seen', clock, nn, es', hq, rfl, HRG3, HM, HI3, Lib.hid (HND.out.erase _), HS2.out⟩
end Fl
end Go.Proofs.Ytfljbiobiobamaa
