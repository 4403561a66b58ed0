/-
  The frame that every law of this set shares: a law's call returns true and writes nothing that was there; so the row's post holds. Conditions: the specification hands back 'true' and the arguments as they came; no package variable is read.
-/
import Derived.Test.YtccpkkopniadiaaDoorRows
import Derived.WalkKit
import Derived.ProofKit
import Derived.OpenShut
import Derived.Below
import Derived.JoinedCond
import Derived.SizedLaws
import Derived.Deep.Slices
import Derived.Deep.Fields
import Derived.Deep.CondSized
namespace Go.Proofs.YtccpkkopniadiaaDoor
open Go.ChangeShapes Go.WideShapes Go.ChangeAt Go.RowKit

theorem own : ownKnob Tryd.prog.godebug = none := by kernel_rfl
theorem laidOut : laidOutB Tryd.prog = true := by kernel_rfl

section
variable {H : Type} {enc : TypeId × Value → H} {P : Program}

theorem trodAll_lt {w : World} {base : Nat} {sp : Nat → Bool} {held : Bool} : ∀ (ts : List TypeId) (vs : List Value) (ds : List (DataW H)) (ps : List MemPlace),
    DataW.TrodAll enc P w base sp held ts vs ds ps → ∀ x ∈ ps, x.block < w.heap.size := by
  intro ts
  induction ts with
  | nil =>
    intro vs ds ps h x hx
    match vs, ds, h with
    | [], [], h =>
      obtain rfl : ps = [] := h
      cases hx
  | cons t ts ih =>
    intro vs ds ps h x hx
    match vs, ds, h with
    | v :: vs, d :: ds, h =>
      obtain ⟨p, q, ⟨m, hm⟩, h2, rfl⟩ : ∃ p q, DataW.Trod enc P w base sp held t v d p ∧ DataW.TrodAll enc P w base sp held ts vs ds q ∧ ps = p ++ q := h
      rcases List.mem_append.1 hx with h3 | h3
      · exact DataW.trod_lt m _ _ _ hm x h3
      · exact ih _ _ _ h2 x h3

theorem trodAll_below (lo : laidOutB P = true) {W W' : World} (hb : Below W.heap.size W W') : ∀ (ts : List TypeId) (vs : List Value) (ds : List (DataW H)) (ps : List MemPlace),
    (ts.all fun t => P.readableRec t && decide (t < P.types.size)) = true →
    DataW.TrodAll enc P W 0 (fun _ => true) true ts vs ds ps → DataW.TrodAll enc P W' 0 (fun b => decide (b < W.heap.size)) true ts vs ds ps := by
  intro ts
  induction ts with
  | nil =>
    intro vs ds ps _ h
    match vs, ds, h with
    | [], [], h => exact h
  | cons t ts ih =>
    intro vs ds ps hr h
    match vs, ds, h with
    | v :: vs, d :: ds, h =>
      obtain ⟨p, q, h1, h2, rfl⟩ : ∃ p q, DataW.Trod enc P W 0 (fun _ => true) true t v d p ∧ DataW.TrodAll enc P W 0 (fun _ => true) true ts vs ds q ∧ ps = p ++ q := h
      simp only [List.all_cons, Bool.and_eq_true, decide_eq_true_eq] at hr
      have hlt : ∀ x ∈ p, x.block < W.heap.size := by obtain ⟨m, hm⟩ := h1; exact DataW.trod_lt m _ _ _ hm
      exact ⟨p, q, Below.trod lo hr.1.1 hr.1.2 h1 hb hlt, ih _ _ _ hr.2 h2, rfl⟩

/-- A law's post: it returned true, and what was there is as it was. -/
theorem law_post (lo : laidOutB P = true) {f : Func} {s : ChangeSpec} {W W' : World} {args : Array Value} {ds gs : List (DataW H)} {before : List MemPlace} {tb : TypeId}
    (htb : P.underlying tb = some .bool) (hres : f.resultTypes = #[tb]) (hv : s.vars = [])
    (hr : (f.params.toList.all fun t => P.readableRec t && decide (t < P.types.size)) = true)
    (hfn : ∀ xs : List (DataW H), xs.length = f.params.toList.length → s.fn H (xs ++ []) = { results := [.lit (.bool true)], args := xs })
    (hW : DataW.Whole enc P f.params.toList s.vars false W args.toList ds gs before) (hb : Below W.heap.size W W') :
    s.post enc P f false true false false W args (.bool true) W' := by
  have hW' := hW
  obtain ⟨p, q, hA, hV, rfl, hfz, hnd⟩ := hW
  rw [hv] at hV
  obtain ⟨rfl, rfl⟩ := trodVars_none hV
  have hlen : ds.length = f.params.toList.length := by
    clear hfn hfz hW' hnd hr
    generalize f.params.toList = ts at hA
    generalize args.toList = vs at hA
    induction ts generalizing vs ds p with
    | nil => match vs, ds, hA with
      | [], [], _ => rfl
    | cons t ts ih => match vs, ds, hA with
      | v :: vs, d :: ds, h =>
        obtain ⟨p, q, _, h2, _⟩ : ∃ p' q, DataW.Trod enc P W 0 (fun _ => true) true t v d p' ∧ DataW.TrodAll enc P W 0 (fun _ => true) true ts vs ds q ∧ p = p' ++ q := h
        simp [ih _ vs h2]
  refine ⟨ds, [], p ++ [], [], p, [], hW', ?_, ?_, ?_, hb.frame _, fun h => by cases h⟩
  · rw [hres, hfn ds hlen]
    exact trodAll_mk1 (shut_bool htb _)
  · rw [hfn ds hlen]
    exact trodAll_below lo hb _ _ _ _ hr hA
  · rw [hv, hfn ds hlen]
    rfl

end
end Go.Proofs.YtccpkkopniadiaaDoor
