/-
  A region that draws its order, by an INVARIANT over what has come up so far: one proof for each operation, whatever the order. Conditions: none beyond each theorem's own premises.
-/
import Derived.Test.YtccpkkopniadiaaDoorMem
import Derived.OrdersHeld
namespace Go.Proofs.YtccpkkopniadiaaDoor
open Go.RowKit
set_option linter.unusedVariables false
section
variable {P : Program} {ops : Array Oper} {md : Region.Mode} {Q : Exit → Act → World → Prop}

theorem wpAny_inv (I : Array Bool → Act → World → Prop)
    (hstep : ∀ (listed : Array Bool) a w i, I listed a w → i ∈ Region.ready md ops listed → wpOp P ops Q i (fun a' w' => I (listed.setIfInBounds i true) a' w') a w)
    (hfin : ∀ (listed : Array Bool) a w, I listed a w → Region.ready md ops listed = [] → Q .normal a w) :
    ∀ (f : Nat) (listed : Array Bool) (a : Act) (w : World), listed.toList.count false ≤ f → I listed a w → wpAny P md ops Q f listed a w := by
  intro f
  induction f with
  | zero =>
    intro listed a w hc hI
    have hr : Region.ready md ops listed = [] := by
      rw [List.eq_nil_iff_forall_not_mem]
      intro i hi
      have h1 := (mem_ready.1 hi).1
      have hlt : i < listed.size := by
        rcases Nat.lt_or_ge i listed.size with h | h
        · exact h
        · simp [Array.getD_eq_getD_getElem?, Array.getElem?_eq_none h] at h1
      have hmem : false ∈ listed.toList := by
        rw [← h1]
        simp [Array.getD_eq_getD_getElem?, hlt]
      have := List.count_pos_iff.2 hmem
      omega
    exact ⟨hr, hfin _ _ _ hI hr⟩
  | succ f ih =>
    intro listed a w hc hI
    refine ⟨fun h0 => hfin _ _ _ hI h0, fun i hi => ?_⟩
    refine wpOp_mono (fun a' w' h => ih _ a' w' ?_ h) (hstep listed a w i hI hi)
    have h1 := (mem_ready.1 hi).1
    have hlt : i < listed.size := by
      rcases Nat.lt_or_ge i listed.size with h | h
      · exact h
      · simp [Array.getD_eq_getD_getElem?, Array.getElem?_eq_none h] at h1
    have h2 : listed[i] = false := by simpa [Array.getD_eq_getD_getElem?, hlt] using h1
    rw [Array.toList_setIfInBounds, List.count_set (by simpa using hlt)]
    have h3 : listed.toList[i]'(by simpa using hlt) = false := by simpa using h2
    rw [h3]
    have h5 : 0 < listed.toList.count false := List.count_pos_iff.2 (h3 ▸ List.getElem_mem _)
    simp only [beq_self_eq_true, if_true]
    rw [if_neg (by decide)]
    omega

/-- every edge that binds goes to an operation ahead -/
def downB (md : Region.Mode) (ops : Array Oper) : Bool := (List.range ops.size).all fun j => match ops[j]? with
  | some o => o.after.all fun e => !(Region.binds md e) || decide (e.on < j)
  | none => true
theorem all_listed {listed : Array Bool} (hd : downB md ops = true) (hs : listed.size = ops.size) (hr : Region.ready md ops listed = []) : ∀ j, j < ops.size → listed.getD j false = true := by
  intro j
  induction j using Nat.strongRecOn with
  | _ j ih =>
    intro hj
    cases hl : listed.getD j false with
    | true => rfl
    | false =>
      exfalso
      have hjo : ops[j]? = some ops[j] := Array.getElem?_eq_getElem hj
      have hmem : j ∈ Region.ready md ops listed := by
        refine mem_ready.2 ⟨?_, ops[j], hjo, fun e he hb => ?_⟩
        · have hlt : j < listed.size := by omega
          simp [Array.getD_eq_getD_getElem?, hlt] at hl ⊢
          exact hl
        · unfold downB at hd
          have h1 := List.all_eq_true.1 hd j (List.mem_range.2 hj)
          rw [hjo] at h1
          simp only at h1
          have h2 := (Array.all_eq_true_iff_forall_mem.1 h1) e he
          rw [hb] at h2
          simp at h2
          exact ih e.on h2 (by omega)
      rw [hr] at hmem
      cases hmem

/-- the law -/
theorem wp_region_inv {id : Nat} {a : Act} {w : World} (I : (Nat → Bool) → Act → World → Prop) (hm : P.follows .mixedOrders = true) (hd : downB .any ops = true)
    (h0 : I (fun _ => false) a { w with drawn := w.drawn + 1 })
    (hstep : ∀ (L : Nat → Bool) a w (i : Nat) (o : Oper), I L a w → ops[i]? = some o → L i = false → (∀ e ∈ o.after, Region.binds .any e = true → L e.on = true) → wpOp P ops Q i (fun a' w' => I (fun j => if j = i then true else L j) a' w') a w)
    (hfin : ∀ (L : Nat → Bool) a w, I L a w → (∀ j, j < ops.size → L j = true) → Q .normal a w) : (Code.region id ops true).wp P Q a w := by
  refine wp_region_any hm ?_
  refine wpAny_inv (fun listed a w => listed.size = ops.size ∧ I (fun j => listed.getD j false) a w) ?_ ?_ _ _ _ _ ?_ ⟨by simp, ?_⟩
  · rintro listed a w i ⟨hs, hI⟩ hi
    obtain ⟨h1, o, h2, h3⟩ := mem_ready.1 hi
    have hlt : i < listed.size := by
      rcases Nat.lt_or_ge i listed.size with h | h
      · exact h
      · simp [Array.getD_eq_getD_getElem?, Array.getElem?_eq_none h] at h1
    have h4 : listed.getD i false = false := by
      simp [Array.getD_eq_getD_getElem?, hlt] at h1 ⊢
      exact h1
    refine wpOp_mono (fun a' w' h => ⟨by simpa using hs, ?_⟩) (hstep _ a w i o hI h2 h4 h3)
    have e : (fun j => (listed.setIfInBounds i true).getD j false) = (fun j => if j = i then true else listed.getD j false) := by
      funext j
      by_cases hji : j = i
      · subst hji
        simp [Array.getD_eq_getD_getElem?, hlt]
      · rw [if_neg hji]
        simp [Array.getD_eq_getD_getElem?, Ne.symm hji]
    rw [e]
    exact h
  · rintro listed a w ⟨hs, hI⟩ hr
    exact hfin _ a w hI (all_listed hd hs hr)
  · simp
  · have e : (fun j => (Array.replicate ops.size false).getD j false) = (fun _ => false) := by
      funext j
      simp [Array.getD_eq_getD_getElem?, Array.getElem?_replicate]
      split <;> rfl
    simp only [e]
    exact h0
/-- the law, the invariant told of the frame at the region's head -/
theorem wp_region_inv0 {id : Nat} {a : Act} {w : World} (I : Act → (Nat → Bool) → Act → World → Prop) (hm : P.follows .mixedOrders = true) (hd : downB .any ops = true)
    (h0 : I a (fun _ => false) a { w with drawn := w.drawn + 1 })
    (hstep : ∀ (L : Nat → Bool) a' w (i : Nat) (o : Oper), I a L a' w → ops[i]? = some o → L i = false → (∀ e ∈ o.after, Region.binds .any e = true → L e.on = true) → wpOp P ops Q i (fun a' w' => I a (fun j => if j = i then true else L j) a' w') a' w)
    (hfin : ∀ (L : Nat → Bool) a' w, I a L a' w → (∀ j, j < ops.size → L j = true) → Q .normal a' w) : (Code.region id ops true).wp P Q a w := wp_region_inv (I a) hm hd h0 hstep hfin
/-- a frame with some slots turned -/
def turn (a : Act) (l : List (Nat × Value)) : Act := { a with tmps := l.foldl (fun t p => t.setIfInBounds p.1 p.2) a.tmps }
end
theorem wpOp_at {P : Program} {ops : Array Oper} {Q : Exit → Act → World → Prop} {K : Act → World → Prop} {i : Nat} {o : Oper} {a : Act} {w : World} (hi : ops[i]? = some o) (hw : Region.wanted o (yielded ops a.tmps) = true) (h : o.wp P a w K Q) : wpOp P ops Q i K a w := by
  unfold Go.wpOp
  simp only [hi, hw, if_true]
  exact .inl h
theorem load_exec {P : Program} (ev : Operand → Value) (o : Oper) (W : World) (v : Value) {ty : TypeId} {x : Operand} (ho : o.op = .load ty x) (h : (Instr.loadAt ty (ev x)).run P W = .ok v W) : (execOp ev o).run P W = .ok (.value v) W := by
  unfold execOp
  simp only [ho, Sem.run_bind, h, Result.andThen_ok, Sem.run_pure]
end Go.Proofs.YtccpkkopniadiaaDoor
