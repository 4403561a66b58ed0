/-
  A region that draws its order, in a great frame: what lies in which slot, told by a table. Conditions: none beyond each theorem's own premises.
-/
import Derived.Test.YtelgalhkggnkbaaInv
namespace Go.Proofs.Ytelgalhkggnkbaa
open Go.RowKit
set_option linter.unusedVariables false
theorem region_abs {P : Program} {c : Code} {Q : Exit → Act → World → Prop} {a : Act} {w : World} (h : ∀ a0, a0 = a → c.wp P Q a0 w) : c.wp P Q a w := h a rfl
theorem getD_of {a : Act} {k : Nat} {v : Value} (h : a.tmps[k]? = some v) : a.tmps.getD k undef = v := by
  rw [Array.getD_eq_getD_getElem?, h]; rfl
def dstAt (ops : Array Oper) (i : Nat) : Option Nat := (ops[i]?).bind (·.dst)
def distB (ops : Array Oper) : Bool := (List.range ops.size).all fun i => (List.range ops.size).all fun j => i == j || (dstAt ops i).isNone || (dstAt ops i != dstAt ops j)
theorem dist_of {ops : Array Oper} (h : distB ops = true) {i j : Nat} {o o' : Oper} {d : Nat} (hi : ops[i]? = some o) (hj : ops[j]? = some o') (hd : o.dst = some d) (hd' : o'.dst = some d) : i = j := by
  have hil := (Array.getElem?_eq_some_iff.1 hi).1
  have hjl := (Array.getElem?_eq_some_iff.1 hj).1
  have h1 := List.all_eq_true.1 (List.all_eq_true.1 h i (List.mem_range.2 hil)) j (List.mem_range.2 hjl)
  unfold dstAt at h1
  rw [hi, hj] at h1
  simp [hd, hd'] at h1
  exact h1
def outB (ops : Array Oper) (d : Nat) : Bool := ops.toList.all fun o => o.dst != some d
theorem out_of {ops : Array Oper} {d : Nat} (h : outB ops d = true) {i : Nat} {o : Oper} (hi : ops[i]? = some o) : o.dst ≠ some d := by
  have := List.all_eq_true.1 h o (by
    rw [Array.mem_toList_iff]
    exact Array.mem_of_getElem? hi)
  simpa using this
structure FrI (a0 : Act) (ops : Array Oper) (V : Nat → Value → Prop) (L : Nat → Bool) (ac : Act) : Prop where
  df : ac.defers = a0.defers
  sz : ac.tmps.size = a0.tmps.size
  at_ : ∀ i o d, ops[i]? = some o → o.dst = some d → L i = true → ∃ v, V i v ∧ ac.tmps[d]? = some v
  out : ∀ d, outB ops d = true → ac.tmps[d]? = a0.tmps[d]?
  dc : ∀ i o e, ops[i]? = some o → L i = true → e ∈ o.after → Region.binds .any e = true → L e.on = true
theorem FrI.start (a0 : Act) (ops : Array Oper) (V : Nat → Value → Prop) : FrI a0 ops V (fun _ => false) a0 :=
  ⟨rfl, rfl, (fun i o d _ _ h => by cases h), (fun d _ => rfl), (fun i o e _ h => by cases h)⟩
theorem FrI.put {a0 ac : Act} {ops : Array Oper} {V : Nat → Value → Prop} {L : Nat → Bool} (h : FrI a0 ops V L ac) {i : Nat} {o : Oper} {d : Nat} {v : Value} (hdist : distB ops = true) (ho : ops[i]? = some o) (hd : o.dst = some d) (hsz : d < a0.tmps.size) (hv : V i v) (he : ∀ e ∈ o.after, Region.binds .any e = true → L e.on = true) :
    FrI a0 ops V (fun j => if j = i then true else L j) { ac with tmps := ac.tmps.setIfInBounds d v } where
  df := h.df
  sz := by simpa using h.sz
  at_ := fun j o' d' ho' hd' hL => by
    by_cases hj : j = i
    · subst hj
      rw [ho] at ho'
      cases ho'
      rw [hd] at hd'
      cases hd'
      exact ⟨v, hv, by rw [Array.getElem?_setIfInBounds_self_of_lt (by rw [h.sz]; exact hsz)]⟩
    · simp only [hj, if_false] at hL
      obtain ⟨v', hv', hy⟩ := h.at_ j o' d' ho' hd' hL
      refine ⟨v', hv', ?_⟩
      have hne : d ≠ d' := fun e => hj (dist_of hdist ho' ho (by rw [hd', e]) hd)
      rw [Array.getElem?_setIfInBounds_ne hne]
      exact hy
  out := fun d' hd' => by
    have hne : d ≠ d' := fun e => out_of hd' ho (by rw [hd, e])
    rw [Array.getElem?_setIfInBounds_ne hne]
    exact h.out d' hd'
  dc := fun j o' e ho' hL hm hb => by
    show (if e.on = i then true else L e.on) = true
    by_cases hen : e.on = i
    · rw [if_pos hen]
    · rw [if_neg hen]
      by_cases hj : j = i
      · subst hj
        rw [ho] at ho'
        cases ho'
        exact he e hm hb
      · simp only [hj, if_false] at hL
        exact h.dc j o' e ho' hL hm hb
theorem FrI.reV {a0 ac : Act} {ops : Array Oper} {V V' : Nat → Value → Prop} {L : Nat → Bool} (h : FrI a0 ops V L ac) (hv : ∀ i v, L i = true → V i v → V' i v) : FrI a0 ops V' L ac :=
  ⟨h.df, h.sz, fun i o d ho hd hL => by obtain ⟨v, h1, h2⟩ := h.at_ i o d ho hd hL; exact ⟨v, hv i v hL h1, h2⟩, h.out, h.dc⟩
theorem wp_region_inv1 {P : Program} {ops : Array Oper} {Q : Exit → Act → World → Prop} {id : Nat} {a : Act} {w : World} (I : Array Oper → (Nat → Bool) → Act → World → Prop) (hm : P.follows .mixedOrders = true) (hd : downB .any ops = true)
    (h0 : I ops (fun _ => false) a { w with drawn := w.drawn + 1 })
    (hstep : ∀ (L : Nat → Bool) a' w (i : Nat) (o : Oper), I ops L a' w → ops[i]? = some o → L i = false → (∀ e ∈ o.after, Region.binds .any e = true → L e.on = true) → wpOp P ops Q i (fun a' w' => I ops (fun j => if j = i then true else L j) a' w') a' w)
    (hfin : ∀ (L : Nat → Bool) a' w, I ops L a' w → (∀ j, j < ops.size → L j = true) → Q .normal a' w) : (Code.region id ops true).wp P Q a w :=
  wp_region_inv0 (fun _ => I ops) hm hd h0 hstep hfin
end Go.Proofs.Ytelgalhkggnkbaa
