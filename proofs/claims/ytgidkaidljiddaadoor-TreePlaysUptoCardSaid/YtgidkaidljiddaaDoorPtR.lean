/-
  A range over a function that keeps a state of its own in cells made ahead of the loop. Conditions: none beyond the theorem's own premises.
-/
import Derived.Test.YtgidkaidljiddaaDoorIter
namespace Go.Proofs.YtgidkaidljiddaaDoor
open Go.RowKit
set_option linter.unusedVariables false

/-- what a round of such a loop owes: it goes on -/
def roundOwes {α : Type} (B : Nat) (ks : Nat → Prop) (I : List α → World → Prop) (xs : List α) (W : World) : Exit → Act → World → Prop
  | .normal, _, W' => KeepsFrom B W W' ∧ (∀ k, ks k → W'.heap[k]? = W.heap[k]?) ∧ I xs W'
  | _, _, _ => False

theorem putObj_at {W : World} {l k : Nat} {o : Obj} (h : k ≠ l) : (W.putObj l o).heap[k]? = W.heap[k]? := World.putObj_heap_other h

section
variable {F : Fence} {n : Nat} {P : Program}
theorem wpIn_range_state {α : Type} {g : Operand} {ps : Array Tmp} {assign body : Code} {Q : Exit → Act → World → Prop} {a : Act} {w : World}
    (hro : F.round = none) (h1 : 1 ≤ n) {gf : Nat} {lb : Array Value} (hg : a.eval g = .func (.func gf) #[] lb) (hFg : F.fn gf) (eg : ∀ args w, (callFunc gf args).run P w = .ok (.enter gf args) w)
    {encs : α → Array Value} (hps : ∀ x, (encs x).size = ps.size)
    (I : List α → World → Prop) (hI : OwnFrom w.heap.size I) (h0 : I [] w) (a₁ : α → Act) (ks : Nat → Prop) (hks : ∀ k, ks k → k < w.heap.size) (xs : List α)
    (hiter : ∀ (l : Nat) (J : List α → World → Prop) (W : World), Below w.heap.size w W → (∀ pre U, J pre U → I pre U) →
      (∀ pre U U', J pre U → I pre U' → (∀ k, w.heap.size ≤ k → U'.heap[k]? = U.heap[k]?) → J pre U') →
      (∀ pre x U, J pre U → pre.length < xs.length → YieldAt F (n - 1 - 1) P l (encs x) U fun e U' => e = .returned (.bool true) ∧ J (pre ++ [x]) U' ∧ ∀ k, ks k → U'.heap[k]? = U.heap[k]?) →
      J [] W → CallsIn F (n - 1) P gf (#[.func (.yield l) #[] #[]] ++ lb) W fun e W' => (∃ v, e = .returned v) ∧ J xs W')
    (hassign : ∀ (l : Nat) (x : α) (W : World) (K : Act → World → Prop), K (a₁ x) W →
      assign.wpIn (F.inRound l) (n - 1 - 1) P (Exit.then K (fun _ _ _ => False)) { tmps := (ps.zip (encs x)).foldl (fun t (p, v) => t.setIfInBounds p v) a.tmps, defers := [] } W)
    (hbody : ∀ (l : Nat) (pre : List α) (x : α) (W : World), I pre W → pre.length < xs.length → body.wpIn (F.inRound l) (n - 1 - 1) P (roundOwes w.heap.size ks I (pre ++ [x]) W) (a₁ x) W)
    (hdone : ∀ (D : Nat) (W : World), w.heap.size ≤ D → I xs W → W.heap[D]? = some (.deferred (some [])) → Q .normal { a with defers := { target := .collected D, args := #[] } :: a.defers } W) :
    (Code.rangeFunc g ps assign body).wpIn F n P Q a w := by
  refine wpIn_rangeFunc fun fn hfn => ?_
  rw [hro]
  obtain ⟨rc, hrc⟩ : ∃ rc : LoopState → Option Code → Loop, rc = fun st pe => { state := st, pending := pe, fn, tmps := a.tmps, params := ps, assign, body, defers := w.heap.size } := ⟨_, rfl⟩
  obtain ⟨V, hV⟩ : ∃ V, V = (w.alloc (.deferred (some []))).alloc (.loop (rc .ready none)) := ⟨_, rfl⟩
  have hbel : Below w.heap.size w V := by rw [hV]; exact ((Below.refl _ w).alloc (Nat.le_refl _) _).alloc (by simp) _
  have hloop : V.heap[w.heap.size + 1]? = some (.loop (rc .ready none)) := by
    have h := World.alloc_heap_new (w.alloc (.deferred (some []))) (.loop (rc .ready none))
    rw [World.size_alloc] at h
    rw [hV]; exact h
  have hdef : V.heap[w.heap.size]? = some (.deferred (some [])) := by
    rw [hV]
    exact (Below.heap_alloc _ _ _ (by simp)).trans (World.alloc_heap_new w _)
  have hstart : I [] V := by rw [hV]; exact hI.alloc _ (hI.alloc _ h0)
  obtain ⟨J, hJ⟩ : ∃ J : List α → World → Prop, J = fun pre U => I pre U ∧ U.heap[w.heap.size + 1]? = some (.loop (rc .ready none)) ∧ U.heap[w.heap.size]? = some (.deferred (some [])) := ⟨_, rfl⟩
  refine ⟨w.heap.size + 1, [{ target := .collected w.heap.size, args := #[] }], V, { target := .fn (.func gf) lb, args := #[.func (.yield (w.heap.size + 1)) #[] #[]] }, V, gf,
    #[.func (.yield (w.heap.size + 1)) #[] #[]] ++ lb, V, ?_, ?_, ?_, ?_, fun _ => h1, ?_⟩
  · rw [hV, hrc]
    exact run_enterLoop_outer _ _ _ _ _
  · simp only [resolve, hg]
    simp [go_sem]
  · intro f' hf'
    simp [Target.leads] at hf'
    rw [← hf']
    exact hFg
  · simp [invoke, go_sem, eg]
  · refine (hiter (w.heap.size + 1) J V hbel (fun pre U h => by rw [hJ] at h; exact h.1) (fun pre U U' h hi hk => ?_) (fun pre x U h hlen => ?_) (by rw [hJ]; exact ⟨hstart, hloop, hdef⟩)).mono ?_
    · rw [hJ] at h ⊢
      exact ⟨hi, (hk _ (by omega)).trans h.2.1, (hk _ (by omega)).trans h.2.2⟩
    · rw [hJ] at h
      obtain ⟨hi, hl, hd⟩ := h
      have hlt : w.heap.size + 1 < U.heap.size := (Array.getElem?_eq_some_iff.1 hl).1
      have hy := run_yield (P := P) (args := encs x) hl (by rw [hrc]; exact hps x)
      rw [hrc] at hy
      refine ⟨fn, _, assign, body, hy, roundIn_of_wpIn hfn (hassign _ x U _ ⟨_, run_beginRound hl (by rw [hrc]), ?_⟩)⟩
      obtain ⟨U2, hU2⟩ : ∃ U2, U2 = U.putObj (w.heap.size + 1) (.loop { rc .ready none with state := .busy }) := ⟨_, rfl⟩
      have hl2 : U2.heap[w.heap.size + 1]? = some (.loop { rc .ready none with state := .busy }) := by rw [hU2]; exact World.putObj_heap_same hlt
      have hd2 : U2.heap[w.heap.size]? = some (.deferred (some [])) := by rw [hU2]; exact (putObj_at (by omega)).trans hd
      have hk2 : ∀ k, ks k → U2.heap[k]? = U.heap[k]? := fun k hk => by rw [hU2]; exact putObj_at (by have := hks k hk; omega)
      have hi2 : I pre U2 := by rw [hU2]; exact hI.putObj _ hi (by omega) hl rfl
      rw [← hU2]
      refine wpIn_mono (hbody _ pre x U2 hi2 hlen) ?_
      rintro e a3 U3 hp
      cases e with
      | normal =>
        obtain ⟨hkf, hkk, hi3⟩ := hp
        have hl3 := hkf.same _ _ (by omega) hl2 rfl
        have hd3 := hkf.same _ _ (by omega) hd2 rfl
        have hr := run_endRound (P := P) none hl3
        rw [hrc] at hr hl3
        refine ⟨_, _, hr, rfl, ?_, fun k hk => (putObj_at (by have := hks k hk; omega)).trans ((hkk k hk).trans (hk2 k hk))⟩
        rw [hJ]
        refine ⟨hI.putObj _ hi3 (by omega) hl3 rfl, ?_, (putObj_at (by omega)).trans hd3⟩
        rw [hrc]
        exact World.putObj_heap_same (Array.getElem?_eq_some_iff.1 hl3).1
      | ret => exact hp.elim
      | exit id => exact hp.elim
      | goto t => exact hp.elim
      | panic c => exact hp.elim
      | outgrown => exact hp.elim
    · rintro e W2 ⟨⟨v, rfl⟩, h⟩
      rw [hJ] at h
      obtain ⟨hi, hl, hd⟩ := h
      have hr := run_endLoop (P := P) hl (by rw [hrc]; simp)
      have hp : (rc .ready none).pending = none := by rw [hrc]
      rw [hp] at hr
      exact ⟨none, _, hr, hdone _ _ (Nat.le_refl _) (hI.putObj _ hi (by omega) hl rfl) ((putObj_at (by omega)).trans hd)⟩
end
end Go.Proofs.YtgidkaidljiddaaDoor
