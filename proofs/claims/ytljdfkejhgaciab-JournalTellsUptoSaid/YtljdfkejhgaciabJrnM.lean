/-
  Reading records back: the plain law, and words for a list of owned slices.
-/
import Derived.Test.YtljdfkejhgaciabJrnW
namespace Go.Proofs.Ytljdfkejhgaciab
open Go.RowKit
namespace Jrn
open Crc

def seg (l : List Nat) (a k : Nat) : List Nat := (l.drop a).take k
/-- the record that stands at a -/
def stepJ (l : List Nat) (a : Nat) : Option (List Nat) :=
  if a < l.length ∧ a + l.getD a 0 + 3 ≤ l.length ∧ seg l a (l.getD a 0 + 3) = (writeE (seg l (a + 1) (l.getD a 0))).1 then some (seg l (a + 1) (l.getD a 0)) else none
def runJ (l : List Nat) : Nat → Nat → List (List Nat) → List (List Nat) × Nat
  | 0, a, out => (out, a)
  | f + 1, a, out => match stepJ l a with
    | none => (out, a)
    | some r => runJ l f (a + r.length + 3) (out ++ [r])
def readE (l : List Nat) : List (List Nat) × Nat := runJ l (l.length + 1) 0 []
/-- the loops' relation -/
def ReadTo (l : List Nat) (a : Nat) (out : List (List Nat)) : Prop := ∃ f, l.length < f + a ∧ readE l = runJ l f a out
theorem readTo_start (l : List Nat) : ReadTo l 0 [] := ⟨l.length + 1, by omega, rfl⟩
theorem readTo_step {l : List Nat} {a : Nat} {out : List (List Nat)} {r : List Nat} (h : ReadTo l a out) (hs : stepJ l a = some r) (ha : a < l.length) : ReadTo l (a + r.length + 3) (out ++ [r]) := by
  obtain ⟨f, hf, he⟩ := h
  cases f with
  | zero => omega
  | succ f => exact ⟨f, by omega, by rw [he, runJ, hs]⟩
theorem readTo_end {l : List Nat} {a : Nat} {out : List (List Nat)} (h : ReadTo l a out) (hs : stepJ l a = none) : readE l = (out, a) := by
  obtain ⟨f, hf, he⟩ := h
  cases f with
  | zero => rw [he, runJ]
  | succ f => rw [he, runJ, hs]

theorem seg_len {l : List Nat} {a k : Nat} (h : a + k ≤ l.length) : (seg l a k).length = k := by unfold seg; rw [List.length_take, List.length_drop]; omega
theorem seg_small {l : List Nat} {a k : Nat} (h : ∀ x ∈ l, x < 256) : ∀ x ∈ seg l a k, x < 256 := fun x hx => h x (List.mem_of_mem_drop (List.mem_of_mem_take hx))
theorem seg_cons {l : List Nat} {a k : Nat} (h : a < l.length) : seg l a (k + 1) = l.getD a 0 :: seg l (a + 1) k := by
  unfold seg
  rw [List.drop_eq_getElem_cons h, List.take_succ_cons, List.getD_eq_getElem?_getD, List.getElem?_eq_getElem h]
  rfl
theorem getD_lt {l : List Nat} (hb : ∀ x ∈ l, x < 256) (a : Nat) : l.getD a 0 < 256 := by
  rw [List.getD_eq_getElem?_getD]
  cases h : l[a]? with
  | none => simp
  | some x => simpa using hb x (List.mem_of_getElem? h)

/-- Open at a record is the step -/
theorem open_step {l : List Nat} {a q : Nat} (hb : ∀ x ∈ l, x < 256) (ha : a < l.length) (hq : l.getD a 0 = q) (he : a + q + 3 ≤ l.length) :
    (∃ r, stepJ l a = some r ∧ r.length = q ∧ openE (seg l a (q + 3)) = (q :: r, 0) ∧ (∀ x ∈ r, x < 256)) ∨ (stepJ l a = none ∧ openE (seg l a (q + 3)) = ([], 7)) := by
  have hlen := seg_len (l := l) (a := a) (k := q + 3) (by omega)
  have q8 := getD_lt hb a
  rw [hq] at q8
  have hs := openE_seal hlen (by omega) (by omega) (seg_small hb)
  have htk : (seg l a (q + 3)).take (q + 3 - 2) = q :: seg l (a + 1) q := by
    rw [show q + 3 - 2 = q + 1 by omega]
    have : (seg l a (q + 3)).take (q + 1) = seg l a (q + 1) := by unfold seg; rw [List.take_take]; congr 1; omega
    rw [this, seg_cons ha, hq]
  rw [htk] at hs
  have hrl := seg_len (l := l) (a := a + 1) (k := q) (by omega)
  have hw : (writeE (seg l (a + 1) q)).1 = (q :: seg l (a + 1) q) ++ tail2 (sumB 65535 (q :: seg l (a + 1) q)) := by
    rw [writeE_yes (by omega), hrl]
  unfold stepJ
  rw [hq, hw]
  by_cases hc : seg l a (q + 3) = (q :: seg l (a + 1) q) ++ tail2 (sumB 65535 (q :: seg l (a + 1) q))
  · left
    refine ⟨seg l (a + 1) q, by rw [if_pos ⟨ha, he, hc⟩], hrl, ?_, seg_small hb⟩
    rw [hs, if_pos hc.symm]
  · right
    exact ⟨by rw [if_neg (fun h => hc h.2.2)], by rw [hs, if_neg (fun h => hc h.symm)]⟩
theorem step_out {l : List Nat} {a : Nat} (h : ¬ (a < l.length ∧ a + l.getD a 0 + 3 ≤ l.length)) : stepJ l a = none := by
  unfold stepJ
  rw [if_neg (fun hh => h ⟨hh.1, hh.2.1⟩)]

theorem Rd_seg {w : World} {B a k n b off : Nat} {l : List Nat} (h : Rd w B 1 (some ⟨b, off, none⟩) n (l.flatMap bcell)) (hl : l.length = n) (hk : a + k ≤ n) : Rd w B 1 (some ⟨b, off + a, none⟩) k ((seg l a k).flatMap bcell) := by
  refine ⟨by rw [bcell_flat_len, seg_len (by omega)]; omega, fun h0 => ?_⟩
  obtain ⟨b', off', e, hb, hc⟩ := h.2 (by omega)
  injection e with e
  injection e with e1 e2
  subst e1 e2
  refine ⟨b, off + a, rfl, hb, fun j u hu => ?_⟩
  rw [Nat.add_assoc]
  refine hc (a + j) u ?_
  rw [bcell_at] at hu ⊢
  unfold seg at hu
  rw [List.getElem?_take] at hu
  split at hu
  · rwa [List.getElem?_drop] at hu
  · cases hu

/-- slices of bytes of the call's own -/
def Held (w : World) (base : Nat) (vals : List Value) (recs : List (List Nat)) : Prop :=
  vals.length = recs.length ∧ ∀ (j : Nat) (v : Value) (r : List Nat), vals[j]? = some v → recs[j]? = some r → w.ownsRow base 5 1 v r.length (r.flatMap bcell)
theorem Held.nil_ {w : World} {base : Nat} : Held w base [] [] := ⟨rfl, by simp⟩
theorem Held.below {w w' : World} {base : Nat} {vals : List Value} {recs : List (List Nat)} (h : Held w base vals recs) (hb : Below w.heap.size w w') : Held w' base vals recs :=
  ⟨h.1, fun j v r h1 h2 => own_below (h.2 j v r h1 h2) hb⟩
theorem Held.snoc {w : World} {base : Nat} {vals : List Value} {recs : List (List Nat)} {v : Value} {r : List Nat} (h : Held w base vals recs) (hv : w.ownsRow base 5 1 v r.length (r.flatMap bcell)) : Held w base (vals ++ [v]) (recs ++ [r]) := by
  refine ⟨by simp [h.1], fun j u s h1 h2 => ?_⟩
  by_cases hj : j < vals.length
  · rw [List.getElem?_append_left hj] at h1
    rw [List.getElem?_append_left (by rw [← h.1]; exact hj)] at h2
    exact h.2 j u s h1 h2
  · rw [List.getElem?_append_right (by omega)] at h1
    rw [List.getElem?_append_right (by rw [← h.1]; omega), ← h.1] at h2
    have hj0 : j - vals.length = 0 := by
      have := (List.getElem?_eq_some_iff.1 h1).1
      simp at this
      omega
    rw [hj0] at h1 h2
    simp at h1 h2
    subst h1 h2
    exact hv
/-- an append onto a row of slices turns no row of bytes -/
theorem own_grown {w w' : World} {base base' E E' C C' n n' : Nat} {v v' : Value} {xs xs' : List Value} (h : w.ownsRow base E C v n xs) (ho : w.ownsRow base' E' C' v' n' xs') (hg : w.grownBy w' v'.ownBlock) (hE : E ≠ E') : w'.ownsRow base E C v n xs := by
  obtain ⟨h1, h2⟩ := h
  refine ⟨h1, ?_⟩
  rcases h2 with h2 | ⟨g, cap, cur, hv, hge, hh, r⟩
  · exact .inl h2
  · refine .inr ⟨g, cap, cur, hv, hge, ?_, r⟩
    have hlt : g < w.heap.size := by
      rcases Nat.lt_or_ge g w.heap.size with h3 | h3
      · exact h3
      · rw [Array.getElem?_eq_none h3] at hh; cases hh
    rw [hg.block g hlt]
    · exact hh
    · intro e
      rcases ho.2 with ⟨rfl, _⟩ | ⟨g', cap', cur', rfl, _, hh', _⟩
      · simp [Value.ownBlock] at e
      · simp [Value.ownBlock] at e
        subst e
        rw [hh] at hh'
        injection hh' with hh'
        injection hh' with _ ht
        exact hE ht
theorem Held.grown {w w' : World} {base base' C' n' : Nat} {v' : Value} {xs' : List Value} {vals : List Value} {recs : List (List Nat)} (h : Held w base vals recs) (ho : w.ownsRow base' 23 C' v' n' xs') (hg : w.grownBy w' v'.ownBlock) : Held w' base vals recs :=
  ⟨h.1, fun j v r h1 h2 => own_grown (h.2 j v r h1 h2) ho hg (by decide)⟩
theorem Held.one {w : World} {base : Nat} {vals : List Value} {recs : List (List Nat)} (h : Held w base vals recs) : ∀ u ∈ vals, u.oneCell' = true := by
  intro u hu
  obtain ⟨j, hj, rfl⟩ := List.getElem_of_mem hu
  have := h.2 j _ _ (List.getElem?_eq_getElem hj) (List.getElem?_eq_getElem (by rw [← h.1]; exact hj))
  obtain ⟨A, c, e⟩ := own_slice this
  rw [e]
  rfl
end Jrn
end Go.Proofs.Ytljdfkejhgaciab
