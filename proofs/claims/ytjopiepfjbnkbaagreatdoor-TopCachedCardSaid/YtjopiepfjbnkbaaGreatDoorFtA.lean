/-
  The plain law of going on to the next block. Conditions: none beyond each theorem's own premises.
-/
import Derived.Test.YtjopiepfjbnkbaaGreatDoorFtM
namespace Go.Proofs.YtjopiepfjbnkbaaGreatDoor
set_option linter.unusedVariables false
namespace Ft
open Nd (B Rt RtB)

/-- q pages of block nx have been looked at, j of them moved to block hd -/
structure Adv (at0 : Int → Option S) (has : Int → Option Int) (W hd nx q : Nat) (fl : List B) (ow : S → Option Int) (at_ : Int → Option S) (j : Nat) : Prop where
  inv : Inv fl ow at_ has W
  ex : ∃ x : B, fl[hd]? = some x ∧ x.done = (j : Int)
  jq : j ≤ q
  low : ∀ n s, at_ n = some s → s.b = nx → q ≤ s.p
  new : ∀ p, p < j → ∃ n, at_ n = some ⟨hd, p⟩
  keep : ∀ b, b ≠ nx → Full at0 b → Full at_ b
theorem Adv.start {at_ : Int → Option S} {has : Int → Option Int} {W hd nx : Nat} {fl : List B} {ow : S → Option Int} (I : Inv fl ow at_ has W) {x : B} (hx : fl[hd]? = some x) (h0 : x.done = 0) : Adv at_ has W hd nx 0 fl ow at_ 0 :=
  ⟨I, ⟨x, hx, h0⟩, Nat.le_refl _, fun n s _ _ => Nat.zero_le _, fun p hp => absurd hp (Nat.not_lt_zero _), fun b _ h => h⟩
theorem Adv.no {at0 at_ : Int → Option S} {has : Int → Option Int} {W hd nx q j : Nat} {fl : List B} {ow : S → Option Int} (A : Adv at0 has W hd nx q fl ow at_ j) (h : ∀ m, at_ m ≠ some ⟨nx, q⟩) : Adv at0 has W hd nx (q + 1) fl (mdel ow ⟨nx, q⟩) at_ j :=
  ⟨A.inv.forget h, A.ex, by have := A.jq; omega, fun n s hs hb => by
    have h1 := A.low n s hs hb
    by_cases e : s.p = q
    · obtain ⟨b, p⟩ := s
      simp only at hb e
      subst hb e
      exact absurd hs (h n)
    · omega, A.new, A.keep⟩
theorem Adv.move {at0 at_ : Int → Option S} {has : Int → Option Int} {W hd nx q j : Nat} {fl : List B} {ow : S → Option Int} (A : Adv at0 has W hd nx q fl ow at_ j) (hne : hd ≠ nx) (hq : q < 4) {m : Int} (hm : at_ m = some ⟨nx, q⟩) {x y : B} (hx : fl[hd]? = some x) (hxj : x.done = (j : Int)) (hy : fl[nx]? = some y) :
    Adv at0 has W hd nx (q + 1) (fl.set hd (x.put (y.at q) j)) (mdel (mup ow ⟨hd, j⟩ m) ⟨nx, q⟩) (mup at_ m ⟨hd, j⟩) (j + 1) := by
  have hj : j < 4 := by have := A.jq; omega
  obtain ⟨h0, h1, _, y', hy', _, _, hh⟩ := A.inv.spot m _ hm
  simp only at hy' hh
  rw [hy] at hy'
  cases hy'
  have P := A.inv.prog hx hj hxj (d := y.at q) h0 h1
  rw [mup_id hh] at P
  have hno : ∀ n, mup at_ m ⟨hd, j⟩ n ≠ some ⟨nx, q⟩ := fun n hn => by
    by_cases e : n = m
    · subst e
      rw [mup_same] at hn
      cases hn
      exact hne rfl
    · rw [mup_other _ _ e] at hn
      exact e (A.inv.one hn hm)
  have hl : hd < fl.length := (List.getElem?_eq_some_iff.1 hx).1
  refine ⟨P.forget hno, ⟨x.put (y.at q) j, by rw [List.getElem?_set, if_pos rfl, if_pos hl], by rw [put_done hj]; omega⟩, by have := A.jq; omega, fun n s hs hb => ?_, fun p hp => ?_, fun b hb hF p hp => ?_⟩
  · by_cases e : n = m
    · subst e
      rw [mup_same] at hs
      cases hs
      exact absurd hb hne
    · rw [mup_other _ _ e] at hs
      have h1 := A.low n s hs hb
      by_cases e2 : s.p = q
      · obtain ⟨b, p⟩ := s
        simp only at hb e2
        subst hb e2
        exact absurd (A.inv.one hs hm) e
      · omega
  · by_cases e : p = j
    · subst e
      exact ⟨m, mup_same _ _ _⟩
    · obtain ⟨n, hn⟩ := A.new p (by omega)
      refine ⟨n, ?_⟩
      rw [mup_other _ _ (fun e2 => by subst e2; rw [hm] at hn; cases hn; exact hne rfl)]
      exact hn
  · obtain ⟨n, hn⟩ := A.keep b hb hF p hp
    refine ⟨n, ?_⟩
    rw [mup_other _ _ (fun e2 => by subst e2; rw [hm] at hn; cases hn; exact hb rfl)]
    exact hn
/-- behind an advance -/
structure Went (at0 : Int → Option S) (has : Int → Option Int) (W hd nx : Nat) (fl : List B) (ow : S → Option Int) (at_ : Int → Option S) : Prop where
  inv : Inv fl ow at_ has W
  blank : ∃ y : B, fl[nx]? = some y ∧ y.done = 0
  full : ∀ x : B, fl[hd]? = some x → x.done = 4 → Full at_ hd
  keep : ∀ b, b ≠ nx → Full at0 b → Full at_ b
theorem Adv.erased {at0 at_ : Int → Option S} {has : Int → Option Int} {W hd nx j : Nat} {fl : List B} {ow : S → Option Int} (A : Adv at0 has W hd nx 4 fl ow at_ j) (hne : hd ≠ nx) {y : B} (hy : fl[nx]? = some y) (hW : W < 1048576) : Went at0 has (W + 1) hd nx (fl.set nx (.blank (y.wear + 1))) ow at_ := by
  have hl : nx < fl.length := (List.getElem?_eq_some_iff.1 hy).1
  refine ⟨A.inv.erase hy hW fun n s hs hb => ?_, ⟨_, by rw [List.getElem?_set, if_pos rfl, if_pos hl], rfl⟩, fun x hx h4 p hp => ?_, A.keep⟩
  · have h1 := A.low n s hs hb
    obtain ⟨_, _, _, _, _, h2, _⟩ := A.inv.spot n s hs
    omega
  · rw [List.getElem?_set, if_neg (fun e => hne e.symm)] at hx
    obtain ⟨x', hx', hd'⟩ := A.ex
    rw [hx] at hx'
    cases hx'
    exact A.new p (by omega)
theorem Went.early {at_ : Int → Option S} {has : Int → Option Int} {W hd nx : Nat} {fl : List B} {ow : S → Option Int} (I : Inv fl ow at_ has W) {x y : B} (hx : fl[hd]? = some x) (h0 : x.done = 0) (hy : fl[nx]? = some y) (hy0 : y.done = 0) : Went at_ has (W + 1) hd nx fl ow at_ :=
  ⟨I.mono (by omega), ⟨y, hy, hy0⟩, fun x' hx' h4 => by rw [hx] at hx'; cases hx'; omega, fun b _ h => h⟩
/-- how often it may go on yet -/
def more (hd : Nat) (fl : List B) (at_ : Int → Option S) (g : Nat) : Prop :=
  ∃ x : B, fl[hd]? = some x ∧ ((x.done = 4 ∧ ∃ j, j ≤ 4 ∧ g = 5 - j ∧ ∀ i, i < j → Full at_ (back hd i)) ∨ (x.done < 4 ∧ g = 0))
theorem more0 {hd : Nat} {fl : List B} {ow : S → Option Int} {at_ : Int → Option S} {has : Int → Option Int} {W : Nat} (I : Inv fl ow at_ has W) (hh : hd < 8) : ∃ g, g ≤ 5 ∧ more hd fl at_ g := by
  obtain ⟨x, hx⟩ : ∃ x, fl[hd]? = some x := ⟨_, List.getElem?_eq_getElem (by rw [I.rt.1]; exact hh)⟩
  have h4 := (I.rt.2 x (List.mem_of_getElem? hx)).d4
  by_cases h : x.done = 4
  · exact ⟨5, by omega, x, hx, .inl ⟨h, 0, by omega, rfl, fun i hi => absurd hi (Nat.not_lt_zero _)⟩⟩
  · exact ⟨0, by omega, x, hx, .inr ⟨by omega, rfl⟩⟩
theorem more_next {hd : Nat} {fl fl' : List B} {ow' : S → Option Int} {at_ at' : Int → Option S} {has : Int → Option Int} {W g : Nat} (hh : hd < 8) {x : B} (hx : fl[hd]? = some x) (h4 : x.done = 4) (M : more hd fl at_ g) (V : Went at_ has W ((hd + 1) % 8) (((hd + 1) % 8 + 1) % 8) fl' ow' at') : ∃ g', g' < g ∧ more ((hd + 1) % 8) fl' at' g' := by
  obtain ⟨x', hx', hM⟩ := M
  rw [hx] at hx'
  cases hx'
  rcases hM with ⟨_, j, hj, rfl, hF⟩ | ⟨h, _⟩
  · obtain ⟨z, hz⟩ : ∃ z, fl'[(hd + 1) % 8]? = some z := ⟨_, List.getElem?_eq_getElem (by rw [V.inv.rt.1]; omega)⟩
    have z4 := (V.inv.rt.2 z (List.mem_of_getElem? hz)).d4
    by_cases h : z.done = 4
    · have hF' : ∀ i, i < j + 1 → Full at' (back ((hd + 1) % 8) i) := fun i hi => by
        cases i with
        | zero =>
          rw [back_zero (by omega)]
          exact V.full z hz h
        | succ i =>
          rw [back_succ hh (by omega)]
          exact V.keep _ (back_ne hh (by omega)) (hF i (by omega))
      by_cases h5 : j = 4
      · subst h5
        exact (not_five V.inv (by omega) hF').elim
      · exact ⟨5 - (j + 1), by omega, z, hz, .inl ⟨h, j + 1, by omega, rfl, hF'⟩⟩
    · exact ⟨0, by omega, z, hz, .inr ⟨by omega, rfl⟩⟩
  · omega
end Ft
end Go.Proofs.YtjopiepfjbnkbaaGreatDoor
