/-
  The plain law of pages that may be written again and again, over a flash: what stays true, operation by operation.
-/
import Derived.Test.YtjopiepfjbnkbaaGreatDoorNdM
import Derived.Test.YtjopiepfjbnkbaaGreatDoorMap
namespace Go.Proofs.YtjopiepfjbnkbaaGreatDoor
namespace Ft
open Nd
set_option linter.unusedVariables false

/-- a spot: block and page -/
structure S where
  (b p : Nat)
deriving DecidableEq
structure O where
  (kind n data : Int)

/-- flash, owners of spots, spots of numbers, what each number has -/
structure Inv (fl : List B) (ow : S → Option Int) (at_ : Int → Option S) (has : Int → Option Int) (W : Nat) : Prop where
  rt : Rt fl
  spot : ∀ n s, at_ n = some s → 0 ≤ n ∧ n < 16 ∧ ow s = some n ∧ ∃ x : B, fl[s.b]? = some x ∧ s.p < 4 ∧ (s.p : Int) < x.done ∧ has n = some (x.at s.p)
  no : ∀ n, at_ n = none → has n = none
  wear : ∀ x ∈ fl, x.wear ≤ (W : Int)
  own : ∀ s m, ow s = some m → (s.b < 8 ∧ s.p < 4) ∧ 0 ≤ m ∧ m < 16
/-- a block all of whose pages are needed -/
def Full (at_ : Int → Option S) (b : Nat) : Prop := ∀ p, p < 4 → ∃ n, at_ n = some ⟨b, p⟩

theorem inv0 : Inv new8 (fun _ => none) (fun _ => none) (fun _ => none) 0 :=
  ⟨rt_new, fun n s h => (by cases h), fun n _ => rfl, fun x hx => by
    rw [List.eq_of_mem_replicate hx]
    exact Int.le_refl _, fun s m h => (by cases h)⟩
theorem Inv.mono {fl : List B} {ow : S → Option Int} {at_ : Int → Option S} {has : Int → Option Int} {W W' : Nat} (I : Inv fl ow at_ has W) (h : W ≤ W') : Inv fl ow at_ has W' :=
  ⟨I.rt, I.spot, I.no, fun x hx => Int.le_trans (I.wear x hx) (by omega), I.own⟩
theorem put_at {x : B} {v : Int} {p : Nat} (hp : p < 4) : (x.put v p).at p = v := by
  match p, hp with
  | 0, _ => rfl
  | 1, _ => rfl
  | 2, _ => rfl
  | 3, _ => rfl
theorem put_at' {x : B} {v : Int} {p q : Nat} (hp : p < 4) (hq : q < p) : (x.put v p).at q = x.at q := by
  match p, hp with
  | 0, _ => omega
  | 1, _ => (match q, hq with | 0, _ => rfl)
  | 2, _ => (match q, hq with | 0, _ => rfl | 1, _ => rfl)
  | 3, _ => (match q, hq with | 0, _ => rfl | 1, _ => rfl | 2, _ => rfl)
theorem put_done {x : B} {v : Int} {p : Nat} (hp : p < 4) : (x.put v p).done = (p : Int) + 1 := by
  match p, hp with
  | 0, _ => rfl
  | 1, _ => rfl
  | 2, _ => rfl
  | 3, _ => rfl
theorem put_wear {x : B} {v : Int} {p : Nat} (hp : p < 4) : (x.put v p).wear = x.wear := by
  match p, hp with
  | 0, _ => rfl
  | 1, _ => rfl
  | 2, _ => rfl
  | 3, _ => rfl
/-- a page is programmed -/
theorem Inv.prog {fl : List B} {ow : S → Option Int} {at_ : Int → Option S} {has : Int → Option Int} {W : Nat} (I : Inv fl ow at_ has W) {hd p : Nat} {x : B} (hx : fl[hd]? = some x) (hp : p < 4) (hd' : x.done = (p : Int)) {n d : Int} (h0 : 0 ≤ n) (h1 : n < 16) :
    Inv (fl.set hd (x.put d p)) (mup ow ⟨hd, p⟩ n) (mup at_ n ⟨hd, p⟩) (mup has n d) W := by
  have hl : hd < fl.length := (List.getElem?_eq_some_iff.1 hx).1
  have hxm := List.mem_of_getElem? hx
  refine ⟨rt_set I.rt _ (rt_put (I.rt.2 x hxm) hp hd' d), fun m s h => ?_, fun m h => ?_, fun y hy => ?_, fun s m h => ?_⟩
  · by_cases hm : m = n
    · subst hm
      rw [mup_same] at h
      cases h
      exact ⟨h0, h1, mup_same _ _ _, x.put d p, by rw [List.getElem?_set, if_pos rfl, if_pos hl], hp, by rw [put_done hp]; show (p : Int) < _; omega, by rw [mup_same]; show some d = some ((x.put d p).at p); rw [put_at hp]⟩
    · rw [mup_other _ _ hm] at h
      obtain ⟨a, b, c, y, hy, e, f, g⟩ := I.spot m s h
      have hs : s ≠ ⟨hd, p⟩ := fun e1 => by
        subst e1
        simp only at hy f
        rw [hx] at hy
        cases hy
        omega
      refine ⟨a, b, by rw [mup_other _ _ hs]; exact c, ?_⟩
      rw [mup_other _ _ hm]
      by_cases hb : s.b = hd
      · rw [hb, hx] at hy
        cases hy
        have hq : s.p < p := by omega
        exact ⟨x.put d p, by rw [hb, List.getElem?_set, if_pos rfl, if_pos hl], e, by rw [put_done hp]; omega, by rw [put_at' hp hq]; exact g⟩
      · exact ⟨y, by rw [List.getElem?_set, if_neg (fun e => hb e.symm)]; exact hy, e, f, g⟩
  · by_cases hm : m = n
    · subst hm
      rw [mup_same] at h
      cases h
    · rw [mup_other _ _ hm] at h ⊢
      exact I.no m h
  · rcases List.mem_or_eq_of_mem_set hy with hy | rfl
    · exact I.wear y hy
    · rw [put_wear hp]
      exact I.wear x hxm
  · by_cases hs : s = ⟨hd, p⟩
    · subst hs
      rw [mup_same] at h
      cases h
      have := I.rt.1
      exact ⟨⟨by show hd < 8; omega, hp⟩, h0, h1⟩
    · rw [mup_other _ _ hs] at h
      exact I.own s m h
theorem mup_id {K α : Type} [DecidableEq K] {h : K → Option α} {x : K} {a : α} (e : h x = some a) : mup h x a = h := by
  funext y
  by_cases hy : y = x
  · subst hy; rw [mup_same, e]
  · rw [mup_other _ _ hy]
/-- a block is erased, of which no page is needed -/
theorem Inv.erase {fl : List B} {ow : S → Option Int} {at_ : Int → Option S} {has : Int → Option Int} {W : Nat} (I : Inv fl ow at_ has W) {b : Nat} {x : B} (hx : fl[b]? = some x) (hW : W < 1048576) (hno : ∀ n s, at_ n = some s → s.b ≠ b) :
    Inv (fl.set b (.blank (x.wear + 1))) ow at_ has (W + 1) := by
  have hxm := List.mem_of_getElem? hx
  have hw0 := (I.rt.2 x hxm).w0
  have hw1 := I.wear x hxm
  refine ⟨rt_set I.rt _ (rt_blank (by omega) (by omega)), fun n s h => ?_, I.no, fun y hy => ?_, I.own⟩
  · obtain ⟨a, b', c, y, hy, e⟩ := I.spot n s h
    exact ⟨a, b', c, y, by rw [List.getElem?_set, if_neg (fun e1 => hno n s h e1.symm)]; exact hy, e⟩
  · rcases List.mem_or_eq_of_mem_set hy with hy | rfl
    · have := I.wear y hy; omega
    · simp only [B.blank]; omega
/-- owners of spots that no number has are forgotten -/
theorem Inv.forget {fl : List B} {ow : S → Option Int} {at_ : Int → Option S} {has : Int → Option Int} {W : Nat} (I : Inv fl ow at_ has W) {s : S} (hno : ∀ n, at_ n ≠ some s) : Inv fl (mdel ow s) at_ has W :=
  ⟨I.rt, fun n t h => by
    obtain ⟨a, b, c, r⟩ := I.spot n t h
    exact ⟨a, b, by rw [mdel_other _ (fun e => hno n (by rw [h, e]))]; exact c, r⟩, I.no, I.wear, fun t m h => by
    by_cases ht : t = s
    · subst ht; rw [mdel_same] at h; cases h
    · rw [mdel_other _ ht] at h
      exact I.own t m h⟩
/-- a number has nothing any more -/
theorem Inv.trim {fl : List B} {ow : S → Option Int} {at_ : Int → Option S} {has : Int → Option Int} {W : Nat} (I : Inv fl ow at_ has W) (n : Int) : Inv fl ow (mdel at_ n) (mdel has n) W :=
  ⟨I.rt, fun m t h => by
    by_cases hm : m = n
    · subst hm; rw [mdel_same] at h; cases h
    · rw [mdel_other _ hm] at h ⊢
      exact I.spot m t h, fun m h => by
    by_cases hm : m = n
    · subst hm; exact mdel_same _ _
    · rw [mdel_other _ hm] at h ⊢
      exact I.no m h, I.wear, I.own⟩
/-- the one number of a spot -/
theorem Inv.one {fl : List B} {ow : S → Option Int} {at_ : Int → Option S} {has : Int → Option Int} {W : Nat} (I : Inv fl ow at_ has W) {n m : Int} {s : S} (hn : at_ n = some s) (hm : at_ m = some s) : n = m := by
  have h1 := (I.spot n s hn).2.2.1
  have h2 := (I.spot m s hm).2.2.1
  rw [h1] at h2
  exact Option.some.inj h2

/-! how many blocks may be full -/
theorem nodup_len : ∀ (N : Nat) (l : List Int), l.Nodup → (∀ x ∈ l, 0 ≤ x ∧ x < (N : Int)) → l.length ≤ N
  | 0, l, _, h => by
    cases l with
    | nil => simp
    | cons x t => have := h x (by simp); omega
  | N + 1, l, hnd, h => by
    have h1 := nodup_len N (l.filter fun x => decide (x < (N : Int))) (hnd.sublist List.filter_sublist) (fun x hx => by
      have := List.mem_filter.1 hx
      have h2 := h x this.1
      exact ⟨h2.1, of_decide_eq_true this.2⟩)
    have h2 : ∀ l : List Int, l.Nodup → (∀ x ∈ l, x < (N : Int) + 1) → l.length ≤ (l.filter fun x => decide (x < (N : Int))).length + 1 := by
      intro l
      induction l with
      | nil => simp
      | cons y t ih =>
        intro hn hb
        have ih' := ih (List.nodup_cons.1 hn).2 (fun x hx => hb x (by simp [hx]))
        rw [List.filter_cons]
        by_cases hy : y < (N : Int)
        · rw [if_pos (by simpa using hy)]
          simp only [List.length_cons]
          omega
        · rw [if_neg (by simpa using hy)]
          have he : t.filter (fun x => decide (x < (N : Int))) = t := by
            rw [List.filter_eq_self]
            intro x hx
            have h3 := hb x (by simp [hx])
            have h4 := hb y (by simp)
            have h5 : x ≠ y := fun e => (List.nodup_cons.1 hn).1 (e ▸ hx)
            simp only [decide_eq_true_eq]
            omega
          rw [he]
          simp
    have := h2 l hnd (fun x hx => by have := (h x hx).2; simpa using this)
    omega
theorem spots_len {fl : List B} {ow : S → Option Int} {at_ : Int → Option S} {has : Int → Option Int} {W : Nat} (I : Inv fl ow at_ has W) : ∀ (l : List S), l.Nodup → (∀ s ∈ l, ∃ n, at_ n = some s) → ∃ ns : List Int, ns.Nodup ∧ ns.length = l.length ∧ ∀ n, n ∈ ns → ∃ s ∈ l, at_ n = some s
  | [], _, _ => ⟨[], List.nodup_nil, rfl, by simp⟩
  | s :: t, hnd, h => by
    obtain ⟨ns, h1, h2, h3⟩ := spots_len I t (List.nodup_cons.1 hnd).2 (fun x hx => h x (by simp [hx]))
    obtain ⟨n, hn⟩ := h s (by simp)
    refine ⟨n :: ns, List.nodup_cons.2 ⟨fun hm => ?_, h1⟩, by simp [h2], fun m hm => ?_⟩
    · obtain ⟨s', hs', hn'⟩ := h3 n hm
      rw [hn] at hn'
      cases hn'
      exact (List.nodup_cons.1 hnd).1 hs'
    · rcases List.mem_cons.1 hm with rfl | hm
      · exact ⟨s, by simp, hn⟩
      · obtain ⟨s', hs', hn'⟩ := h3 m hm
        exact ⟨s', by simp [hs'], hn'⟩
/-- the j blocks up to hd -/
def back (hd i : Nat) : Nat := (hd + 8 - i) % 8
theorem not_five {fl : List B} {ow : S → Option Int} {at_ : Int → Option S} {has : Int → Option Int} {W : Nat} (I : Inv fl ow at_ has W) {hd : Nat} (hh : hd < 8) (h : ∀ i, i < 5 → Full at_ (back hd i)) : False := by
  let l : List S := ((List.range 5).map fun i => (List.range 4).map fun p => (⟨back hd i, p⟩ : S)).flatten
  have hl : l.length = 20 := rfl
  have hnd : l.Nodup := by
    have : ∀ k : Fin 8, (((List.range 5).map fun i => (List.range 4).map fun p => (⟨back k.1 i, p⟩ : S)).flatten).Nodup := by decide +kernel
    exact this ⟨hd, hh⟩
  obtain ⟨ns, h1, h2, h3⟩ := spots_len I l hnd (fun s hs => by
    obtain ⟨r, hr, hs⟩ := List.mem_flatten.1 hs
    obtain ⟨i, hi, rfl⟩ := List.mem_map.1 hr
    obtain ⟨p, hp, rfl⟩ := List.mem_map.1 hs
    exact h i (List.mem_range.1 hi) p (List.mem_range.1 hp))
  have h4 := nodup_len 16 ns h1 (fun n hn => by
    obtain ⟨s, _, hs⟩ := h3 n hn
    obtain ⟨a, b, _⟩ := I.spot n s hs
    exact ⟨a, b⟩)
  omega
theorem back_zero {hd : Nat} (h : hd < 8) : back hd 0 = hd := by unfold back; omega
theorem back_succ {hd i : Nat} (h : hd < 8) (hi : i < 7) : back ((hd + 1) % 8) (i + 1) = back hd i := by unfold back; omega
theorem back_ne {hd i : Nat} (h : hd < 8) (hi : i < 5) : back hd i ≠ ((hd + 1) % 8 + 1) % 8 := by unfold back; omega
theorem back_ne1 {hd i : Nat} (h : hd < 8) (hi : i < 5) : back hd i ≠ (hd + 1) % 8 := by unfold back; omega
end Ft
end Go.Proofs.YtjopiepfjbnkbaaGreatDoor
