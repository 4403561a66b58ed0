/-
  Walk of dedup.store's do: every way through one operation. Conditions: none beyond each theorem's own premises.
-/
import Derived.Test.YtmbkonhclniolaaDdW
import Derived.Test.YtmbkonhclniolaaTail
import Derived.BigRegion
namespace Go.Proofs.Ytmbkonhclniolaa
open Go.RowKit
set_option linter.unusedVariables false
namespace Dd

/-- the two maps tell of the places -/
structure Rel (l : S) (bl : List Nat) (h : Int → Option Nat) (m : ByteArray → Option Int) : Prop where
  len : bl.length = l.length
  obj : ∀ x g, h x = some g ↔ ∃ (i : Nat) (d : ByteArray) (r : Nat), x = (i : Int) + 1 ∧ l[i]? = some (d, r + 1) ∧ bl[i]? = some g
  num : ∀ d v, m d = some v ↔ ∃ i r : Nat, v = (i : Int) + 1 ∧ l[i]? = some (d, r + 1)
def oc (g : Nat) (d : ByteArray) (r : Nat) : It := .cells g 120 [.string d, .int .i64 (r : Int)]
def objs (l : S) (bl : List Nat) : List It := List.zipWith (fun p g => oc g p.1 p.2) l bl
theorem objs_at {l : S} {bl : List Nat} {i g r : Nat} {d : ByteArray} (h1 : l[i]? = some (d, r)) (h2 : bl[i]? = some g) : (objs l bl)[i]? = some (oc g d r) := by
  unfold objs
  rw [List.getElem?_zipWith, h1, h2]
theorem objs_set {l : S} {bl : List Nat} {i g r : Nat} {d : ByteArray} : objs (l.set i (d, r)) (bl.set i g) = (objs l bl).set i (oc g d r) := by
  unfold objs
  refine List.ext_getElem? fun j => ?_
  rw [List.getElem?_zipWith, List.getElem?_set, List.getElem?_set, List.getElem?_set, List.length_zipWith, List.getElem?_zipWith]
  by_cases hij : i = j
  · subst hij
    rw [if_pos rfl, if_pos rfl, if_pos rfl]
    by_cases h1 : i < l.length <;> by_cases h2 : i < bl.length <;> simp [h1, h2] <;> omega
  · rw [if_neg hij, if_neg hij, if_neg hij]
theorem objs_snoc {l : S} {bl : List Nat} {g r : Nat} {d : ByteArray} (h : bl.length = l.length) : objs (l ++ [(d, r)]) (bl ++ [g]) = objs l bl ++ [oc g d r] := by
  unfold objs
  rw [List.zipWith_append h.symm]
  rfl
theorem objs_len {l : S} {bl : List Nat} (h : bl.length = l.length) : (objs l bl).length = l.length := by
  unfold objs
  rw [List.length_zipWith, h, Nat.min_self]
theorem set_same {α : Type} {l : List α} {i : Nat} {x : α} (h : l[i]? = some x) : l.set i x = l := by
  obtain ⟨hl, hx⟩ := List.getElem?_eq_some_iff.1 h
  rw [← hx, List.set_getElem_self]

theorem Rel.none_num {l : S} {bl : List Nat} {h : Int → Option Nat} {m : ByteArray → Option Int} (R : Rel l bl h m) {d : ByteArray} (hno : ∀ (j r : Nat), l[j]? ≠ some (d, r + 1)) : m d = none := by
  cases hm : m d with
  | none => rfl
  | some v =>
    obtain ⟨i, r, _, hi⟩ := (R.num d v).1 hm
    exact absurd hi (hno i r)
theorem Rel.none_obj {l : S} {bl : List Nat} {h : Int → Option Nat} {m : ByteArray → Option Int} (R : Rel l bl h m) {x : Int} (hno : ∀ (i : Nat) (d : ByteArray) (r : Nat), l[i]? = some (d, r + 1) → x ≠ (i : Int) + 1) : h x = none := by
  cases hm : h x with
  | none => rfl
  | some v =>
    obtain ⟨i, d, r, hx, hi, _⟩ := (R.obj x v).1 hm
    exact absurd hx (hno i d r hi)
theorem Rel.some_obj {l : S} {bl : List Nat} {h : Int → Option Nat} {m : ByteArray → Option Int} (R : Rel l bl h m) {i r : Nat} {d : ByteArray} (hi : l[i]? = some (d, r + 1)) : ∃ g, bl[i]? = some g ∧ h ((i : Int) + 1) = some g := by
  have hl := (List.getElem?_eq_some_iff.1 hi).1
  obtain ⟨g, hg⟩ : ∃ g, bl[i]? = some g := ⟨_, List.getElem?_eq_getElem (by rw [R.len]; exact hl)⟩
  exact ⟨g, hg, (R.obj _ _).2 ⟨i, d, r, rfl, hi, hg⟩⟩

theorem snd_of {l : S} {i r r' : Nat} {d d' : ByteArray} (h : l[i]? = some (d, r)) (h' : l[i]? = some (d', r')) : d = d' ∧ r = r' := by
  rw [h] at h'
  cases h'
  exact ⟨rfl, rfl⟩
/-- kept once more or less, but kept -/
theorem Rel.bump {l : S} {bl : List Nat} {h : Int → Option Nat} {m : ByteArray → Option Int} (R : Rel l bl h m) {i r r' : Nat} {d : ByteArray} (hi : l[i]? = some (d, r + 1)) : Rel (l.set i (d, r' + 1)) bl h m := by
  have hl := (List.getElem?_eq_some_iff.1 hi).1
  have at_ : ∀ (j : Nat) (d' : ByteArray), (∃ q, (l.set i (d, r' + 1))[j]? = some (d', q + 1)) ↔ ∃ q, l[j]? = some (d', q + 1) := by
    intro j d'
    rw [List.getElem?_set]
    by_cases hij : i = j
    · subst hij
      rw [if_pos rfl, if_pos hl]
      exact ⟨fun ⟨q, e⟩ => ⟨r, by cases e; exact hi⟩, fun ⟨q, e⟩ => ⟨r', by rw [(snd_of hi e).1]⟩⟩
    · rw [if_neg hij]
  refine ⟨by rw [List.length_set, R.len], fun x g => ?_, fun d' v => ?_⟩
  · rw [R.obj]
    constructor
    · rintro ⟨j, d', q, e, hj, hb⟩
      obtain ⟨q', hq⟩ := (at_ j d').2 ⟨q, hj⟩
      exact ⟨j, d', q', e, hq, hb⟩
    · rintro ⟨j, d', q, e, hj, hb⟩
      obtain ⟨q', hq⟩ := (at_ j d').1 ⟨q, hj⟩
      exact ⟨j, d', q', e, hq, hb⟩
  · rw [R.num]
    constructor
    · rintro ⟨j, q, e, hj⟩
      obtain ⟨q', hq⟩ := (at_ j d').2 ⟨q, hj⟩
      exact ⟨j, q', e, hq⟩
    · rintro ⟨j, q, e, hj⟩
      obtain ⟨q', hq⟩ := (at_ j d').1 ⟨q, hj⟩
      exact ⟨j, q', e, hq⟩
/-- kept for the first time, at a place that was not -/
theorem Rel.first {l : S} {bl : List Nat} {h : Int → Option Nat} {m : ByteArray → Option Int} (R : Rel l bl h m) {i g : Nat} {d d0 : ByteArray} (hi : l[i]? = some (d0, 0)) (hno : ∀ (j r : Nat), l[j]? ≠ some (d, r + 1)) :
    Rel (l.set i (d, 1)) (bl.set i g) (mup h ((i : Int) + 1) g) (mup m d ((i : Int) + 1)) := by
  have hl := (List.getElem?_eq_some_iff.1 hi).1
  have hlb : i < bl.length := by rw [R.len]; exact hl
  refine ⟨by rw [List.length_set, List.length_set, R.len], fun x g' => ?_, fun d' v => ?_⟩
  · by_cases hx : x = (i : Int) + 1
    · subst hx
      rw [mup_same]
      constructor
      · intro e
        cases e
        exact ⟨i, d, 0, rfl, by rw [List.getElem?_set, if_pos rfl, if_pos hl], by rw [List.getElem?_set, if_pos rfl, if_pos hlb]⟩
      · rintro ⟨j, d', q, e, hj, hb⟩
        obtain rfl : j = i := by omega
        rw [List.getElem?_set, if_pos rfl, if_pos hlb] at hb
        exact hb
    · rw [mup_other _ _ hx, R.obj]
      constructor
      · rintro ⟨j, d', q, e, hj, hb⟩
        have hij : ¬ i = j := fun e' => hx (by rw [e, e'])
        exact ⟨j, d', q, e, by rw [List.getElem?_set, if_neg hij]; exact hj, by rw [List.getElem?_set, if_neg hij]; exact hb⟩
      · rintro ⟨j, d', q, e, hj, hb⟩
        have hij : ¬ i = j := fun e' => hx (by rw [e, e'])
        rw [List.getElem?_set, if_neg hij] at hj hb
        exact ⟨j, d', q, e, hj, hb⟩
  · by_cases hd : d' = d
    · subst hd
      rw [mup_same]
      constructor
      · intro e
        cases e
        exact ⟨i, 0, rfl, by rw [List.getElem?_set, if_pos rfl, if_pos hl]⟩
      · rintro ⟨j, q, rfl, hj⟩
        rcases get_set hj with ⟨rfl, _, _⟩ | ⟨_, hj⟩
        · rfl
        · exact absurd hj (hno _ _)
    · rw [mup_other _ _ hd, R.num]
      constructor
      · rintro ⟨j, q, e, hj⟩
        refine ⟨j, q, e, ?_⟩
        rw [List.getElem?_set, if_neg]
        · exact hj
        · rintro rfl
          rw [hi] at hj
          cases hj
      · rintro ⟨j, q, e, hj⟩
        rcases get_set hj with ⟨rfl, e', _⟩ | ⟨_, hj⟩
        · cases e'; exact absurd rfl hd
        · exact ⟨j, q, e, hj⟩
theorem Rel.snoc {l : S} {bl : List Nat} {h : Int → Option Nat} {m : ByteArray → Option Int} (R : Rel l bl h m) {g : Nat} {d : ByteArray} (hno : ∀ (j r : Nat), l[j]? ≠ some (d, r + 1)) :
    Rel (l ++ [(d, 1)]) (bl ++ [g]) (mup h ((l.length : Int) + 1) g) (mup m d ((l.length : Int) + 1)) := by
  have old : ∀ (j : Nat) (p : ByteArray × Nat), l[j]? = some p → (l ++ [(d, 1)])[j]? = some p := fun j p hj => by rw [List.getElem?_append, if_pos (List.getElem?_eq_some_iff.1 hj).1]; exact hj
  have oldb : ∀ (j : Nat) (p : Nat), bl[j]? = some p → (bl ++ [g])[j]? = some p := fun j p hj => by rw [List.getElem?_append, if_pos (List.getElem?_eq_some_iff.1 hj).1]; exact hj
  have new : (l ++ [(d, 1)])[l.length]? = some (d, 1) := by simp
  have newb : (bl ++ [g])[l.length]? = some g := by rw [← R.len]; simp
  refine ⟨by simp [R.len], fun x g' => ?_, fun d' v => ?_⟩
  · by_cases hx : x = (l.length : Int) + 1
    · subst hx
      rw [mup_same]
      constructor
      · intro e
        cases e
        exact ⟨l.length, d, 0, rfl, new, newb⟩
      · rintro ⟨j, d', q, e, hj, hb⟩
        obtain rfl : j = l.length := by omega
        rw [newb] at hb
        exact hb
    · rw [mup_other _ _ hx, R.obj]
      constructor
      · rintro ⟨j, d', q, e, hj, hb⟩
        exact ⟨j, d', q, e, old _ _ hj, oldb _ _ hb⟩
      · rintro ⟨j, d', q, e, hj, hb⟩
        rcases get_snoc hj with ⟨rfl, _⟩ | ⟨hl, hj⟩
        · exact absurd e hx
        · refine ⟨j, d', q, e, hj, ?_⟩
          rw [List.getElem?_append, if_pos (by rw [R.len]; exact hl)] at hb
          exact hb
  · by_cases hd : d' = d
    · subst hd
      rw [mup_same]
      constructor
      · intro e
        cases e
        exact ⟨l.length, 0, rfl, new⟩
      · rintro ⟨j, q, rfl, hj⟩
        rcases get_snoc hj with ⟨rfl, _⟩ | ⟨_, hj⟩
        · rfl
        · exact absurd hj (hno _ _)
    · rw [mup_other _ _ hd, R.num]
      constructor
      · rintro ⟨j, q, e, hj⟩
        exact ⟨j, q, e, old _ _ hj⟩
      · rintro ⟨j, q, e, hj⟩
        rcases get_snoc hj with ⟨rfl, e'⟩ | ⟨_, hj⟩
        · cases e'; exact absurd rfl hd
        · exact ⟨j, q, e, hj⟩
/-- kept no more -/
theorem Rel.last {l : S} {bl : List Nat} {h : Int → Option Nat} {m : ByteArray → Option Int} (R : Rel l bl h m) {i : Nat} {d : ByteArray} (ok : Ok l) (hi : l[i]? = some (d, 1)) : Rel (l.set i (d, 0)) bl (mdel h ((i : Int) + 1)) (mdel m d) := by
  have hl := (List.getElem?_eq_some_iff.1 hi).1
  refine ⟨by rw [List.length_set, R.len], fun x g' => ?_, fun d' v => ?_⟩
  · by_cases hx : x = (i : Int) + 1
    · subst hx
      rw [mdel_same]
      constructor
      · intro e; cases e
      · rintro ⟨j, d', q, e, hj, hb⟩
        obtain rfl : j = i := by omega
        rcases get_set hj with ⟨_, e', _⟩ | ⟨hne, _⟩
        · cases e'
        · exact absurd rfl hne
    · rw [mdel_other _ hx, R.obj]
      constructor
      · rintro ⟨j, d', q, e, hj, hb⟩
        have hij : ¬ i = j := fun e' => hx (by rw [e, e'])
        exact ⟨j, d', q, e, by rw [List.getElem?_set, if_neg hij]; exact hj, hb⟩
      · rintro ⟨j, d', q, e, hj, hb⟩
        have hij : ¬ i = j := fun e' => hx (by rw [e, e'])
        rw [List.getElem?_set, if_neg hij] at hj
        exact ⟨j, d', q, e, hj, hb⟩
  · by_cases hd : d' = d
    · subst hd
      rw [mdel_same]
      constructor
      · intro e; cases e
      · rintro ⟨j, q, e, hj⟩
        rcases get_set hj with ⟨_, e', _⟩ | ⟨hne, hj⟩
        · cases e'
        · exact absurd (ok _ _ _ _ _ hj hi) hne
    · rw [mdel_other _ hd, R.num]
      constructor
      · rintro ⟨j, q, e, hj⟩
        refine ⟨j, q, e, ?_⟩
        rw [List.getElem?_set, if_neg]
        · exact hj
        · rintro rfl
          exact hd (snd_of hj hi).1
      · rintro ⟨j, q, e, hj⟩
        rcases get_set hj with ⟨rfl, e', _⟩ | ⟨_, hj⟩
        · cases e'
        · exact ⟨j, q, e, hj⟩

/-- the store's memory -/
def St (w0 w : World) (gs g1 g2 : Nat) (X : List It) (l : S) : Prop :=
  ∃ (bl : List Nat) (h : Int → Option Nat) (m : ByteArray → Option Int) (J : List It), Rel l bl h m ∧ Sep w0 w (stC gs g1 g2 :: om g1 (live l) h :: nm g2 (live l) m :: (X ++ (objs l bl ++ J)))
theorem list_at {X Y J : List It} {i : Nat} {y : It} (h : Y[i]? = some y) : (X ++ (Y ++ J))[X.length + i]? = some y := by
  rw [List.getElem?_append_right (by omega), Nat.add_sub_cancel_left, List.getElem?_append, if_pos (List.getElem?_eq_some_iff.1 h).1, h]
theorem list_set {X Y J : List It} {i : Nat} (y : It) (h : i < Y.length) : (X ++ (Y ++ J)).set (X.length + i) y = X ++ (Y.set i y ++ J) := by
  rw [List.set_append_right _ _ (by omega), Nat.add_sub_cancel_left, List.set_append_left _ _ h]

theorem put_any (gs g1 g2 b : Nat) (X : List It) (l l' : S) (o : O) (a : A) (w0 w : World) (hs : St w0 w gs g1 g2 X l) (hw : Way l o a l') (ho : Ok l) (hb : Bd l b) (hbb : b + 3 < 140737488355328) (hk : o.kind = 1) (hd : o.data.size ≤ 4096) :
    Calls Try.prog 50 #[.pointer (some ⟨gs, 0, none⟩), .string o.data] w (fun e w' => e = .returned (.int .i64 a.id) ∧ a.err = 0 ∧ a.data = nos ∧ St w0 w' gs g1 g2 X l') := by
  obtain ⟨bl, h, m, J, R, H⟩ := hs
  have hdm : o.data.size ≤ maxLen := by simp only [maxLen]; omega
  have hll := hb.1
  have hlv := live_le l
  cases hw with
  | kindLo h => omega
  | kindHi h => omega
  | long hk h => omega
  | none hk h => omega
  | drop hk => omega
  | get hk => omega
  | @held i r _ _ hi =>
    have hl := (List.getElem?_eq_some_iff.1 hi).1
    obtain ⟨g, hg, hh⟩ := R.some_obj hi
    have hrb := hb.2 _ _ _ hi
    have hm : m o.data = some ((i : Int) + 1) := (R.num _ _).2 ⟨i, r, rfl, hi⟩
    refine (put_held gs g1 g2 (live l) (live l) (X.length + i) g (r + 1) h m _ o.data o.data ((i : Int) + 1) w0 w H hdm hm (WalkArith.wf_i64 (by omega)) hh (by omega) (list_at (objs_at hi hg))).mono ?_
    rintro e w' ⟨rfl, K⟩
    refine ⟨rfl, rfl, rfl, bl, h, m, J, R.bump hi, ?_⟩
    rw [list_set _ (by rw [objs_len R.len]; exact hl)] at K
    have e1 : live (l.set i (o.data, r + 2)) = live l := by
      have := live_set l i (o.data, r + 1) (o.data, r + 2) hi
      simp at this
      exact this
    have e2 := objs_set (l := l) (bl := bl) (i := i) (g := g) (r := r + 2) (d := o.data)
    rw [set_same hg] at e2
    rw [e1, e2]
    exact K
  | @again i d0 _ _ hno hi hlow =>
    have hl := (List.getElem?_eq_some_iff.1 hi).1
    have hx : h (((i + 1 : Nat)) : Int) = none := R.none_obj fun j d r hj e => by
      obtain rfl : j = i := by omega
      rw [hi] at hj
      cases hj
    refine (put_fresh gs g1 g2 (live l) (live l) i h m _ o.data w0 w H hdm (R.none_num hno) (by omega) (by simp only [maxLen]; omega) (by simp only [maxLen]; omega) (fun j hj => ?_) hx).mono ?_
    · obtain ⟨⟨d, r⟩, hjd⟩ : ∃ x, l[j]? = some x := ⟨_, List.getElem?_eq_getElem (by omega)⟩
      have hr := hlow j d r hj hjd
      obtain ⟨r, rfl⟩ : ∃ r', r = r' + 1 := ⟨r - 1, by omega⟩
      obtain ⟨g, _, hg⟩ := R.some_obj hjd
      exact ⟨g, by rw [← hg]; rfl⟩
    · rintro e w' ⟨rfl, gb, K⟩
      refine ⟨rfl, rfl, rfl, bl.set i gb, mup h ((i : Int) + 1) gb, mup m o.data ((i : Int) + 1), J, R.first hi hno, ?_⟩
      have e1 : live (l.set i (o.data, 1)) = live l + 1 := by
        have := live_set l i (d0, 0) (o.data, 1) hi
        simp at this
        exact this
      have K2 := Sep.swapAt (L := stC gs g1 g2 :: om g1 (live l + 1) (mup h ((i + 1 : Nat) : Int) gb) :: nm g2 (live l + 1) (mup m o.data ((i + 1 : Nat) : Int)) :: (X ++ (objs l bl ++ J))) K (X.length + i + 3) (by simp [objs_len R.len]; omega)
      rw [List.set_cons_succ, List.set_cons_succ, List.set_cons_succ, list_set _ (by rw [objs_len R.len]; exact hl)] at K2
      rw [e1, objs_set]
      exact K2
  | @new _ _ hno hall =>
    have hx : h (((l.length + 1 : Nat)) : Int) = none := R.none_obj fun j d r hj e => by
      have := (List.getElem?_eq_some_iff.1 hj).1
      omega
    refine (put_fresh gs g1 g2 (live l) (live l) l.length h m _ o.data w0 w H hdm (R.none_num hno) (by omega) (by simp only [maxLen]; omega) (by simp only [maxLen]; omega) (fun j hj => ?_) hx).mono ?_
    · obtain ⟨⟨d, r⟩, hjd⟩ : ∃ x, l[j]? = some x := ⟨_, List.getElem?_eq_getElem (by omega)⟩
      have hr := hall j d r hjd
      obtain ⟨r, rfl⟩ : ∃ r', r = r' + 1 := ⟨r - 1, by omega⟩
      obtain ⟨g, _, hg⟩ := R.some_obj hjd
      exact ⟨g, by rw [← hg]; rfl⟩
    · rintro e w' ⟨rfl, gb, K⟩
      refine ⟨rfl, rfl, rfl, bl ++ [gb], mup h ((l.length : Int) + 1) gb, mup m o.data ((l.length : Int) + 1), J, R.snoc hno, ?_⟩
      rw [objs_snoc R.len, live_snoc]
      refine K.perm ?_
      refine List.Perm.cons _ (List.Perm.cons _ (List.Perm.cons _ ?_))
      rw [List.append_assoc, List.append_assoc, List.append_assoc]
      exact List.Perm.append_left _ (List.Perm.append_left _ List.perm_append_comm)
end Dd
end Go.Proofs.Ytmbkonhclniolaa
