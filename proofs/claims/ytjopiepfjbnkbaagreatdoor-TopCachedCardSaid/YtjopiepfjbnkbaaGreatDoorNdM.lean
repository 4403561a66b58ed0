/-
  The plain law of a flash: when it is right, what an operation makes of it.
-/
import Derived.Test.YtjopiepfjbnkbaaGreatDoorRows
namespace Go.Proofs.YtjopiepfjbnkbaaGreatDoor
namespace Nd
set_option linter.unusedVariables false

structure B where
  (a b c d done wear : Int)
def B.at (x : B) : Nat → Int
  | 0 => x.a
  | 1 => x.b
  | 2 => x.c
  | _ => x.d
def B.put (x : B) (v : Int) : Nat → B
  | 0 => { x with a := v, done := 1 }
  | 1 => { x with b := v, done := 2 }
  | 2 => { x with c := v, done := 3 }
  | _ => { x with d := v, done := 4 }
def B.blank (wear : Int) : B := ⟨0, 0, 0, 0, 0, wear⟩
structure RtB (x : B) : Prop where
  d0 : 0 ≤ x.done
  d4 : x.done ≤ 4
  w0 : 0 ≤ x.wear
  w1 : x.wear ≤ 1048576
  z : ∀ p : Nat, p < 4 → x.done ≤ p → x.at p = 0
def Rt (l : List B) : Prop := l.length = 8 ∧ ∀ x ∈ l, RtB x
structure Op where
  (kind block page data : Int)

/-- what is wrong, or what comes of it: flash, data, error -/
inductive Way (l : List B) : Op → List B → Int → Int → Prop
  | kind {o : Op} (h : o.kind < 1 ∨ 3 < o.kind) : Way l o [] 0 5
  | blk {o : Op} (h0 : 1 ≤ o.kind) (h1 : o.kind ≤ 3) (h : o.block < 0 ∨ 8 ≤ o.block) : Way l o [] 0 2
  | page {k p d : Int} {bi : Nat} (h0 : k = 1 ∨ k = 3) (hb : bi < 8) (h : p < 0 ∨ 4 ≤ p) : Way l ⟨k, bi, p, d⟩ [] 0 2
  | held {d : Int} {bi p : Nat} {x : B} (hb : l[bi]? = some x) (hp : p < 4) (h : (p : Int) < x.done) : Way l ⟨1, bi, p, d⟩ [] 0 6
  | none1 {d : Int} {bi p : Nat} {x : B} (hb : l[bi]? = some x) (hp : p < 4) (h : x.done < (p : Int)) : Way l ⟨1, bi, p, d⟩ [] 0 3
  | none3 {d : Int} {bi p : Nat} {x : B} (hb : l[bi]? = some x) (hp : p < 4) (h : x.done ≤ (p : Int)) : Way l ⟨3, bi, p, d⟩ [] 0 3
  | dead {d pg : Int} {bi : Nat} {x : B} (hb : l[bi]? = some x) (h : x.wear = 1048576) : Way l ⟨2, bi, pg, d⟩ [] 0 8
  | prog {d : Int} {bi p : Nat} {x : B} (hb : l[bi]? = some x) (hp : p < 4) (h : x.done = (p : Int)) : Way l ⟨1, bi, p, d⟩ (l.set bi (x.put d p)) 0 0
  | erase {d pg : Int} {bi : Nat} {x : B} (hb : l[bi]? = some x) (h : x.wear < 1048576) : Way l ⟨2, bi, pg, d⟩ (l.set bi (.blank (x.wear + 1))) 0 0
  | read {d : Int} {bi p : Nat} {x : B} (hb : l[bi]? = some x) (hp : p < 4) (h : (p : Int) < x.done) : Way l ⟨3, bi, p, d⟩ l (x.at p) 0

theorem rt_set {l : List B} (h : Rt l) (i : Nat) {y : B} (hy : RtB y) : Rt (l.set i y) := by
  refine ⟨by rw [List.length_set]; exact h.1, fun x hx => ?_⟩
  rcases List.mem_or_eq_of_mem_set hx with hx | rfl
  · exact h.2 x hx
  · exact hy
theorem rt_blank {v : Int} (h : 0 ≤ v) (h' : v ≤ 1048576) : RtB (.blank v) :=
  ⟨by simp [B.blank], by simp [B.blank], h, h', fun p hp _ => by
    match p, hp with
    | 0, _ => rfl
    | 1, _ => rfl
    | 2, _ => rfl
    | 3, _ => rfl⟩
theorem rt_put {x : B} (h : RtB x) {p : Nat} (hp : p < 4) (hd : x.done = (p : Int)) (v : Int) : RtB (x.put v p) := by
  have h0 := h.z
  match p, hp with
  | 0, _ => exact ⟨by simp [B.put], by simp [B.put], h.w0, h.w1, fun q hq hge => by
      have := h0 q hq (by simp [B.put] at hge; omega)
      simp [B.put] at hge
      match q, hq with
      | 0, _ => simp at hge
      | 1, _ => exact this
      | 2, _ => exact this
      | 3, _ => exact this⟩
  | 1, _ => exact ⟨by simp [B.put], by simp [B.put], h.w0, h.w1, fun q hq hge => by
      have := h0 q hq (by simp [B.put] at hge; omega)
      simp [B.put] at hge
      match q, hq with
      | 0, _ => simp at hge
      | 1, _ => simp at hge
      | 2, _ => exact this
      | 3, _ => exact this⟩
  | 2, _ => exact ⟨by simp [B.put], by simp [B.put], h.w0, h.w1, fun q hq hge => by
      have := h0 q hq (by simp [B.put] at hge; omega)
      simp [B.put] at hge
      match q, hq with
      | 0, _ => simp at hge
      | 1, _ => simp at hge
      | 2, _ => simp at hge
      | 3, _ => exact this⟩
  | 3, _ => exact ⟨by simp [B.put], by simp [B.put], h.w0, h.w1, fun q hq hge => by
      simp [B.put] at hge
      omega⟩

theorem way_ex {l : List B} (hl : Rt l) (o : Op) : ∃ out n e, Way l o out n e ∧ (e = 0 → Rt out) ∧ (e ≠ 0 → out = [] ∧ n = 0) := by
  obtain ⟨k, bk, pg, d⟩ := o
  by_cases hk : k < 1 ∨ 3 < k
  · exact ⟨_, _, _, .kind hk, by simp, by simp⟩
  by_cases hb : bk < 0 ∨ 8 ≤ bk
  · exact ⟨_, _, _, .blk (by simp only; omega) (by simp only; omega) hb, by simp, by simp⟩
  obtain ⟨bi, rfl⟩ := Int.eq_ofNat_of_zero_le (show 0 ≤ bk by omega)
  have hbi : bi < 8 := by omega
  obtain ⟨x, hx⟩ : ∃ x, l[bi]? = some x := ⟨_, List.getElem?_eq_getElem (by rw [hl.1]; exact hbi)⟩
  have hrx := hl.2 x (List.mem_of_getElem? hx)
  by_cases h2 : k = 2
  · subst h2
    by_cases hw : x.wear = 1048576
    · exact ⟨_, _, _, .dead hx hw, by simp, by simp⟩
    · exact ⟨_, _, _, .erase hx (by have := hrx.w1; omega), fun _ => rt_set hl _ (rt_blank (by have := hrx.w0; omega) (by have := hrx.w1; omega)), by simp⟩
  by_cases hp : pg < 0 ∨ 4 ≤ pg
  · exact ⟨_, _, _, .page (by omega) hbi hp, by simp, by simp⟩
  obtain ⟨p, rfl⟩ := Int.eq_ofNat_of_zero_le (show 0 ≤ pg by omega)
  have hp4 : p < 4 := by omega
  by_cases h1 : k = 1
  · subst h1
    rcases Int.lt_trichotomy (p : Int) x.done with h | h | h
    · exact ⟨_, _, _, .held hx hp4 h, by simp, by simp⟩
    · exact ⟨_, _, _, .prog hx hp4 h.symm, fun _ => rt_set hl _ (rt_put hrx hp4 h.symm d), by simp⟩
    · exact ⟨_, _, _, .none1 hx hp4 h, by simp, by simp⟩
  · obtain rfl : k = 3 := by omega
    by_cases h : (p : Int) < x.done
    · exact ⟨_, _, _, .read hx hp4 h, fun _ => hl, by simp⟩
    · exact ⟨_, _, _, .none3 hx hp4 (by omega), by simp, by simp⟩

/-- all operations, one behind the other: errors, what was read, the flash in the end -/
inductive Plays : List B → List Op → List Int → List Int → List B → Prop
  | nil {l : List B} : Plays l [] [] [] l
  | no {l lf out : List B} {o : Op} {os : List Op} {n e : Int} {es rs : List Int} (h : Way l o out n e) (hl : Rt l) (he : e ≠ 0) (hs : Plays l os es rs lf) : Plays l (o :: os) (e :: es) rs lf
  | yes {l lf out : List B} {o : Op} {os : List Op} {n : Int} {es rs : List Int} (h : Way l o out n 0) (hl : Rt l) (hk : (o.kind == 3) = false) (hs : Plays out os es rs lf) : Plays l (o :: os) (0 :: es) rs lf
  | read {l lf out : List B} {o : Op} {os : List Op} {n : Int} {es rs : List Int} (h : Way l o out n 0) (hl : Rt l) (hk : (o.kind == 3) = true) (hs : Plays out os es rs lf) : Plays l (o :: os) (0 :: es) (n :: rs) lf
theorem plays_ex : ∀ (os : List Op) (l : List B), Rt l → ∃ es rs lf, Plays l os es rs lf ∧ es.length = os.length ∧ rs.length ≤ os.length ∧ lf.length = 8
  | [], l, hl => ⟨[], [], l, .nil, rfl, Nat.le_refl _, hl.1⟩
  | o :: os, l, hl => by
    obtain ⟨out, n, e, hw, h0, h1⟩ := way_ex hl o
    by_cases he : e = 0
    · subst he
      obtain ⟨es, rs, lf, hp, h2, h3, h4⟩ := plays_ex os out (h0 rfl)
      cases hk : o.kind == 3 with
      | true => exact ⟨0 :: es, n :: rs, lf, .read hw hl hk hp, by simp [h2], by simp; omega, h4⟩
      | false => exact ⟨0 :: es, rs, lf, .yes hw hl hk hp, by simp [h2], by simp; omega, h4⟩
    · obtain ⟨es, rs, lf, hp, h2, h3, h4⟩ := plays_ex os l hl
      exact ⟨e :: es, rs, lf, .no hw hl he hp, by simp [h2], by simp; omega, h4⟩
def new8 : List B := List.replicate 8 (.blank 0)
theorem rt_new : Rt new8 := ⟨rfl, fun x hx => by
  rw [List.eq_of_mem_replicate hx]
  exact rt_blank (by omega) (by omega)⟩
end Nd
end Go.Proofs.YtjopiepfjbnkbaaGreatDoor
