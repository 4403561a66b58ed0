/-
  The plain law of sorted tables: when a table is right, where a key stands.
-/
import Derived.Test.YtcndddjnlnigeaaRows
namespace Go.Proofs.Ytcndddjnlnigeaa
namespace Mrg

structure C where
  (key data : Int) (gone : Bool)

def IncTo (l : List C) (k : Nat) : Prop := ∀ j a b, j + 1 < k → l[j]? = some a → l[j + 1]? = some b → a.key < b.key
def Rt (l : List C) : Prop := IncTo l l.length ∧ l.length ≤ 4096
theorem IncTo.zero {l : List C} : IncTo l 0 := fun j a b h => by omega
theorem IncTo.one {l : List C} : IncTo l 1 := fun j a b h => by omega
theorem IncTo.succ {l : List C} {k : Nat} {a b : C} (h : IncTo l (k + 1)) (ha : l[k]? = some a) (hb : l[k + 1]? = some b) (hlt : a.key < b.key) : IncTo l (k + 2) := by
  intro j x y hj hx hy
  by_cases hjk : j = k
  · subst hjk
    rw [ha] at hx
    rw [hb] at hy
    cases hx
    cases hy
    exact hlt
  · exact h j x y (by omega) hx hy
theorem IncTo.not {l : List C} {k : Nat} {a b : C} (ha : l[k]? = some a) (hb : l[k + 1]? = some b) (hge : b.key ≤ a.key) (m : Nat) (hm : k + 2 ≤ m) : ¬ IncTo l m := fun h => by
  have := h k a b (by omega) ha hb
  omega
theorem IncTo.lt {l : List C} (h : IncTo l l.length) : ∀ (d i : Nat) (a b : C), l[i]? = some a → l[i + d + 1]? = some b → a.key < b.key
  | 0, i, a, b, ha, hb => h i a b (List.getElem?_eq_some_iff.1 hb).1 ha hb
  | d + 1, i, a, b, ha, hb => by
    have hl : i + d + 1 < l.length := by have := (List.getElem?_eq_some_iff.1 hb).1; omega
    have hm : l[i + d + 1]? = some l[i + d + 1] := List.getElem?_eq_getElem hl
    have h1 := IncTo.lt h d i a _ ha hm
    have h2 := h (i + d + 1) _ b (List.getElem?_eq_some_iff.1 hb).1 hm hb
    omega
theorem IncTo.lt' {l : List C} (h : IncTo l l.length) {i j : Nat} {a b : C} (hij : i < j) (ha : l[i]? = some a) (hb : l[j]? = some b) : a.key < b.key := by
  obtain ⟨d, rfl⟩ : ∃ d, j = i + d + 1 := ⟨j - i - 1, by omega⟩
  exact h.lt d i a b ha hb

def ansC (c : C) : Int × Int := if c.gone then (0, 3) else (c.data, 0)
def look (key : Int) : List (List C) → Int × Int
  | [] => (0, 3)
  | l :: t => match l.find? (fun c => c.key == key) with
    | some c => ansC c
    | none => look key t
open Classical in
noncomputable def findE (key : Int) (L : List (List C)) : Int × Int := if ∀ l ∈ L, Rt l then look key L else (0, 1)
theorem findE_yes {key : Int} {L : List (List C)} (h : ∀ l ∈ L, Rt l) : findE key L = look key L := by unfold findE; rw [if_pos h]
theorem findE_no {key : Int} {L : List (List C)} {l : List C} (hl : l ∈ L) (h : ¬ Rt l) : findE key L = (0, 1) := by unfold findE; rw [if_neg fun h' => h (h' l hl)]

theorem find_some {l : List C} (h : IncTo l l.length) {key : Int} {i : Nat} {c : C} (hc : l[i]? = some c) (hk : c.key = key) : l.find? (fun c => c.key == key) = some c := by
  cases hf : l.find? (fun c => c.key == key) with
  | none =>
    have := List.find?_eq_none.1 hf c (List.mem_of_getElem? hc)
    simp [hk] at this
  | some d =>
    have hd := List.mem_of_find?_eq_some hf
    have hk2 : d.key = key := by simpa using List.find?_some hf
    obtain ⟨j, hj, rfl⟩ := List.getElem_of_mem hd
    have hj' : l[j]? = some l[j] := List.getElem?_eq_getElem hj
    rcases Nat.lt_trichotomy i j with hij | hij | hij
    · have := h.lt' hij hc hj'; omega
    · subst hij; rw [hc] at hj'; rw [hj']
    · have := h.lt' hij hj' hc; omega
theorem find_none {l : List C} {key : Int} (h : ∀ c ∈ l, c.key ≠ key) : l.find? (fun c => c.key == key) = none := by
  rw [List.find?_eq_none]
  intro c hc
  simpa using h c hc

/-- the reference's scan of one table -/
def scan (key : Int) : List C → Int × Int → Int × Int
  | [], p => p
  | c :: t, p => scan key t (if c.key = key then ansC c else p)
theorem scan_none {key : Int} : ∀ {l : List C} {p : Int × Int}, (∀ c ∈ l, c.key ≠ key) → scan key l p = p
  | [], _, _ => rfl
  | c :: t, p, h => by
    rw [scan, if_neg (h c (by simp))]
    exact scan_none fun d hd => h d (by simp [hd])
theorem inc_tail {c : C} {t : List C} (h : IncTo (c :: t) (c :: t).length) : IncTo t t.length := fun j a b hj ha hb => h (j + 1) a b (by simp; omega) (by simpa using ha) (by simpa using hb)
theorem scan_eq {key : Int} : ∀ {l : List C} {p : Int × Int}, IncTo l l.length → scan key l p = match l.find? (fun c => c.key == key) with
    | some c => ansC c
    | none => p
  | [], p, _ => rfl
  | c :: t, p, h => by
    rw [scan]
    by_cases hk : c.key = key
    · rw [if_pos hk, List.find?_cons_of_pos (by simpa using hk)]
      simp only
      exact scan_none fun d hd => by
        obtain ⟨j, hj, rfl⟩ := List.getElem_of_mem hd
        have e : (c :: t)[j + 1]? = some t[j] := by rw [List.getElem?_cons_succ]; exact List.getElem?_eq_getElem hj
        have := h.lt' (i := 0) (j := j + 1) (by omega) rfl e
        omega
    · rw [if_neg hk, List.find?_cons_of_neg (by simpa using hk)]
      exact scan_eq (inc_tail h)
theorem look_step {key : Int} {l : List C} {t : List (List C)} (h : Rt l) : look key (l :: t) = scan key l (look key t) := by rw [look, scan_eq h.1]
def cmpI (a b : Int) : Int := if a < b then -1 else if b < a then 1 else 0
end Mrg
end Go.Proofs.Ytcndddjnlnigeaa
