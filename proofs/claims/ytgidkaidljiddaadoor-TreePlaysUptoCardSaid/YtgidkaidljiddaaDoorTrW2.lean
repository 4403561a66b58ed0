/-
  Walks of package tree: below. Conditions: none beyond each theorem's own premises.
-/
import Derived.Test.YtgidkaidljiddaaDoorTrW
namespace Go.Proofs.YtgidkaidljiddaaDoor
open Go.RowKit Go.Shelf
set_option linter.unusedVariables false
theorem Sep.rangeNext2 {K α : Type} [DecidableEq K] {P : Program} {k : TypeId} {mk : K → Value} {ok : K → Prop} {enc : α → Value} {n g r : Nat} {h : K → Option α} {w0 w : World} {L : List It} {es : Array MapEntry} {clock since c0 : Nat} {seen : Array Nat} {todo : List K}
    (H : Sep w0 w L) (i j : Nat) (hij : i ≠ j) (hi : L[i]? = some (.obj g (.map es clock))) (hj : L[j]? = some (.obj r (.mapIter (some g) since seen c0))) (M : MIs P k mk enc es clock n h) (KK : KMk P k mk ok)
    (R : Rg mk es clock since seen c0 todo) (ty : TypeId) :
    (todo = [] ∧ (Instr.next (.pointer (some ⟨r, 0, none⟩)) false ty).run P w = .ok (.tuple #[.bool false]) w) ∨
    ∃ x a w1 seen' todo', x ∈ todo ∧ h x = some a ∧ (Instr.next (.pointer (some ⟨r, 0, none⟩)) false ty).run P w = .ok (.tuple #[.bool true, mk x, enc a]) w1 ∧ w1.heap.size = w.heap.size ∧
      Sep w0 w1 (L.set j (.obj r (.mapIter (some g) since seen' clock))) ∧ Rg mk es clock since seen' clock todo' ∧ (Instr.entry (.pointer (some ⟨r, 0, none⟩))).run P w1 = .ok (.tuple #[mk x, enc a]) w1 ∧ todo'.length + 1 = todo.length ∧ ∀ y, y ∈ todo' ↔ (y ≠ x ∧ y ∈ todo) := by
  rcases H.rangeNext i j hij hi hj M KK R ty with h1 | ⟨x, a, w1, seen', hx, ha, hrun, hsz, H2, R2, hen⟩
  · exact .inl h1
  · refine .inr ⟨x, a, w1, seen', _, hx, ha, hrun, hsz, H2, R2, hen, ?_, fun y => R.nd.mem_erase_iff⟩
    have h1 := List.length_erase_of_mem hx
    have h2 := List.length_pos_of_mem hx
    omega
namespace Tr
open Dr Pt

theorem getSet_self' {l : List It} {i : Nat} {x y : It} (h : l[i]? = some x) : (l.set i y)[i]? = some y := by
  rw [List.getElem?_set, if_pos rfl, if_pos (List.getElem?_eq_some_iff.1 h).1]
theorem set_self' {l : List It} {i : Nat} {x : It} (h : l[i]? = some x) : l.set i x = l := by
  obtain ⟨h1, rfl⟩ := List.getElem?_eq_some_iff.1 h
  exact List.set_getElem_self h1
theorem at0 {B : List It} {X Y : It} : (B ++ [X, Y])[B.length]? = some X := by simp
theorem at1 {B : List It} {X Y : It} : (B ++ [X, Y])[B.length + 1]? = some Y := by simp
theorem set0 {B : List It} {X Y Z : It} : (B ++ [X, Y]).set B.length Z = B ++ [Z, Y] := by simp
theorem set1 {B : List It} {X Y Z : It} : (B ++ [X, Y]).set (B.length + 1) Z = B ++ [X, Z] := by simp
theorem atI {B R : List It} {Z : It} {i : Nat} (h : B[i]? = some Z) : (B ++ R)[i]? = some Z := by
  rw [List.getElem?_append_left (List.getElem?_eq_some_iff.1 h).1]
  exact h

theorem pre_any (s t : By) (w : World) : Calls Tryd.prog 12 #[.string (kb s), .string (kb t)] w (fun e w' => e = .returned (.bool (decide (t <+: s))) ∧ w' = w) := by
  have h := Any.strings_HasPrefix Tryd.hasPre (kb s) (kb t) w
  have e : Lib.hasPrefix (kb s).data.toList (kb t).data.toList = decide (t <+: s) := by
    rw [Bool.eq_iff_iff]
    unfold Lib.hasPrefix kb
    simp
  rw [e] at h
  exact h
theorem trm_any (s : By) (hs : s.length ≤ 9223372036854775807) (w : World) : Calls Tryd.prog 31 #[.string (kb s), .string ⟨#[47]⟩] w (fun e w' => e = .returned (.string (kb (Lib.trimSuffix s [47]))) ∧ w' = w) := by
  have h := Any.strings_TrimSuffix Tryd.trimSuf (kb s) ⟨#[47]⟩ w (by exact hs)
  exact h
theorem kb_slash (x : By) : kb x ++ (⟨#[47]⟩ : ByteArray) = kb (x ++ [47]) := bs_cat x [47]
/-- what is trimmed of a path's text -/
theorem trim_ppath {l : List By} (hl : Cl l) : Lib.trimSuffix (ppath l) [47] = if l = [] then [] else ppath l := by
  by_cases h : l = []
  · subst h
    rfl
  · rw [if_neg h, ppath_ne h]
    have hno : ¬ [47] <:+ slashed l := fun ⟨r, hr⟩ => by
      have e := par_nam h
      have hn : Nm (nam l) := hl _ (by
        have h2 : nam l ∈ par l ++ [nam l] := by simp
        rwa [e] at h2)
      rw [← e, slashed_append] at hr
      have e1 : slashed [nam l] = 47 :: nam l := by simp [slashed]
      rw [e1] at hr
      rcases List.eq_nil_or_concat (nam l) with hx | ⟨z, b, hx⟩
      · exact hn.1 hx
      · have hb : b = 47 := by
          rw [hx, List.concat_eq_append, show slashed (par l) ++ 47 :: (z ++ [b]) = (slashed (par l) ++ 47 :: z) ++ [b] by simp] at hr
          have := (List.append_inj' hr rfl).2
          simpa using this.symm
        exact hn.2.2.2 b (by rw [hx]; simp) hb
    unfold Lib.trimSuffix
    have e3 : Lib.hasSuffix (slashed l) [47] = false := by
      cases hh : Lib.hasSuffix (slashed l) [47] with
      | false => rfl
      | true =>
        unfold Lib.hasSuffix at hh
        exact absurd (by simpa using hh) hno
    rw [e3]
    rfl
theorem below_pre {l m : List By} (hl : Cl l) (hm : Cl m) (hne : m ≠ l) : (Lib.trimSuffix (ppath l) [47] ++ [47]) <+: ppath m ↔ ∃ t, t ≠ [] ∧ m = l ++ t := by
  rw [trim_ppath hl]
  by_cases h : l = []
  · subst h
    rw [if_pos rfl]
    obtain ⟨r, hr⟩ := slashed_head hne
    rw [ppath_ne hne, hr]
    exact ⟨fun _ => ⟨m, hne, rfl⟩, fun _ => ⟨r, rfl⟩⟩
  · rw [if_neg h, below_iff hm hl h]
end Tr
end Go.Proofs.YtgidkaidljiddaaDoor
