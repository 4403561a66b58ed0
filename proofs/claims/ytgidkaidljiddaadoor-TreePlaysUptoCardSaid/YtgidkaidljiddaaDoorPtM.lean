/-
  Path names as lists of bytes: components, what a path's names are, the path of names. Plain Lean, no program. Conditions: none.
-/
import Derived.Test.YtgidkaidljiddaaDoorBase
import Derived.Lib.Join
import Derived.Lib.Strings
import Derived.Lib.Bytealg
namespace Go.Proofs.YtgidkaidljiddaaDoor
set_option linter.unusedVariables false
namespace Pt
abbrev By := List UInt8

/-- a component comes -/
def stp (out : List By) (p : By) : List By :=
  if p = [] ∨ p = [46] then out else if p = [46, 46] then out.take (out.length - 1) else out ++ [p]
/-- the components between '/' -/
def spl : By → List By
  | [] => [[]]
  | b :: l => if b = 47 then [] :: spl l else
    match spl l with
    | [] => [[b]]
    | x :: r => (b :: x) :: r
def parts (s : By) : List By := (spl s).foldl stp []
theorem spl_ne (s : By) : ∃ x r, spl s = x :: r := by
  cases s with
  | nil => exact ⟨_, _, rfl⟩
  | cons b l =>
    unfold spl
    split
    · exact ⟨_, _, rfl⟩
    · split <;> exact ⟨_, _, rfl⟩
theorem spl_slash (l : By) : spl (47 :: l) = [] :: spl l := by
  conv => lhs; unfold spl
  rw [if_pos rfl]
theorem spl_other {b : UInt8} {l : By} (h : b ≠ 47) {x : By} {r : List By} (hx : spl l = x :: r) : spl (b :: l) = (b :: x) :: r := by
  conv => lhs; unfold spl
  rw [if_neg h, hx]
/-- a prefix without '/' -/
theorem spl_pre : ∀ (x s : By), (∀ b ∈ x, b ≠ 47) → ∀ y r, spl s = y :: r → spl (x ++ s) = (x ++ y) :: r
  | [], s, _, y, r, h => h
  | b :: x, s, hx, y, r, h => by
    have ih := spl_pre x s (fun c hc => hx c (by simp [hc])) y r h
    rw [List.cons_append, spl_other (hx b (by simp)) ih]
    rfl
theorem spl_none (x : By) (hx : ∀ b ∈ x, b ≠ 47) : spl x = [x] := by
  have h := spl_pre x [] hx [] [] rfl
  rwa [List.append_nil] at h
theorem spl_cut (x s : By) (hx : ∀ b ∈ x, b ≠ 47) : spl (x ++ 47 :: s) = x :: spl s := by
  have h := spl_pre x (47 :: s) hx [] (spl s) (spl_slash s)
  rwa [List.append_nil] at h
theorem spl_app : ∀ (a b : By), spl (a ++ 47 :: b) = spl a ++ spl b
  | [], b => by rw [List.nil_append, spl_slash]; rfl
  | c :: a, b => by
    rw [List.cons_append]
    have ih := spl_app a b
    by_cases h : c = 47
    · subst h
      rw [spl_slash, spl_slash, ih]; rfl
    · obtain ⟨x, r, hx⟩ := spl_ne a
      rw [hx] at ih
      rw [spl_other h hx, spl_other h (x := x) (r := r ++ spl b) (by rw [ih]; rfl)]
      rfl
theorem parts_app (a b : By) : parts (a ++ 47 :: b) = (spl b).foldl stp (parts a) := by
  unfold parts
  rw [spl_app, List.foldl_append]

/-! the index of '/' -/
theorem index_none : ∀ (s : By), Lib.indexByte s 47 < 0 → ∀ b ∈ s, b ≠ 47
  | [], _, b, hb => by simp at hb
  | c :: s, h, b, hb => by
    unfold Lib.indexByte at h
    by_cases hc : c = 47
    · rw [if_pos (by simp [hc])] at h; omega
    · rw [if_neg (by simp [hc])] at h
      have hs : Lib.indexByte s 47 < 0 := by
        by_cases h2 : Lib.indexByte s 47 = -1
        · omega
        · rw [if_neg (by simp [h2])] at h; omega
      rcases List.mem_cons.1 hb with rfl | hb
      · exact hc
      · exact index_none s hs b hb
theorem index_some : ∀ (s : By), 0 ≤ Lib.indexByte s 47 → ∃ (i : Nat) (x t : By), Lib.indexByte s 47 = i ∧ s = x ++ 47 :: t ∧ x.length = i ∧ ∀ b ∈ x, b ≠ 47
  | [], h => by unfold Lib.indexByte at h; omega
  | c :: s, h => by
    unfold Lib.indexByte at h ⊢
    by_cases hc : c = 47
    · rw [if_pos (by simp [hc])]
      exact ⟨0, [], s, rfl, by rw [hc]; rfl, rfl, by simp⟩
    · rw [if_neg (by simp [hc])] at h ⊢
      by_cases h2 : Lib.indexByte s 47 = -1
      · rw [if_pos (by simp [h2])] at h; omega
      · rw [if_neg (by simp [h2])] at h ⊢
        have h3 : 0 ≤ Lib.indexByte s 47 := by
          have := index_neg s
          omega
        obtain ⟨i, x, t, h4, h5, h6, h7⟩ := index_some s h3
        refine ⟨i + 1, c :: x, t, by rw [h4]; rfl, by rw [h5]; rfl, by simp [h6], fun b hb => ?_⟩
        rcases List.mem_cons.1 hb with rfl | hb
        · exact hc
        · exact h7 b hb
where
  index_neg : ∀ (s : By), -1 ≤ Lib.indexByte s 47
    | [] => by unfold Lib.indexByte; omega
    | c :: s => by
      unfold Lib.indexByte
      have := index_neg s
      split
      · omega
      · split <;> omega

/-! names that a path may have -/
def Nm (p : By) : Prop := p ≠ [] ∧ p ≠ [46] ∧ p ≠ [46, 46] ∧ ∀ b ∈ p, b ≠ 47
theorem spl_no : ∀ (s : By) (x : By), x ∈ spl s → ∀ b ∈ x, b ≠ 47
  | [], x, hx, b, hb => by
    simp [spl] at hx
    subst hx
    simp at hb
  | c :: s, x, hx, b, hb => by
    by_cases h : c = 47
    · subst h
      rw [spl_slash] at hx
      rcases List.mem_cons.1 hx with rfl | hx
      · simp at hb
      · exact spl_no s x hx b hb
    · obtain ⟨y, r, hy⟩ := spl_ne s
      rw [spl_other h hy] at hx
      rcases List.mem_cons.1 hx with rfl | hx
      · rcases List.mem_cons.1 hb with rfl | hb
        · exact h
        · exact spl_no s y (by rw [hy]; simp) b hb
      · exact spl_no s x (by rw [hy]; simp [hx]) b hb
theorem stp_nm {out : List By} {p : By} (ho : ∀ x ∈ out, Nm x) (hp : ∀ b ∈ p, b ≠ 47) : ∀ x ∈ stp out p, Nm x := by
  intro x hx
  unfold stp at hx
  split at hx
  · exact ho x hx
  · next h1 =>
    split at hx
    · exact ho x (List.mem_of_mem_take hx)
    · next h2 =>
      rcases List.mem_append.1 hx with h | h
      · exact ho x h
      · rw [List.mem_singleton.1 h]
        exact ⟨fun e => h1 (.inl e), fun e => h1 (.inr e), h2, hp⟩
theorem fold_nm : ∀ (l : List By) (out : List By), (∀ x ∈ out, Nm x) → (∀ p ∈ l, ∀ b ∈ p, b ≠ 47) → ∀ x ∈ l.foldl stp out, Nm x
  | [], out, ho, _ => ho
  | p :: l, out, ho, hl => fold_nm l (stp out p) (stp_nm ho (hl p (by simp))) (fun q hq => hl q (by simp [hq]))
theorem parts_nm (s : By) : ∀ x ∈ parts s, Nm x := fold_nm _ _ (by simp) (spl_no s)
theorem fold_names : ∀ (l out : List By), (∀ x ∈ l, Nm x) → l.foldl stp out = out ++ l
  | [], out, _ => by simp
  | p :: l, out, h => by
    have hp := h p (by simp)
    have e : stp out p = out ++ [p] := by
      unfold stp
      rw [if_neg (fun e => e.elim hp.1 hp.2.1), if_neg hp.2.2.1]
    rw [List.foldl_cons, e, fold_names l _ (fun x hx => h x (by simp [hx])), List.append_assoc]
    rfl

/-! the path of names -/
def slashed (l : List By) : By := l.flatMap (fun n => 47 :: n)
def ppath (l : List By) : By := if l = [] then [47] else slashed l
theorem slashed_nil_iff (l : List By) : slashed l = [] ↔ l = [] := by
  cases l with
  | nil => simp [slashed]
  | cons x l => simp [slashed]
theorem slashed_snoc (l : List By) (x : By) : slashed (l ++ [x]) = slashed l ++ 47 :: x := by
  unfold slashed
  rw [List.flatMap_append]
  simp
theorem whole_eq (l : List By) : 47 :: Lib.join l [47] = ppath l := by
  cases l with
  | nil => rfl
  | cons x r =>
    rw [Lib.join_cons, ppath, if_neg (by simp), slashed, List.flatMap_cons, Lib.joinTail, List.cons_append, List.flatMap]
    rfl
theorem spl_slashed : ∀ (l : List By), (∀ x ∈ l, ∀ b ∈ x, b ≠ 47) → l ≠ [] → spl (slashed l) = [] :: l
  | [], _, h => absurd rfl h
  | [x], hl, _ => by
    have e : slashed [x] = 47 :: x := by simp [slashed]
    rw [e, spl_slash, spl_none x (hl x (by simp))]
  | x :: y :: r, hl, _ => by
    have e : slashed (x :: y :: r) = 47 :: (x ++ slashed (y :: r)) := by simp [slashed]
    have ih := spl_slashed (y :: r) (fun z hz => hl z (by simp [hz])) (by simp)
    rw [e, spl_slash, spl_pre x _ (hl x (by simp)) [] (y :: r) ih, List.append_nil]
theorem parts_ppath (l : List By) (hl : ∀ x ∈ l, Nm x) : parts (ppath l) = l := by
  unfold parts ppath
  by_cases h : l = []
  · subst h
    rfl
  · rw [if_neg h, spl_slashed l (fun x hx => (hl x hx).2.2.2) h, List.foldl_cons]
    have e : stp [] [] = [] := rfl
    rw [e, fold_names l [] hl]
    rfl
theorem stp_none (o : List By) : stp o [] = o := by
  unfold stp
  rw [if_pos (.inl rfl)]
theorem trim_fold (s : By) (o : List By) : (spl (Lib.trimSuffix s [47])).foldl stp o = (spl s).foldl stp o := by
  unfold Lib.trimSuffix
  by_cases h : Lib.hasSuffix s [47] = true
  · rw [if_pos h]
    unfold Lib.hasSuffix at h
    rw [List.isSuffixOf_iff_suffix] at h
    obtain ⟨t, rfl⟩ := h
    have e : (t ++ [47]).take ((t ++ [47]).length - [47].length) = t := by simp
    refine (congrArg (fun z => (spl z).foldl stp o) e).trans ?_
    show (spl t).foldl stp o = _
    rw [spl_app, List.foldl_append]
    show _ = stp _ []
    exact (stp_none _).symm
  · rw [if_neg h]
/-- what Join answers is what the reference's Join answers -/
theorem join_eq (a s : By) : parts (a ++ 47 :: s) = parts (ppath (parts a) ++ 47 :: Lib.trimSuffix s [47]) := by
  rw [parts_app, parts_app, parts_ppath _ (parts_nm a), trim_fold]

/-! the reference's loop, byte by byte -/
def rstep (st : List By × By) (b : UInt8) : List By × By :=
  if b ≠ 47 then (st.1, st.2 ++ [b]) else (stp st.1 st.2, [])
theorem stp_ref (out : List By) (p : By) : stp out p = if p = [46, 46] ∧ 0 < out.length then out.take (out.length - 1) else if p ≠ [] ∧ p ≠ [46] ∧ p ≠ [46, 46] then out ++ [p] else out := by
  unfold stp
  by_cases h1 : p = []
  · subst h1; simp
  · by_cases h2 : p = [46]
    · subst h2; simp
    · by_cases h3 : p = [46, 46]
      · subst h3
        cases out with
        | nil => simp
        | cons x o => simp
      · rw [if_neg (by simp [h1, h2]), if_neg h3, if_neg (by simp [h3]), if_pos ⟨h1, h2, h3⟩]
theorem ref_fold : ∀ (s : By) (out : List By) (nm : By), (s ++ [47]).foldl rstep (out, nm) = (match spl s with | [] => out | x :: r => ((nm ++ x) :: r).foldl stp out, [])
  | [], out, nm => by simp [rstep, spl]
  | b :: s, out, nm => by
    rw [List.cons_append, List.foldl_cons]
    by_cases h : b = 47
    · have e : rstep (out, nm) b = (stp out nm, []) := by unfold rstep; rw [if_neg (by simp [h])]
      rw [e, ref_fold s]
      subst h
      rw [spl_slash]
      obtain ⟨x, r, hx⟩ := spl_ne s
      rw [hx]
      simp
    · have e : rstep (out, nm) b = (out, nm ++ [b]) := by unfold rstep; rw [if_pos h]
      rw [e, ref_fold s]
      obtain ⟨x, r, hx⟩ := spl_ne s
      rw [spl_other h hx, hx]
      simp
theorem ref_parts (s : By) : (s ++ [47]).foldl rstep ([], []) = (parts s, []) := by
  rw [ref_fold]
  unfold parts
  obtain ⟨x, r, hx⟩ := spl_ne s
  rw [hx]
  simp

/-! with how many names two paths begin -/
def cmn : List By → List By → Nat
  | x :: a, y :: b => if x = y then cmn a b + 1 else 0
  | _, _ => 0
theorem cmn_le : ∀ (a b : List By), cmn a b ≤ a.length ∧ cmn a b ≤ b.length
  | [], b => by simp [cmn]
  | x :: a, [] => by simp [cmn]
  | x :: a, y :: b => by
    have := cmn_le a b
    unfold cmn
    split <;> simp <;> omega
theorem cmn_step : ∀ (a b : List By) (k : Nat) (x y : By), k ≤ cmn a b → a[k]? = some x → b[k]? = some y → (k + 1 ≤ cmn a b ↔ x = y)
  | [], b, k, x, y, _, hx, _ => by simp at hx
  | u :: a, [], k, x, y, _, _, hy => by simp at hy
  | u :: a, v :: b, 0, x, y, _, hx, hy => by
    simp at hx hy
    subst hx hy
    unfold cmn
    split <;> simp_all
  | u :: a, v :: b, k + 1, x, y, hk, hx, hy => by
    unfold cmn at hk ⊢
    split at hk
    · next h =>
      rw [if_pos h]
      simp at hx hy
      have ih := cmn_step a b k x y (by omega) hx hy
      exact ⟨fun h => ih.1 (by omega), fun h => by have := ih.2 h; omega⟩
    · omega
theorem cmn_comm : ∀ (a b : List By), cmn a b = cmn b a
  | [], [] => rfl
  | [], y :: b => by simp [cmn]
  | x :: a, [] => by simp [cmn]
  | x :: a, y :: b => by
    unfold cmn
    rw [cmn_comm a b]
    by_cases h : x = y
    · rw [if_pos h, if_pos h.symm]
    · rw [if_neg h, if_neg (fun e => h e.symm)]
theorem cmn_end (a b : List By) (k : Nat) (hk : k ≤ cmn a b) (h : ¬ (k < a.length ∧ k < b.length ∧ a[k]? = b[k]?)) : k = cmn a b := by
  have h1 := cmn_le a b
  by_cases e : k = cmn a b
  · exact e
  · have h2 : k + 1 ≤ cmn a b := by omega
    obtain ⟨x, hx⟩ : ∃ x, a[k]? = some x := ⟨_, List.getElem?_eq_getElem (by omega)⟩
    obtain ⟨y, hy⟩ : ∃ y, b[k]? = some y := ⟨_, List.getElem?_eq_getElem (by omega)⟩
    exact absurd ⟨by omega, by omega, by rw [hx, hy, (cmn_step a b k x y hk hx hy).1 h2]⟩ h

/-! sizes -/
def sumL (l : List By) : Nat := (l.map (·.length)).sum
theorem sumL_snoc (l : List By) (x : By) : sumL (l ++ [x]) = sumL l + x.length := by simp [sumL]
theorem sumL_take : ∀ (l : List By) (k : Nat), sumL (l.take k) ≤ sumL l
  | [], k => by simp
  | x :: l, 0 => by simp [sumL]
  | x :: l, k + 1 => by
    have := sumL_take l k
    simp only [sumL, List.take_succ_cons, List.map_cons, List.sum_cons] at this ⊢
    omega
theorem stp_sum (out : List By) (p : By) : sumL (stp out p) + (stp out p).length ≤ sumL out + out.length + p.length + 1 := by
  unfold stp
  split
  · omega
  · split
    · have := sumL_take out (out.length - 1)
      simp only [List.length_take]
      omega
    · rw [sumL_snoc, List.length_append, List.length_singleton]
      omega
theorem fold_sum : ∀ (l out : List By), sumL (l.foldl stp out) + (l.foldl stp out).length ≤ sumL out + out.length + sumL l + l.length
  | [], out => by simp [sumL]
  | p :: l, out => by
    have h1 := fold_sum l (stp out p)
    have h2 := stp_sum out p
    rw [List.foldl_cons]
    simp only [sumL, List.map_cons, List.sum_cons, List.length_cons] at h1 h2 ⊢
    omega
theorem spl_sum : ∀ (s : By), sumL (spl s) + (spl s).length = s.length + 1
  | [] => rfl
  | b :: s => by
    have ih := spl_sum s
    by_cases h : b = 47
    · subst h
      rw [spl_slash]
      simp only [sumL, List.map_cons, List.sum_cons, List.length_cons, List.length_nil] at ih ⊢
      omega
    · obtain ⟨x, r, hx⟩ := spl_ne s
      rw [hx] at ih
      rw [spl_other h hx]
      simp only [sumL, List.map_cons, List.sum_cons, List.length_cons] at ih ⊢
      omega
theorem parts_sum (s : By) : sumL (parts s) + (parts s).length ≤ s.length + 1 := by
  have h1 := fold_sum (spl s) []
  have h2 := spl_sum s
  unfold parts
  simp only [sumL, List.map_nil, List.sum_nil, List.length_nil] at h1 h2 ⊢
  omega
theorem slashed_len (l : List By) : (slashed l).length = sumL l + l.length := by
  induction l with
  | nil => rfl
  | cons x l ih =>
    have e : slashed (x :: l) = 47 :: x ++ slashed l := by simp [slashed]
    rw [e]
    simp only [sumL, List.length_append, List.length_cons, List.map_cons, List.sum_cons] at ih ⊢
    omega
theorem ppath_len (l : List By) : (ppath l).length ≤ sumL l + l.length + 1 := by
  unfold ppath
  split
  · simp
  · rw [slashed_len]; omega
theorem trim_len (s p : By) : (Lib.trimSuffix s p).length ≤ s.length := by
  unfold Lib.trimSuffix
  split
  · simp
  · omega
end Pt
end Go.Proofs.YtgidkaidljiddaaDoor
