/-
  slices.Sorted(maps.Keys(m)) at a map[int]bool of the call's own. Conditions: none beyond each theorem's own premises.
-/
import Derived.Test.YtfljbiobiobamabFsM
import Derived.Test.YtfljbiobiobamabMap
import Derived.Test.YtfljbiobiobamabShelfK
namespace Go.Proofs.Ytfljbiobiobamab
open Go.RowKit Go.Maps Go.Sort Go.Shelf Go.WideElems Go.WideShapes
set_option linter.unusedVariables false
namespace Fs

theorem sortsA (m : Nat) : AnyZI.SortsIn Try.prog Try.sortedA_ren Fence.wide m :=
  ⟨fun blk off cap ss W hH hblk hsz => callsIn_wide.2 (AnyM.slices_Sort_int Try.sortA blk off cap ss W hH hblk hsz),
   fun p cap W => callsIn_wide.2 (AnyM.slices_Sort_int_none Try.sortA p cap W)⟩

def Rn : Value → Option (DataW Unit × List MemPlace) := fun _ => some (.nil, [])
theorem own_map {α : Type} {enc : α → Value} {w0 w : World} {L : List It} {i g n : Nat} {h : Int → Option α} (H : Sep w0 w L) (hi : L[i]? = some (.map Try.prog 3 (Value.int .i64) enc g n h)) {K : List Int} (hK : K.Nodup) (hm : ∀ x, x ∈ K ↔ (h x).isSome = true) :
    ∃ D0 : DataW Unit, w.ownsMap Try.prog 3 Rn g n D0 ∧ (intKeys D0).Perm K ∧ Maps.size D0 = n := by
  obtain ⟨es, clock, hb, M⟩ := H.all i _ hi
  obtain ⟨ks, h1, h2, h3, h4⟩ := M.keyList (kmk_int Try.underlying3)
  have hrd : ∀ x ∈ es.toList, ∃ y : Int, x.key = .int .i64 y ∧ WideElems.rd Try.prog 3 Rn x = some (.int .i64 y, .nil) := fun x hx => by
    obtain ⟨l, hl⟩ := M.fit.keys x hx
    obtain ⟨y, hy, rfl, _⟩ := Maps.keyOf_i64 Try.underlying3 hl
    exact ⟨y, hy, by unfold WideElems.rd; rw [hl]; rfl⟩
  have hP := sorted_perm (es.toList.map (rg Try.prog 3 Rn))
  refine ⟨_, ⟨es, clock, hb, ⟨M.fit.size, M.fit.stamped, fun x hx => ?_⟩, by rw [M.size]; exact Nat.le_refl _, rfl⟩, ?_, ?_⟩
  · obtain ⟨y, _, hy⟩ := hrd x hx
    exact ⟨_, hy⟩
  · have h5 : (intKeys (DataW.map ((es.toList.map (rg Try.prog 3 Rn)).foldr DataW.insert []))).Perm ((es.toList.map (rg Try.prog 3 Rn)).map fun p => Go.intOf p.1) := hP.map _
    have h6 : ∀ (l : List MapEntry) (ks : List Int), (∀ x ∈ l, ∃ y : Int, x.key = .int .i64 y ∧ WideElems.rd Try.prog 3 Rn x = some (.int .i64 y, .nil)) → l.map (·.key) = ks.map (Value.int .i64) → (l.map (rg Try.prog 3 Rn)).map (fun p => Go.intOf p.1) = ks := by
      intro l
      induction l with
      | nil =>
        intro ks _ e
        cases ks with
        | nil => rfl
        | cons a t => simp at e
      | cons x t ih =>
        intro ks hx e
        cases ks with
        | nil => simp at e
        | cons a t' =>
          simp only [List.map_cons, List.cons.injEq] at e ⊢
          obtain ⟨y, hy, hr⟩ := hx x (by simp)
          refine ⟨?_, ih t' (fun z hz => hx z (by simp [hz])) e.2⟩
          have he := e.1
          rw [hy] at he
          have he := (Value.int.inj he).2
          have hg : WideElems.rg Try.prog 3 Rn x = (.int .i64 y, .nil) := by
            unfold WideElems.rg
            rw [hr, Option.getD_some]
          rw [hg, ← he]
          rfl
    rw [h6 _ _ hrd h3] at h5
    exact h5.trans ((List.perm_ext_iff_of_nodup h1 hK).2 fun x => (h4 x).trans (hm x).symm)
  · rw [Maps.size_eq, hP.length_eq, List.length_map, ← M.size]
    simp

theorem icell_encZ (l : List Int) : l.map encZ = l.flatMap icell := by
  induction l with
  | nil => rfl
  | cons x t ih => rw [List.map_cons, ih, List.flatMap_cons]; rfl

theorem keys_any (g : Nat) (w : World) : Calls Try.prog 44 #[.map (some g)] w (fun e w' => e = .returned (.func (.func 57) #[] #[.pointer (some ⟨w.heap.size, 0, none⟩)]) ∧ w' = w.alloc (.cells #[.map (some g)] 65)) :=
  callsIn_wide.1 (AnyZI.keys_in Try.keysA Fence.wide 5 trivial rfl (some g) w)

theorem sorted_any {α : Type} {enc : α → Value} (w0 w : World) (L : List It) (i g n : Nat) (h : Int → Option α) (H : Sep w0 w L) (hi : L[i]? = some (.map Try.prog 3 (Value.int .i64) enc g n h)) (K : List Int) (Z : Nat) (hG : Good (Z : Int) K) (hm : ∀ x, x ∈ K ↔ (h x).isSome = true) (hn : n ≤ 4096) :
    Calls Try.prog 43 #[.func (.func 57) #[] #[.pointer (some ⟨w.heap.size, 0, none⟩)]] (w.alloc (.cells #[.map (some g)] 65)) (fun e w' => ∃ A m c, e = .returned (.slice A m c) ∧ Below w.heap.size w w' ∧ Rd w' w'.heap.size 1 A m ((marks K Z).flatMap icell) ∧ (marks K Z).length = m) := by
  obtain ⟨D0, hown, hperm, hsize⟩ := own_map H hi hG.1 hm
  have hbl := hown.lt
  have hseq : SeqGives Fence.wide 2 Try.prog 57 #[.pointer (some ⟨w.heap.size, 0, none⟩)] encZ (fun ss => ss.Perm (intKeys D0)) (Maps.size D0) (w.alloc (.cells #[.map (some g)] 65)) :=
    AnyZI.keys_gives (ρ := Try.keysA_ren) { Try.keysA with } Fence.wide _ trivial rfl (by omega) w.heap.size g n D0 _ (by simp) (by simp) (by
      obtain ⟨es, clock, hb, Ft, hs, hD⟩ := hown
      exact ⟨es, clock, (Below.heap_alloc _ _ g hbl).trans hb, Ft, hs, hD⟩)
  have cS := AnyZI.sorted_in Try.sortedA Fence.wide 5 trivial trivial trivial trivial rfl (by omega) (sortsA _) (enters_of Try.func56 (by kernel_rfl) rfl) 57 #[.pointer (some ⟨w.heap.size, 0, none⟩)] trivial (enters_of Try.func57 (by kernel_rfl) rfl) _ _ (by rw [hsize]; simp only [maxLen]; omega) (by omega) _ hseq
  change CallsIn _ _ Try.prog 43 _ _ _ at cS
  refine (callsIn_wide.1 cS).mono ?_
  rintro e w' ⟨v, ss, rfl, hS, hrow, _, hb⟩
  have hrow1 := ownsRow_base_a hrow (show w.heap.size ≤ _ by simp)
  obtain ⟨A, c, hv⟩ := own_slice hrow1
  rw [hv] at hrow1
  have hms := marks_sorted hG (hS.trans hperm)
  have hl : ss.length = (marks K Z).length := by rw [← hms, List.length_mergeSort]
  rw [icell_encZ, hms, hl] at hrow1
  rw [hl] at hv
  refine ⟨A, _, c, by rw [hv], ((Below.refl _ w).alloc (Nat.le_refl _) _).trans (hb.mono (by simp)), Rd.of_own hrow1, rfl⟩
end Fs
end Go.Proofs.Ytfljbiobiobamab
