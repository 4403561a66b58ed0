/-
  slices.Sorted(maps.Keys(m)) at a map[int]int of the call's own. Conditions: none beyond each theorem's own premises.
-/
import Derived.Test.YtjopiepfjbnkbaaGreatDoorFkM
import Derived.Test.YtjopiepfjbnkbaaGreatDoorMap
import Derived.Test.YtjopiepfjbnkbaaGreatDoorShelfL
namespace Go.Proofs.YtjopiepfjbnkbaaGreatDoor
open Go.RowKit Go.Maps Go.Sort Go.Shelf Go.WideElems Go.WideShapes
set_option linter.unusedVariables false
namespace Fk

theorem sep_of_own {w w' : World} {E size n : Nat} {v : Value} {xs : List Value} (hb : Below w.heap.size w w') (h : w'.ownsRow w.heap.size E size v n xs) : Sep w w' [.row E size v n xs] := by
  refine ⟨hb, fun i x hx => ?_, fun i x g hx hg => ?_, fun i j x y g hij hx hy => ?_⟩
  · cases i with
    | zero => simp at hx; subst hx; exact Row.of_own h
    | succ i => simp at hx
  · cases i with
    | zero =>
      simp at hx
      subst hx
      change rowBlk v = some g at hg
      rcases h.2 with ⟨rfl, h0⟩ | ⟨g', cap, cur, rfl, hbs, _⟩
      · simp [rowBlk] at hg
      · cases cap with
        | zero => simp [rowBlk] at hg
        | succ cap => simp [rowBlk] at hg; omega
    | succ i => simp at hx
  · cases i with
    | zero =>
      cases j with
      | zero => exact absurd rfl hij
      | succ j => simp at hy
    | succ i => simp at hx

theorem sortsA (m : Nat) : AnyZI.SortsIn Tryz.prog Tryz.sortedI_ren Fence.wide m :=
  ⟨fun blk off cap ss W hH hblk hsz => callsIn_wide.2 (AnyM.slices_Sort_int Tryz.sortI blk off cap ss W hH hblk hsz),
   fun p cap W => callsIn_wide.2 (AnyM.slices_Sort_int_none Tryz.sortI p cap W)⟩

def Rn : Value → Option (DataW Unit × List MemPlace) := fun _ => some (.nil, [])
theorem own_map {α : Type} {enc : α → Value} {w0 w : World} {L : List It} {i g n : Nat} {h : Int → Option α} (H : Sep w0 w L) (hi : L[i]? = some (.map Tryz.prog 3 (Value.int .i64) enc g n h)) :
    ∃ (D0 : DataW Unit) (K : List Int), w.ownsMap Tryz.prog 3 Rn g n D0 ∧ K.Nodup ∧ (∀ x, x ∈ K ↔ (h x).isSome = true) ∧ K.length = n ∧ (intKeys D0).Perm K ∧ Maps.size D0 = n := by
  obtain ⟨es, clock, hb, M⟩ := H.all i _ hi
  obtain ⟨ks, h1, h2, h3, h4⟩ := M.keyList (kmk_int Tryz.underlying3)
  have hrd : ∀ x ∈ es.toList, ∃ y : Int, x.key = .int .i64 y ∧ WideElems.rd Tryz.prog 3 Rn x = some (.int .i64 y, .nil) := fun x hx => by
    obtain ⟨l, hl⟩ := M.fit.keys x hx
    obtain ⟨y, hy, rfl, _⟩ := Maps.keyOf_i64 Tryz.underlying3 hl
    exact ⟨y, hy, by unfold WideElems.rd; rw [hl]; rfl⟩
  have hP := sorted_perm (es.toList.map (rg Tryz.prog 3 Rn))
  refine ⟨_, ks, ⟨es, clock, hb, ⟨M.fit.size, M.fit.stamped, fun x hx => ?_⟩, by rw [M.size]; exact Nat.le_refl _, rfl⟩, h1, h4, h2, ?_, ?_⟩
  · obtain ⟨y, _, hy⟩ := hrd x hx
    exact ⟨_, hy⟩
  · have h5 : (intKeys (DataW.map ((es.toList.map (rg Tryz.prog 3 Rn)).foldr DataW.insert []))).Perm ((es.toList.map (rg Tryz.prog 3 Rn)).map fun p => Go.intOf p.1) := hP.map _
    have h6 : ∀ (l : List MapEntry) (ks : List Int), (∀ x ∈ l, ∃ y : Int, x.key = .int .i64 y ∧ WideElems.rd Tryz.prog 3 Rn x = some (.int .i64 y, .nil)) → l.map (·.key) = ks.map (Value.int .i64) → (l.map (rg Tryz.prog 3 Rn)).map (fun p => Go.intOf p.1) = ks := by
      intro l
      induction l with
      | nil =>
        intro ks _ e
        cases ks with
        | nil => rfl
        | cons a t => simp at e
      | cons x t ih =>
        intro ks hx e
        cases ks with
        | nil => simp at e
        | cons a t' =>
          simp only [List.map_cons, List.cons.injEq] at e ⊢
          obtain ⟨y, hy, hr⟩ := hx x (by simp)
          refine ⟨?_, ih t' (fun z hz => hx z (by simp [hz])) e.2⟩
          have he := e.1
          rw [hy] at he
          have he := (Value.int.inj he).2
          have hg : WideElems.rg Tryz.prog 3 Rn x = (.int .i64 y, .nil) := by
            unfold WideElems.rg
            rw [hr, Option.getD_some]
          rw [hg, ← he]
          rfl
    rw [h6 _ _ hrd h3] at h5
    exact h5
  · rw [Maps.size_eq, hP.length_eq, List.length_map, ← M.size]
    simp

theorem icell_encZ (l : List Int) : l.map encZ = l.flatMap icell := by
  induction l with
  | nil => rfl
  | cons x t ih => rw [List.map_cons, ih, List.flatMap_cons]; rfl
theorem sort_lt {K ss : List Int} (hK : K.Nodup) (hp : ss.Perm K) : (ss.mergeSort (fun x y => decide (x ≤ y))).Pairwise (· < ·) ∧ ∀ x, x ∈ ss.mergeSort (fun x y => decide (x ≤ y)) ↔ x ∈ K := by
  have hp2 := (List.mergeSort_perm ss (fun x y => decide (x ≤ y))).trans hp
  have h1 := List.pairwise_mergeSort (le := fun x y : Int => decide (x ≤ y)) (fun a b c h1 h2 => by simp at *; omega) (fun a b => by simp; omega) ss
  have h2 : (ss.mergeSort (fun x y => decide (x ≤ y))).Nodup := hp2.nodup_iff.2 hK
  exact ⟨h1.imp₂ (fun a b h3 h4 => by simp at h3; omega) h2, fun x => hp2.mem_iff⟩

theorem keys_any (g : Nat) (w : World) : Calls Tryz.prog 35 #[.map (some g)] w (fun e w' => e = .returned (.func (.func 53) #[] #[.pointer (some ⟨w.heap.size, 0, none⟩)]) ∧ w' = w.alloc (.cells #[.map (some g)] 53)) :=
  callsIn_wide.1 (AnyZI.keys_in Tryz.keysI Fence.wide 5 trivial rfl (some g) w)

theorem sorted_any {α : Type} {enc : α → Value} (w0 w : World) (L : List It) (i g n : Nat) (h : Int → Option α) (H : Sep w0 w L) (hi : L[i]? = some (.map Tryz.prog 3 (Value.int .i64) enc g n h)) (hn : n ≤ 1099511627776) :
    Calls Tryz.prog 34 #[.func (.func 53) #[] #[.pointer (some ⟨w.heap.size, 0, none⟩)]] (w.alloc (.cells #[.map (some g)] 53)) (fun e w' => ∃ (A : Option Addr) (c : Nat) (S : List Int), e = .returned (.slice A n c) ∧ Hid (S.length = n ∧ S.Pairwise (· < ·) ∧ ∀ x, x ∈ S ↔ (h x).isSome = true) ∧ Sep w0 w' (L ++ [.row 3 1 (.slice A n c) n (S.flatMap icell)])) := by
  obtain ⟨D0, K, hown, hK, hKm, hKl, hperm, hsize⟩ := own_map H hi
  have hbl := hown.lt
  have hseq : SeqGives Fence.wide 2 Tryz.prog 53 #[.pointer (some ⟨w.heap.size, 0, none⟩)] encZ (fun ss => ss.Perm (intKeys D0)) (Maps.size D0) (w.alloc (.cells #[.map (some g)] 53)) :=
    AnyZI.keys_gives (ρ := Tryz.keysI_ren) { Tryz.keysI with } Fence.wide _ trivial rfl (by omega) w.heap.size g n D0 _ (by simp) (by simp) (by
      obtain ⟨es, clock, hb, Ft, hs, hD⟩ := hown
      exact ⟨es, clock, (Below.heap_alloc _ _ g hbl).trans hb, Ft, hs, hD⟩)
  have cS := AnyZI.sorted_in Tryz.sortedI Fence.wide 5 trivial trivial trivial trivial rfl (by omega) (sortsA _) (enters_of Tryz.func52 (by kernel_rfl) rfl) 53 #[.pointer (some ⟨w.heap.size, 0, none⟩)] trivial (enters_of Tryz.func53 (by kernel_rfl) rfl) _ _ (by rw [hsize]; simp only [maxLen]; omega) (by omega) _ hseq
  change CallsIn _ _ Tryz.prog 34 _ _ _ at cS
  refine (callsIn_wide.1 cS).mono ?_
  rintro e w' ⟨v, ss, rfl, hS, hrow, _, hb⟩
  have hp := hS.trans hperm
  have hl : ss.length = n := by rw [hp.length_eq, hKl]
  rw [icell_encZ, hl] at hrow
  have hb2 : Below w.heap.size w w' := ((Below.refl _ w).alloc (Nat.le_refl _) _).trans (hb.mono (by simp))
  have hrow1 := ownsRow_base_a hrow (show w.heap.size ≤ _ by simp)
  have K1 := sep_of_own hb2 hrow1
  obtain ⟨A, c, hv⟩ := own_slice hrow1
  have ⟨s1, s2⟩ := sort_lt hK hp
  rw [hv] at K1
  exact ⟨A, c, ss.mergeSort (fun x y => decide (x ≤ y)), by rw [hv], Lib.hid ⟨by rw [List.length_mergeSort, hl], s1, fun x => Iff.trans (s2 x) (hKm x)⟩, H.join K1⟩
end Fk
end Go.Proofs.YtjopiepfjbnkbaaGreatDoor
