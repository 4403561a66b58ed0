/-
  slices.Sorted(maps.Keys(m)) at a map of names of the call's own. Conditions: none beyond each theorem's own premises.
-/
import Derived.Test.YtgfldhdmdeeknaaGreatDoorSoW
import Derived.Test.YtgfldhdmdeeknaaGreatDoorShelfT
namespace Go.Proofs.YtgfldhdmdeeknaaGreatDoor
open Go.RowKit Go.Maps Go.Sort Go.Shelf Go.WideElems Go.WideShapes
set_option linter.unusedVariables false
namespace So
open Dr

theorem sep_of_own {w w' : World} {E size n : Nat} {v : Value} {xs : List Value} (hb : Below w.heap.size w w') (h : w'.ownsRow w.heap.size E size v n xs) : Sep w w' [.row E size v n xs] := by
  refine ⟨hb, fun i x hx => ?_, fun i x g hx hg => ?_, fun i j x y g hij hx hy => ?_⟩
  · cases i with
    | zero => simp at hx; subst hx; exact Row.of_own h
    | succ i => simp at hx
  · cases i with
    | zero =>
      simp at hx
      subst hx
      change rowBlk v = some g at hg
      rcases h.2 with ⟨rfl, h0⟩ | ⟨g', cap, cur, rfl, hbs, _⟩
      · simp [rowBlk] at hg
      · cases cap with
        | zero => simp [rowBlk] at hg
        | succ cap => simp [rowBlk] at hg; omega
    | succ i => simp at hx
  · cases i with
    | zero =>
      cases j with
      | zero => exact absurd rfl hij
      | succ j => simp at hy
    | succ i => simp at hx

/-! the order of the names -/
theorem lt_iff : ∀ a b : List UInt8, a < b ↔ Op.bytesLess a b = true
  | [], [] => by simp [Op.bytesLess]
  | [], _ :: _ => by simp [Op.bytesLess]
  | _ :: _, [] => by simp [Op.bytesLess]
  | x :: a, y :: b => by rw [bl_cons, List.cons_lt_cons_iff, lt_iff a b]
theorem le_bl (a b : List UInt8) : decide (a ≤ b) = !Op.bytesLess b a := by
  have h : (a ≤ b) ↔ ¬ (b < a) := Iff.rfl
  cases hb : Op.bytesLess b a with
  | true => rw [decide_eq_false]; rfl; rw [h, lt_iff, hb]; simp
  | false => rw [decide_eq_true]; rfl; rw [h, lt_iff, hb]; simp
theorem bl_asym {a b : List UInt8} (h : Op.bytesLess a b = true) : Op.bytesLess b a = false := by
  cases h2 : Op.bytesLess b a with
  | false => rfl
  | true =>
    have := bl_trans a b a h h2
    rw [bl_irr] at this
    cases this
theorem sort_inc {ss : List (List UInt8)} (hnd : ss.Nodup) : (ss.mergeSort (fun x y => decide (x ≤ y))).Pairwise (fun a b => Op.bytesLess a b = true) := by
  have h1 := List.pairwise_mergeSort (le := fun x y : List UInt8 => decide (x ≤ y)) (fun a b c h1 h2 => by
    simp only [le_bl] at *
    cases h : Op.bytesLess c a with
    | false => rfl
    | true =>
      by_cases e : b = a
      · subst e; rw [h] at h2; exact h2
      · rcases bl_tot b a e with h3 | h3
        · rw [h3] at h1; exact absurd h1 (by simp)
        · have := bl_trans c a b h h3
          rw [this] at h2; exact absurd h2 (by simp)) (fun a b => by
    simp only [le_bl]
    cases h : Op.bytesLess b a with
    | false => rfl
    | true => rw [bl_asym h]; rfl) ss
  have h2 : (ss.mergeSort (fun x y => decide (x ≤ y))).Nodup := (List.mergeSort_perm ss _).nodup_iff.2 hnd
  refine List.Pairwise.imp₂ (fun a b h3 h4 => ?_) h1 h2
  simp only [le_bl] at h3
  rcases bl_tot a b h4 with h5 | h5
  · exact h5
  · rw [h5] at h3; exact absurd h3 (by simp)

theorem sortsA (m : Nat) : AnyZ.SortsIn Tryz.prog Tryz.sortedA_ren Fence.wide m :=
  ⟨fun blk off cap ss W hH hblk hsz => callsIn_wide.2 (AnyM.slices_Sort_string Tryz.sortA blk off cap ss W hH hblk hsz),
   fun p cap W => callsIn_wide.2 (AnyM.slices_Sort_string_none Tryz.sortA p cap W)⟩

def Rn : Value → Option (DataW Unit × List MemPlace) := fun _ => some (.nil, [])
theorem own_map {w0 w : World} {L : List It} {i g n : Nat} {h : Fs} (H : Sep w0 w L) (hi : L[i]? = some (fm g n h)) :
    ∃ (D0 : DataW Unit) (K : List ByteArray), w.ownsMap Tryz.prog 9 Rn g n D0 ∧ K.Nodup ∧ (∀ x, x ∈ K ↔ (h x).isSome = true) ∧ K.length = n ∧ (strKeys D0).Perm (K.map (·.data.toList)) ∧ Maps.size D0 = n := by
  obtain ⟨es, clock, hb, M⟩ := H.all i _ hi
  obtain ⟨ks, h1, h2, h3, h4⟩ := M.keyList kstr
  have hrd : ∀ x ∈ es.toList, ∃ y : List UInt8, x.key = encStr y ∧ WideElems.rd Tryz.prog 9 Rn x = some (.string y, .nil) := fun x hx => by
    obtain ⟨l, hl⟩ := M.fit.keys x hx
    obtain ⟨y, hy, rfl, _⟩ := Maps.keyOf_str Tryz.underlying9 hl
    exact ⟨y, hy, by unfold WideElems.rd; rw [hl]; rfl⟩
  have hP := sorted_perm (es.toList.map (rg Tryz.prog 9 Rn))
  refine ⟨_, ks, ⟨es, clock, hb, ⟨M.fit.size, M.fit.stamped, fun x hx => ?_⟩, by rw [M.size]; exact Nat.le_refl _, rfl⟩, h1, h4, h2, ?_, ?_⟩
  · obtain ⟨y, _, hy⟩ := hrd x hx
    exact ⟨_, hy⟩
  · have h5 : (strKeys (DataW.map ((es.toList.map (rg Tryz.prog 9 Rn)).foldr DataW.insert []))).Perm ((es.toList.map (rg Tryz.prog 9 Rn)).map fun p => Go.strOf p.1) := hP.map _
    have h6 : ∀ (l : List MapEntry) (ks : List ByteArray), (∀ x ∈ l, ∃ y : List UInt8, x.key = encStr y ∧ WideElems.rd Tryz.prog 9 Rn x = some (.string y, .nil)) → l.map (·.key) = ks.map Value.string → (l.map (rg Tryz.prog 9 Rn)).map (fun p => Go.strOf p.1) = ks.map (·.data.toList) := by
      intro l
      induction l with
      | nil =>
        intro ks _ e
        cases ks with
        | nil => rfl
        | cons a t => simp at e
      | cons x t ih =>
        intro ks hx e
        cases ks with
        | nil => simp at e
        | cons a t' =>
          simp only [List.map_cons, List.cons.injEq] at e ⊢
          obtain ⟨y, hy, hr⟩ := hx x (by simp)
          refine ⟨?_, ih t' (fun z hz => hx z (by simp [hz])) e.2⟩
          have he := e.1
          rw [hy] at he
          have he := Value.string.inj he
          have hg : WideElems.rg Tryz.prog 9 Rn x = (.string y, .nil) := by
            unfold WideElems.rg
            rw [hr, Option.getD_some]
          rw [hg, ← he]
          rfl
    rw [h6 _ _ hrd h3] at h5
    exact h5
  · rw [Maps.size_eq, hP.length_eq, List.length_map, ← M.size]
    simp

def kc (x : ByteArray) : List Value := [.string x]
theorem kc_len : ∀ x, (kc x).length = 1 := fun _ => rfl
theorem kc_enc (l : List (List UInt8)) : l.map encStr = (l.map fun x : List UInt8 => (⟨x.toArray⟩ : ByteArray)).flatMap kc := by
  induction l with
  | nil => rfl
  | cons x t ih => rw [List.map_cons, ih, List.map_cons, List.flatMap_cons]; rfl
theorem data_inj {x y : ByteArray} (h : x.data.toList = y.data.toList) : x = y := ByteArray.ext (Array.ext' h)
theorem mk_data (x : ByteArray) : (⟨x.data.toList.toArray⟩ : ByteArray) = x := by simp

theorem keys_any (g : Nat) (w : World) : Calls Tryz.prog 25 #[.map (some g)] w (fun e w' => e = .returned (.func (.func 38) #[] #[.pointer (some ⟨w.heap.size, 0, none⟩)]) ∧ w' = w.alloc (.cells #[.map (some g)] 67)) :=
  callsIn_wide.1 (AnyZ.keys_in Tryz.keysA Fence.wide 5 trivial rfl (some g) w)

theorem sorted_any (w0 w : World) (L : List It) (i g n : Nat) (h : Fs) (H : Sep w0 w L) (hi : L[i]? = some (fm g n h)) (hn : n ≤ 2932031007403) :
    Calls Tryz.prog 24 #[.func (.func 38) #[] #[.pointer (some ⟨w.heap.size, 0, none⟩)]] (w.alloc (.cells #[.map (some g)] 67)) (fun e w' => ∃ (A : Option Addr) (c : Nat) (S : List ByteArray), e = .returned (.slice A n c) ∧ Hid (S.length = n ∧ S.Pairwise (fun a b => ltN a b = true) ∧ ∀ x, x ∈ S ↔ (h x).isSome = true) ∧ Sep w0 w' (L ++ [.row 9 1 (.slice A n c) n (S.flatMap kc)])) := by
  obtain ⟨D0, K, hown, hK, hKm, hKl, hperm, hsize⟩ := own_map H hi
  have hbl := hown.lt
  have hseq : SeqGives Fence.wide 2 Tryz.prog 38 #[.pointer (some ⟨w.heap.size, 0, none⟩)] encStr (fun ss => ss.Perm (strKeys D0)) (Maps.size D0) (w.alloc (.cells #[.map (some g)] 67)) :=
    AnyZ.keys_gives (ρ := Tryz.keysA_ren) { Tryz.keysA with } Fence.wide _ trivial rfl (by omega) w.heap.size g n D0 _ (by simp) (by simp) (by
      obtain ⟨es, clock, hb, Ft, hs, hD⟩ := hown
      exact ⟨es, clock, (Below.heap_alloc _ _ g hbl).trans hb, Ft, hs, hD⟩)
  have cS := AnyZ.sorted_in Tryz.sortedA Fence.wide 5 trivial trivial trivial trivial rfl (by omega) (sortsA _) (enters_of Tryz.func37 (by kernel_rfl) rfl) 38 #[.pointer (some ⟨w.heap.size, 0, none⟩)] trivial (enters_of Tryz.func38 (by kernel_rfl) rfl) _ _ (by rw [hsize]; unfold maxLen; omega) (by rw [hsize]; omega) _ hseq
  change CallsIn _ _ Tryz.prog 24 _ _ _ at cS
  refine (callsIn_wide.1 cS).mono ?_
  rintro e w' ⟨v, ss, rfl, hS, hrow, _, hb⟩
  have hp := hS.trans hperm
  have hl : ss.length = n := by rw [hp.length_eq, List.length_map, hKl]
  rw [kc_enc, hl] at hrow
  have hb2 : Below w.heap.size w w' := ((Below.refl _ w).alloc (Nat.le_refl _) _).trans (hb.mono (by simp))
  have hrow1 := ownsRow_base_a hrow (show w.heap.size ≤ _ by simp)
  have K1 := sep_of_own hb2 hrow1
  obtain ⟨A, c, hv⟩ := own_slice hrow1
  rw [hv] at K1
  have hnd : ss.Nodup := hp.nodup_iff.2 (List.pairwise_map.2 (hK.imp fun hab e => hab (data_inj e)))
  refine ⟨A, c, (ss.mergeSort (fun x y => decide (x ≤ y))).map fun x : List UInt8 => (⟨x.toArray⟩ : ByteArray), by rw [hv], Lib.hid ⟨by rw [List.length_map, List.length_mergeSort, hl], ?_, fun x => ?_⟩, H.join K1⟩
  · refine List.pairwise_map.2 ((sort_inc hnd).imp fun {a b} hab => ?_)
    unfold ltN
    rw [ByteArray.toList_eq, ByteArray.toList_eq]
    simpa using hab
  · rw [List.mem_map, ← hKm]
    constructor
    · rintro ⟨y, hy, rfl⟩
      have h1 := hp.mem_iff.1 ((List.mergeSort_perm ss _).mem_iff.1 hy)
      obtain ⟨z, hz, rfl⟩ := List.mem_map.1 h1
      rw [mk_data]
      exact hz
    · intro hx
      exact ⟨x.data.toList, (List.mergeSort_perm ss _).mem_iff.2 (hp.mem_iff.2 (List.mem_map.2 ⟨x, hx, rfl⟩)), mk_data x⟩
end So
end Go.Proofs.YtgfldhdmdeeknaaGreatDoor
