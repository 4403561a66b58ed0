/-
  The plain law of the faults: who is told where. Conditions: none beyond each theorem's own premises.
-/
import Derived.Test.YtjopiepfjbnkbaaGreatDoorFsB
namespace Go.Proofs.YtjopiepfjbnkbaaGreatDoor
set_option linter.unusedVariables false
namespace Fk
open Fs (cnt flat)
/-- what is marked block by block -/
def mk (p : Int → Bool) (g : Nat) : List Int := ((List.range g).filter fun b : Nat => p (b : Int)).map fun b : Nat => (b : Int)
theorem mk_yes {p : Int → Bool} {g : Nat} (h : p (g : Int) = true) : mk p (g + 1) = mk p g ++ [(g : Int)] := by
  simp [mk, List.range_succ, h]
theorem mk_no {p : Int → Bool} {g : Nat} (h : p (g : Int) = false) : mk p (g + 1) = mk p g := by
  simp [mk, List.range_succ, h]
theorem mk_len (p : Int → Bool) (g : Nat) : (mk p g).length ≤ g := by
  unfold mk
  rw [List.length_map]
  exact Nat.le_trans (List.length_filter_le _ _) (by simp)
theorem mk_mem {p : Int → Bool} {z : Nat} (x : Int) : x ∈ mk p z ↔ (0 ≤ x ∧ x < (z : Int)) ∧ p x = true := by
  simp only [mk, List.mem_map, List.mem_filter, List.mem_range]
  constructor
  · rintro ⟨b, ⟨h1, hb⟩, rfl⟩
    exact ⟨⟨by omega, by omega⟩, hb⟩
  · rintro ⟨⟨h1, h2⟩, h3⟩
    exact ⟨x.toNat, ⟨by omega, by rw [Int.toNat_of_nonneg h1]; exact h3⟩, Int.toNat_of_nonneg h1⟩
theorem mk_od (p : Int → Bool) (z : Nat) : (mk p z).Pairwise (· < ·) := by
  unfold mk
  refine List.pairwise_map.2 ?_
  refine (List.Pairwise.filter _ List.pairwise_lt_range).imp ?_
  intro a b h
  omega
/-- two lists in order that hold the same are one -/
theorem od_one {l l' : List Int} (h : l.Pairwise (· < ·)) (h' : l'.Pairwise (· < ·)) (hm : ∀ x, x ∈ l ↔ x ∈ l') : l = l' := by
  have n1 : l.Nodup := h.imp (fun h e => by omega)
  have n2 : l'.Nodup := h'.imp (fun h e => by omega)
  exact List.Perm.eq_of_pairwise (le := fun a b : Int => a ≤ b) (fun a b _ _ h1 h2 => by omega) (h.imp (fun h => by omega)) (h'.imp (fun h => by omega)) ((List.perm_ext_iff_of_nodup n1 n2).2 hm)
/-- the blocks outside, each once, as they come -/
def outB (z b : Int) : Bool := decide (b < 0) || decide (b ≥ z)
def nones (z : Int) (N : List Int) : List Int → List Int
  | [] => N
  | b :: t => if outB z b = true ∧ b ∉ N then nones z (N ++ [b]) t else nones z N t
theorem nones_mem {z : Int} : ∀ (F N : List Int) (x : Int), x ∈ nones z N F ↔ x ∈ N ∨ (x ∈ F ∧ outB z x = true)
  | [], N, x => by simp [nones]
  | b :: t, N, x => by
    rw [nones]
    split
    · rename_i h
      rw [nones_mem t, List.mem_append, List.mem_singleton, List.mem_cons]
      constructor
      · rintro ((h1 | rfl) | h1)
        · exact .inl h1
        · exact .inr ⟨.inl rfl, h.1⟩
        · exact .inr ⟨.inr h1.1, h1.2⟩
      · rintro (h1 | ⟨rfl | h1, h2⟩)
        · exact .inl (.inl h1)
        · exact .inl (.inr rfl)
        · exact .inr ⟨h1, h2⟩
    · rename_i h
      rw [nones_mem t, List.mem_cons]
      constructor
      · rintro (h1 | h1)
        · exact .inl h1
        · exact .inr ⟨.inr h1.1, h1.2⟩
      · rintro (h1 | ⟨rfl | h1, h2⟩)
        · exact .inl h1
        · by_cases hx : x ∈ N
          · exact .inl hx
          · exact absurd ⟨h2, hx⟩ h
        · exact .inr ⟨h1, h2⟩
theorem nones_nodup {z : Int} : ∀ (F N : List Int), N.Nodup → (nones z N F).Nodup
  | [], N, h => h
  | b :: t, N, h => by
    rw [nones]
    split
    · rename_i hb
      exact nones_nodup t _ (List.nodup_append.2 ⟨h, by simp, fun x hx y hy e => by simp at hy; subst hy; subst e; exact hb.2 hx⟩)
    · exact nones_nodup t _ h
theorem nones_len {z : Int} : ∀ (F N : List Int), (nones z N F).length ≤ N.length + F.length
  | [], N => by simp [nones]
  | b :: t, N => by
    rw [nones]
    split
    · have := nones_len t (N ++ [b]) (z := z)
      simp at this ⊢
      omega
    · have := nones_len t N (z := z)
      simp
      omega
theorem nones_app {z : Int} : ∀ (F G N : List Int), nones z N (F ++ G) = nones z (nones z N F) G
  | [], G, N => rfl
  | b :: t, G, N => by
    rw [List.cons_append, nones, nones]
    split
    · exact nones_app t G _
    · exact nones_app t G _
theorem nones_yes {z : Int} {N : List Int} {b : Int} (h : outB z b = true) (hn : b ∉ N) : nones z N [b] = N ++ [b] := by
  rw [nones, if_pos ⟨h, hn⟩, nones]
theorem nones_no {z : Int} {N : List Int} {b : Int} (h : ¬ (outB z b = true ∧ b ∉ N)) : nones z N [b] = N := by
  rw [nones, if_neg h, nones]

/-- the answer -/
structure Fa where
  (twice lost unm none_ : List Int)
/-- the reference's, block by block -/
def pT (F : List Int) (b : Int) : Bool := decide (1 < F.count b)
def pL (F ms : List Int) (b : Int) : Bool := decide (F.count b = 0) && decide (b ∈ ms)
def pU (F ms : List Int) (b : Int) : Bool := decide (0 < F.count b) && decide (b ∉ ms)
def FOk (z : Nat) (F ms : List Int) (a : Fa) : Prop :=
  a.twice = mk (pT F) z ∧ a.lost = mk (pL F ms) z ∧ a.unm = mk (pU F ms) z ∧ a.none_.Pairwise (· < ·) ∧ ∀ x, x ∈ a.none_ ↔ (x ∈ F ∧ outB (z : Int) x = true)
theorem FOk.one {z : Nat} {F ms : List Int} {a b : Fa} (h : FOk z F ms a) (h' : FOk z F ms b) : a = b := by
  obtain ⟨a1, a2, a3, a4⟩ := a
  obtain ⟨b1, b2, b3, b4⟩ := b
  obtain ⟨h1, h2, h3, h4, h5⟩ := h
  obtain ⟨g1, g2, g3, g4, g5⟩ := h'
  simp only at h1 h2 h3 h4 h5 g1 g2 g3 g4 g5
  rw [h1, h2, h3, g1, g2, g3, od_one h4 g4 (fun x => (h5 x).trans (g5 x).symm)]
/-- the program's: out of the keys in order -/
theorem filter_od {S : List Int} (hS : S.Pairwise (· < ·)) (p : Int → Bool) : (S.filter p).Pairwise (· < ·) := hS.filter _
theorem prog_ok {z : Nat} {F ms S : List Int} (hS : S.Pairwise (· < ·)) (hSF : ∀ x, x ∈ S ↔ x ∈ F) (hms : ms.Pairwise (· < ·)) (hmz : ∀ x ∈ ms, 0 ≤ x ∧ x < (z : Int)) :
    FOk z F ms ⟨S.filter (fun b => !outB (z : Int) b && pT F b), ms.filter (fun b => decide (F.count b = 0)), S.filter (fun b => !outB (z : Int) b && decide (b ∉ ms)), S.filter (fun b => outB (z : Int) b)⟩ := by
  have ho : ∀ x : Int, (!outB (z : Int) x) = true ↔ (0 ≤ x ∧ x < (z : Int)) := fun x => by simp [outB]
  refine ⟨od_one (filter_od hS _) (mk_od _ _) fun x => ?_, od_one (filter_od hms _) (mk_od _ _) fun x => ?_, od_one (filter_od hS _) (mk_od _ _) fun x => ?_, filter_od hS _, fun x => ?_⟩
  · rw [List.mem_filter, mk_mem, Bool.and_eq_true, ho, hSF]
    constructor
    · rintro ⟨h1, h2, h3⟩
      exact ⟨h2, h3⟩
    · rintro ⟨h2, h3⟩
      refine ⟨?_, h2, h3⟩
      have : 1 < F.count x := by simpa [pT] using h3
      exact List.count_pos_iff.1 (by omega)
  · rw [List.mem_filter, mk_mem]
    unfold pL
    rw [Bool.and_eq_true, decide_eq_true_eq, decide_eq_true_eq]
    constructor
    · rintro ⟨h1, h2⟩
      exact ⟨hmz x h1, h2, h1⟩
    · rintro ⟨_, h2, h1⟩
      exact ⟨h1, h2⟩
  · rw [List.mem_filter, mk_mem, Bool.and_eq_true, ho, hSF]
    unfold pU
    rw [Bool.and_eq_true, decide_eq_true_eq, decide_eq_true_eq]
    constructor
    · rintro ⟨h1, h2, h3⟩
      exact ⟨h2, List.count_pos_iff.2 h1, h3⟩
    · rintro ⟨h2, h3, h4⟩
      exact ⟨List.count_pos_iff.1 h3, h2, h4⟩
  · rw [List.mem_filter, hSF]
theorem right_od {z : Int} : ∀ (l : List Int) (last : Int), Fs.rightF z last l = true → l.Pairwise (· < ·) ∧ ∀ x ∈ l, last < x ∧ x < z
  | [], last, _ => ⟨.nil, by simp⟩
  | m :: t, last, h => by
    rw [Fs.rightF, Bool.and_eq_true, Bool.and_eq_true, decide_eq_true_eq, decide_eq_true_eq] at h
    obtain ⟨⟨h1, h2⟩, h3⟩ := h
    obtain ⟨g1, g2⟩ := right_od t m h3
    refine ⟨List.pairwise_cons.2 ⟨fun x hx => (g2 x hx).1, g1⟩, fun x hx => ?_⟩
    rcases List.mem_cons.1 hx with rfl | hx
    · exact ⟨h1, h2⟩
    · have := g2 x hx
      exact ⟨by omega, this.2⟩
end Fk
end Go.Proofs.YtjopiepfjbnkbaaGreatDoor
