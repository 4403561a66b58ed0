/-
  The plain law of repairing claims: who is first has a block; the marks, in order. Conditions: none beyond each theorem's own premises.
-/
import Derived.Test.YtlgknolcknlinaaMem
namespace Go.Proofs.Ytlgknolcknlinaa
set_option linter.unusedVariables false
namespace Fs
/-- the blocks of one claim that stay -/
def keepB (z : Int) (K : List Int) : List Int → List Int
  | [] => []
  | b :: t => if 0 ≤ b ∧ b < z ∧ b ∉ K then b :: keepB z (K ++ [b]) t else keepB z K t
def rep (z : Int) (K : List Int) : List (Int × List Int) → List (Int × List Int)
  | [] => []
  | p :: t => (p.1, keepB z K p.2) :: rep z (K ++ keepB z K p.2) t
def flat (l : List (Int × List Int)) : List Int := l.flatMap (·.2)
def rightF (z last : Int) : List Int → Bool
  | [] => true
  | m :: t => (decide (last < m) && decide (m < z)) && rightF z m t
def Good (z : Int) (K : List Int) : Prop := K.Nodup ∧ ∀ x ∈ K, 0 ≤ x ∧ x < z
theorem Good.nil (z : Int) : Good z [] := ⟨List.nodup_nil, by simp⟩
theorem Good.snoc {z b : Int} {K : List Int} (h : Good z K) (hb : 0 ≤ b ∧ b < z ∧ b ∉ K) : Good z (K ++ [b]) :=
  ⟨List.nodup_append.2 ⟨h.1, by simp, fun x hx y hy e => by simp at hy; subst hy; subst e; exact hb.2.2 hx⟩, fun x hx => by
    rcases List.mem_append.1 hx with h1 | h1
    · exact h.2 x h1
    · simp at h1; subst h1; exact ⟨hb.1, hb.2.1⟩⟩
theorem Good.keep {z : Int} : ∀ (l : List Int) {K : List Int}, Good z K → Good z (K ++ keepB z K l)
  | [], K, h => by simpa [keepB] using h
  | b :: t, K, h => by
    rw [keepB]
    split
    · rename_i hb
      have := Good.keep t (h.snoc hb)
      simpa [List.append_assoc] using this
    · exact Good.keep t h
theorem nodup_le : ∀ (n : Nat) (K : List Int), K.Nodup → (∀ x ∈ K, 0 ≤ x ∧ x < (n : Int)) → K.length ≤ n := by
  intro n
  induction n with
  | zero =>
    intro K _ h
    cases K with
    | nil => simp
    | cons x t => have := h x (by simp); omega
  | succ n ih =>
    intro K hn h
    by_cases hm : (n : Int) ∈ K
    · have h1 := ih (K.erase (n : Int)) (hn.erase _) (fun x hx => by
        have h2 := (hn.mem_erase_iff).1 hx
        have h3 := h x h2.2
        omega)
      have h2 := List.length_erase_of_mem hm
      omega
    · have h1 := ih K hn (fun x hx => by
        have h3 := h x hx
        have : x ≠ (n : Int) := fun e => hm (e ▸ hx)
        omega)
      omega
theorem Good.len {z : Int} {K : List Int} (h : Good z K) (hz : z ≤ 4096) : K.length ≤ 4096 := by
  refine nodup_le 4096 K h.1 fun x hx => ?_
  have := h.2 x hx
  omega
/-- the marks below g -/
def marks (K : List Int) (g : Nat) : List Int := ((List.range g).filter fun b : Nat => decide ((b : Int) ∈ K)).map fun b : Nat => (b : Int)
theorem marks_yes {K : List Int} {g : Nat} (h : (g : Int) ∈ K) : marks K (g + 1) = marks K g ++ [(g : Int)] := by
  simp [marks, List.range_succ, h]
theorem marks_no {K : List Int} {g : Nat} (h : (g : Int) ∉ K) : marks K (g + 1) = marks K g := by
  simp [marks, List.range_succ, h]
theorem marks_len (K : List Int) (g : Nat) : (marks K g).length ≤ g := by
  unfold marks
  rw [List.length_map]
  exact Nat.le_trans (List.length_filter_le _ _) (by simp)
theorem marks_mem {K : List Int} {z : Nat} (h : Good (z : Int) K) (x : Int) : x ∈ marks K z ↔ x ∈ K := by
  simp only [marks, List.mem_map, List.mem_filter, List.mem_range, decide_eq_true_eq]
  constructor
  · rintro ⟨b, ⟨_, hb⟩, rfl⟩
    exact hb
  · intro hx
    have := h.2 x hx
    exact ⟨x.toNat, ⟨by omega, by rw [Int.toNat_of_nonneg this.1]; exact hx⟩, Int.toNat_of_nonneg this.1⟩
theorem marks_od (K : List Int) (z : Nat) : (marks K z).Pairwise (· < ·) := by
  unfold marks
  refine List.pairwise_map.2 ?_
  refine (List.Pairwise.filter _ List.pairwise_lt_range).imp ?_
  intro a b h
  omega
theorem marks_sorted {K ss : List Int} {z : Nat} (h : Good (z : Int) K) (hp : ss.Perm K) : ss.mergeSort (fun x y => decide (x ≤ y)) = marks K z := by
  have hn : (marks K z).Nodup := (marks_od K z).imp (fun h e => by omega)
  have hp2 : (marks K z).Perm K := (List.perm_ext_iff_of_nodup hn h.1).2 fun x => marks_mem h x
  refine List.Perm.eq_of_pairwise (le := fun a b : Int => a ≤ b) (fun a b _ _ h1 h2 => by omega) ?_ ((marks_od K z).imp (fun h => by omega)) (((List.mergeSort_perm ss _).trans hp).trans hp2.symm)
  have := List.pairwise_mergeSort (le := fun x y : Int => decide (x ≤ y)) (fun a b c h1 h2 => by simp at *; omega) (fun a b => by simp; omega) ss
  exact this.imp (fun h => by simpa using h)
theorem flat_snoc (l : List (Int × List Int)) (p : Int × List Int) : flat (l ++ [p]) = flat l ++ p.2 := by simp [flat]
theorem rep_len (z : Int) : ∀ (l : List (Int × List Int)) (K : List Int), (rep z K l).length = l.length
  | [], K => rfl
  | p :: t, K => by rw [rep, List.length_cons, rep_len z t, List.length_cons]
/-- the outer loop's word: so far 'out', the rest is to come -/
def RTo (z : Int) (l : List (Int × List Int)) (k : Nat) (out : List (Int × List Int)) : Prop := rep z [] l = out ++ rep z (flat out) (l.drop k)
theorem RTo.zero (z : Int) (l : List (Int × List Int)) : RTo z l 0 [] := rfl
theorem RTo.next {z : Int} {l : List (Int × List Int)} {k : Nat} {out : List (Int × List Int)} (h : RTo z l k out) {p : Int × List Int} (hp : l[k]? = some p) : RTo z l (k + 1) (out ++ [(p.1, keepB z (flat out) p.2)]) := by
  unfold RTo at *
  obtain ⟨hl, e⟩ := List.getElem?_eq_some_iff.1 hp
  rw [h, List.drop_eq_getElem_cons hl, e, rep, flat_snoc]
  simp
theorem RTo.done {z : Int} {l : List (Int × List Int)} {out : List (Int × List Int)} (h : RTo z l l.length out) : out = rep z [] l := by
  unfold RTo at h
  rw [List.drop_length, rep, List.append_nil] at h
  exact h.symm
/-- the inner loop's word -/
def KTo (z : Int) (K bs : List Int) (j : Nat) (cur : List Int) : Prop := keepB z K bs = cur ++ keepB z (K ++ cur) (bs.drop j)
theorem KTo.zero (z : Int) (K bs : List Int) : KTo z K bs 0 [] := by simp [KTo]
theorem KTo.yes {z : Int} {K bs cur : List Int} {j : Nat} (h : KTo z K bs j cur) {b : Int} (hb : bs[j]? = some b) (h1 : 0 ≤ b ∧ b < z ∧ b ∉ K ++ cur) : KTo z K bs (j + 1) (cur ++ [b]) := by
  unfold KTo at *
  obtain ⟨hl, e⟩ := List.getElem?_eq_some_iff.1 hb
  rw [h, List.drop_eq_getElem_cons hl, e, keepB, if_pos h1]
  simp
theorem KTo.no {z : Int} {K bs cur : List Int} {j : Nat} (h : KTo z K bs j cur) {b : Int} (hb : bs[j]? = some b) (h1 : ¬ (0 ≤ b ∧ b < z ∧ b ∉ K ++ cur)) : KTo z K bs (j + 1) cur := by
  unfold KTo at *
  obtain ⟨hl, e⟩ := List.getElem?_eq_some_iff.1 hb
  rw [h, List.drop_eq_getElem_cons hl, e, keepB, if_neg h1]
theorem KTo.done {z : Int} {K bs cur : List Int} (h : KTo z K bs bs.length cur) : cur = keepB z K bs := by
  unfold KTo at h
  rw [List.drop_length, keepB, List.append_nil] at h
  exact h.symm
/-- how often a block is claimed -/
def cnt (l : List (Int × List Int)) (b : Int) : Nat := (flat l).count b
theorem rightF_step {z last : Int} {l : List Int} {k : Nat} {m : Int} (hm : l[k]? = some m) : rightF z last (l.drop k) = ((decide (last < m) && decide (m < z)) && rightF z m (l.drop (k + 1))) := by
  obtain ⟨hl, e⟩ := List.getElem?_eq_some_iff.1 hm
  rw [List.drop_eq_getElem_cons hl, e, rightF]
theorem rightF_end {z last : Int} {l : List Int} : rightF z last (l.drop l.length) = true := by rw [List.drop_length, rightF]
end Fs
end Go.Proofs.Ytlgknolcknlinaa
