/-
  The plain law of remapping: where each number was written last; what an operation does to the list of all that was written.
-/
import Derived.Test.YtcndddjnlnigeaaRows
namespace Go.Proofs.Ytcndddjnlnigeaa
namespace Rmp

/-- the first k of f, then z, sixteen in all -/
def mk16 (f : Nat → Int) (z : Int) (k : Nat) : List Int := (List.range 16).map fun i => if i < k then f i else z
theorem mk16_len (f : Nat → Int) (z : Int) (k : Nat) : (mk16 f z k).length = 16 := by simp [mk16]
theorem mk16_at {f : Nat → Int} {z : Int} {k i : Nat} (h : i < 16) : (mk16 f z k)[i]? = some (if i < k then f i else z) := by simp [mk16, h]
theorem mk16_set {f : Nat → Int} {z : Int} {k : Nat} (h : k < 16) : (mk16 f z k).set k (f k) = mk16 f z (k + 1) := by
  apply List.ext_getElem?
  intro i
  rw [List.getElem?_set]
  by_cases hi : i < 16
  · rw [mk16_at hi, mk16_at hi, mk16_len]
    by_cases hik : k = i
    · subst hik
      simp [h]
    · simp only [hik, if_false]
      by_cases h2 : i < k
      · rw [if_pos h2, if_pos (by omega)]
      · rw [if_neg h2, if_neg (by omega)]
  · have h1 : (mk16 f z k)[i]? = none := List.getElem?_eq_none (by rw [mk16_len]; omega)
    have h2 : (mk16 f z (k + 1))[i]? = none := List.getElem?_eq_none (by rw [mk16_len]; omega)
    rw [h1, h2, mk16_len]
    by_cases hik : k = i
    · omega
    · simp [hik]
def zero16 : List Int := [0, 0, 0, 0, 0, 0, 0, 0, 0, 0, 0, 0, 0, 0, 0, 0]
def neg16 : List Int := [-1, -1, -1, -1, -1, -1, -1, -1, -1, -1, -1, -1, -1, -1, -1, -1]
theorem mk16_zero (f : Nat → Int) : mk16 f 0 0 = zero16 := by simp [mk16, zero16]; decide
theorem mk16_neg : mk16 (fun _ => -1) 0 16 = neg16 := by decide
theorem ext16 {l : List Int} (h : l.length = 16) (f : Nat → Int) (z : Int) (hf : ∀ i, i < 16 → l[i]? = some (f i)) : l = mk16 f z 16 := by
  apply List.ext_getElem?
  intro i
  by_cases hi : i < 16
  · rw [hf i hi, mk16_at hi, if_pos hi]
  · rw [List.getElem?_eq_none (by omega), List.getElem?_eq_none (by rw [mk16_len]; omega)]

def bad (n : Int) : Prop := n < 0 ∨ 16 ≤ n
instance (n : Int) : Decidable (bad n) := by unfold bad; exact inferInstance
/-- remap.Again: the list from place i on -/
def agA (cur : List Int) (i : Nat) : List Int → List Int × Int
  | [] => (cur, 0)
  | n :: t => if bad n then (zero16, 1) else agA (cur.set n.toNat (i : Int)) (i + 1) t
/-- where n stands last, from place i on; else acc -/
def lastF (n : Int) : List Int → Nat → Int → Int
  | [], _, acc => acc
  | x :: t, i, acc => lastF n t (i + 1) (if x = n then (i : Int) else acc)
/-- the last place below k where n stands -/
def lastD (n : Int) (l : List Int) : Nat → Int
  | 0 => -1
  | k + 1 => if l[k]? = some n then (k : Int) else lastD n l k
theorem lastF_snoc (n x : Int) : ∀ (l : List Int) (i : Nat) (acc : Int), lastF n (l ++ [x]) i acc = if x = n then ((i + l.length : Nat) : Int) else lastF n l i acc
  | [], i, acc => by simp [lastF]
  | y :: t, i, acc => by
    rw [List.cons_append, lastF, lastF, lastF_snoc n x t]
    simp only [List.length_cons]
    rw [show i + 1 + t.length = i + (t.length + 1) by omega]
theorem lastD_take (n : Int) (l m : List Int) : ∀ k, k ≤ l.length → lastD n (l ++ m) k = lastD n l k
  | 0, _ => rfl
  | k + 1, h => by rw [lastD, lastD, lastD_take n l m k (by omega), List.getElem?_append_left (by omega)]
theorem snoc_ind {P : List Int → Prop} (h0 : P []) (h1 : ∀ l x, P l → P (l ++ [x])) (l : List Int) : P l := by
  have : ∀ m : List Int, P m.reverse := by
    intro m
    induction m with
    | nil => exact h0
    | cons x m ih => rw [List.reverse_cons]; exact h1 _ _ ih
  have := this l.reverse
  rwa [List.reverse_reverse] at this
theorem lastD_eq (n : Int) (l : List Int) : lastD n l l.length = lastF n l 0 (-1) := by
  refine snoc_ind (P := fun l => lastD n l l.length = lastF n l 0 (-1)) rfl (fun l x ih => ?_) l
  · rw [lastF_snoc, List.length_append, List.length_singleton, lastD, lastD_take n l [x] l.length (Nat.le_refl _), ih]
    rw [List.getElem?_append_right (Nat.le_refl _)]
    simp
theorem agA_bad : ∀ (l : List Int) (cur : List Int) (i : Nat), (∃ x ∈ l, bad x) → agA cur i l = (zero16, 1)
  | [], _, _, h => by obtain ⟨x, hx, _⟩ := h; cases hx
  | y :: t, cur, i, h => by
    rw [agA]
    split
    · rfl
    · rename_i hy
      obtain ⟨x, hx, hb⟩ := h
      rcases List.mem_cons.1 hx with rfl | hx
      · exact absurd hb hy
      · exact agA_bad t _ _ ⟨x, hx, hb⟩
theorem agA_good : ∀ (l : List Int) (cur : List Int) (i : Nat), cur.length = 16 → (∀ x ∈ l, ¬ bad x) → (agA cur i l).2 = 0 ∧ (agA cur i l).1.length = 16 ∧ ∀ n : Nat, n < 16 → (agA cur i l).1[n]? = some (lastF (n : Int) l i (cur.getD n 0))
  | [], cur, i, hc, _ => ⟨rfl, hc, fun n hn => by rw [agA, lastF, List.getD_eq_getElem?_getD, List.getElem?_eq_getElem (show n < cur.length by omega)]; rfl⟩
  | y :: t, cur, i, hc, h => by
    have hy := h y (by simp)
    rw [agA, if_neg hy]
    obtain ⟨h1, h2, h3⟩ := agA_good t (cur.set y.toNat (i : Int)) (i + 1) (by simp [hc]) (fun x hx => h x (by simp [hx]))
    refine ⟨h1, h2, fun n hn => ?_⟩
    rw [h3 n hn, lastF]
    unfold bad at hy
    congr 2
    rw [List.getD_eq_getElem?_getD, List.getD_eq_getElem?_getD, List.getElem?_set]
    by_cases hyn : y = (n : Int)
    · have : y.toNat = n := by omega
      have hlt : y.toNat < cur.length := by omega
      rw [if_pos this, if_pos hlt, if_pos hyn]
      rfl
    · have : ¬ y.toNat = n := by omega
      rw [if_neg this, if_neg hyn]
noncomputable def agE (l : List Int) : List Int × Int := agA neg16 0 l
theorem neg16_at (n : Nat) : neg16.getD n 0 = if n < 16 then -1 else 0 := by
  by_cases h : n < 16
  · have : ∀ n : Fin 16, neg16.getD n.val 0 = -1 := by decide
    rw [if_pos h]
    exact this ⟨n, h⟩
  · rw [if_neg h, List.getD_eq_getElem?_getD, List.getElem?_eq_none (by simp [neg16]; omega)]
    rfl
theorem agE_good {l : List Int} (h : ∀ x ∈ l, ¬ bad x) : agE l = (mk16 (fun n => lastD (n : Int) l l.length) 0 16, 0) := by
  obtain ⟨h1, h2, h3⟩ := agA_good l neg16 0 rfl h
  have : (agE l).1 = mk16 (fun n => lastD (n : Int) l l.length) 0 16 := ext16 h2 _ 0 fun i hi => by
    show (agA neg16 0 l).1[i]? = _
    rw [h3 i hi, neg16_at, if_pos hi, lastD_eq]
  exact Prod.ext this h1
theorem agE_bad {l : List Int} (h : ∃ x ∈ l, bad x) : agE l = (zero16, 1) := agA_bad l _ _ h
end Rmp
end Go.Proofs.Ytcndddjnlnigeaa
