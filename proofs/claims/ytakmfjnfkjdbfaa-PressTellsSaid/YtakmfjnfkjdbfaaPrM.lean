/-
  The plain law of packed bytes: pieces, runs and what they make. Conditions: none beyond each theorem's own premises.
-/
import Derived.Test.YtakmfjnfkjdbfaaStrB
namespace Go.Proofs.Ytakmfjnfkjdbfaa
namespace Pr
set_option linter.unusedVariables false

/-- how long the run at the head is, at most c -/
def runN : Nat → Nat → List Nat → Nat
  | 0, _, _ => 0
  | _ + 1, _, [] => 0
  | c + 1, x, y :: t => if y = x then runN c x t + 1 else 0
def runL : List Nat → Nat
  | [] => 0
  | x :: t => runN 128 x (x :: t)
theorem runN_is : ∀ (c x : Nat) (l : List Nat), runN c x l ≤ c ∧ runN c x l ≤ l.length ∧ (∀ i, i < runN c x l → l[i]? = some x) ∧ (runN c x l = c ∨ runN c x l = l.length ∨ ∃ y, l[runN c x l]? = some y ∧ y ≠ x)
  | 0, x, l => ⟨Nat.le_refl _, Nat.zero_le _, fun i h => absurd h (Nat.not_lt_zero _), .inl rfl⟩
  | c + 1, x, [] => ⟨Nat.zero_le _, Nat.zero_le _, fun i h => absurd h (Nat.not_lt_zero _), .inr (.inl rfl)⟩
  | c + 1, x, y :: t => by
    obtain ⟨h1, h2, h3, h4⟩ := runN_is c x t
    by_cases hy : y = x
    · rw [runN, if_pos hy]
      refine ⟨by omega, by simpa using h2, fun i hi => ?_, ?_⟩
      · cases i with
        | zero => simp [hy]
        | succ i => simpa using h3 i (by omega)
      · rcases h4 with h4 | h4 | ⟨z, h4, h5⟩
        · exact .inl (by omega)
        · exact .inr (.inl (by simpa using h4))
        · exact .inr (.inr ⟨z, by simpa using h4, h5⟩)
    · rw [runN, if_neg hy]
      exact ⟨Nat.zero_le _, Nat.zero_le _, fun i h => absurd h (Nat.not_lt_zero _), .inr (.inr ⟨y, rfl, hy⟩)⟩
theorem runL_is (x : Nat) (t : List Nat) : runL (x :: t) ≤ 128 ∧ runL (x :: t) ≤ t.length + 1 ∧ (∀ i, i < runL (x :: t) → (x :: t)[i]? = some x) ∧ (runL (x :: t) = 128 ∨ runL (x :: t) = t.length + 1 ∨ ∃ y, (x :: t)[runL (x :: t)]? = some y ∧ y ≠ x) := by
  have := runN_is 128 x (x :: t)
  simpa [runL] using this
theorem runL_pos (x : Nat) (t : List Nat) : 1 ≤ runL (x :: t) := by simp [runL, runN]

def fl (p : List Nat) : List Nat := if p = [] then [] else (p.length - 1) :: p
/-- what is made of a pending piece p and the rest -/
inductive Pk : List Nat → List Nat → List Nat → Prop
  | done (p : List Nat) : Pk p [] (fl p)
  | run {p : List Nat} {x : Nat} {t o : List Nat} : 3 ≤ runL (x :: t) → Pk [] ((x :: t).drop (runL (x :: t))) o → Pk p (x :: t) (fl p ++ (runL (x :: t) + 127) :: x :: o)
  | plain {p : List Nat} {x : Nat} {t o : List Nat} : runL (x :: t) < 3 → p.length + 1 < 128 → Pk (p ++ [x]) t o → Pk p (x :: t) o
  | full {p : List Nat} {x : Nat} {t o : List Nat} : runL (x :: t) < 3 → p.length + 1 = 128 → Pk [] t o → Pk p (x :: t) (fl (p ++ [x]) ++ o)
theorem pk_ex : ∀ (n : Nat) (r p : List Nat), r.length ≤ n → p.length < 128 → ∃ o, Pk p r o
  | _, [], p, _, _ => ⟨_, .done p⟩
  | 0, x :: t, p, h, _ => by simp at h
  | n + 1, x :: t, p, h, hp => by
    simp at h
    by_cases h3 : 3 ≤ runL (x :: t)
    · obtain ⟨o, ho⟩ := pk_ex n ((x :: t).drop (runL (x :: t))) [] (by simp; omega) (by simp)
      exact ⟨_, .run h3 ho⟩
    · by_cases h4 : p.length + 1 < 128
      · obtain ⟨o, ho⟩ := pk_ex n t (p ++ [x]) h (by simp; omega)
        exact ⟨_, .plain (by omega) h4 ho⟩
      · obtain ⟨o, ho⟩ := pk_ex n t [] h (by simp)
        exact ⟨_, .full (by omega) (by omega) ho⟩
/-- the bytes of what is made are bytes -/
theorem pk_bytes {p r o : List Nat} (h : Pk p r o) : (∀ x ∈ p, x < 256) → (∀ x ∈ r, x < 256) → p.length < 128 → ∀ x ∈ o, x < 256 := by
  have hfl : ∀ q : List Nat, (∀ x ∈ q, x < 256) → q.length ≤ 128 → ∀ x ∈ fl q, x < 256 := fun q h1 h2 x hx => by
    unfold fl at hx
    split at hx
    · simp at hx
    · rcases List.mem_cons.1 hx with rfl | hx
      · omega
      · exact h1 x hx
  induction h with
  | done p => exact fun h1 _ h3 => hfl p h1 (by omega)
  | @run p x t o h3 h4 ih =>
    intro h1 h2 hp y hy
    have hx := h2 x (by simp)
    have hr := (runL_is x t).1
    rcases List.mem_append.1 hy with hy | hy
    · exact hfl p h1 (by omega) y hy
    · rcases List.mem_cons.1 hy with rfl | hy
      · omega
      · rcases List.mem_cons.1 hy with rfl | hy
        · exact hx
        · exact ih (by simp) (fun z hz => h2 z (List.mem_of_mem_drop hz)) (by simp) y hy
  | @plain p x t o h3 h4 h5 ih =>
    intro h1 h2 hp
    exact ih (fun z hz => by
      rcases List.mem_append.1 hz with hz | hz
      · exact h1 z hz
      · simp at hz
        subst hz
        exact h2 z (by simp)) (fun z hz => h2 z (by simp [hz])) (by simp; omega)
  | @full p x t o h3 h4 h5 ih =>
    intro h1 h2 hp y hy
    rcases List.mem_append.1 hy with hy | hy
    · exact hfl _ (fun z hz => by
        rcases List.mem_append.1 hz with hz | hz
        · exact h1 z hz
        · simp at hz
          subst hz
          exact h2 z (by simp)) (by simp; omega) y hy
    · exact ih (by simp) (fun z hz => h2 z (by simp [hz])) (by simp) y hy

/-- unpacking: what has come out, the rest, what is answered: the bytes, what is wrong -/
inductive Un : List Nat → List Nat → List Nat → Nat → Prop
  | done (out : List Nat) : Un out [] out 0
  | short {out : List Nat} {x : Nat} {t : List Nat} : (128 ≤ x → t.length + 1 < 2) → (x < 128 → t.length + 1 < x + 2) → Un out (x :: t) [] 1
  | repBig {out : List Nat} {x y : Nat} {t : List Nat} : 128 ≤ x → 4096 < out.length + (x - 127) → Un out (x :: y :: t) [] 2
  | rep {out : List Nat} {x y : Nat} {t o : List Nat} {e : Nat} : 128 ≤ x → out.length + (x - 127) ≤ 4096 → Un (out ++ List.replicate (x - 127) y) t o e → Un out (x :: y :: t) o e
  | litBig {out : List Nat} {x : Nat} {t : List Nat} : x < 128 → x + 1 ≤ t.length → 4096 < out.length + (x + 1) → Un out (x :: t) [] 2
  | lit {out : List Nat} {x : Nat} {t o : List Nat} {e : Nat} : x < 128 → x + 1 ≤ t.length → out.length + (x + 1) ≤ 4096 → Un (out ++ t.take (x + 1)) (t.drop (x + 1)) o e → Un out (x :: t) o e
theorem un_ex : ∀ (n : Nat) (r out : List Nat), r.length ≤ n → (∀ x ∈ r, x < 256) → (∀ x ∈ out, x < 256) → out.length ≤ 4096 → ∃ o e, Un out r o e ∧ (∀ x ∈ o, x < 256) ∧ o.length ≤ 4096
  | _, [], out, _, _, h3, h4 => ⟨_, _, .done out, h3, h4⟩
  | 0, x :: t, out, h, _, _, _ => by simp at h
  | n + 1, x :: t, out, h, h2, h3, h4 => by
    simp at h
    by_cases hx : 128 ≤ x
    · cases t with
      | nil => exact ⟨_, _, .short (by simp) (by omega), by simp, by simp⟩
      | cons y t =>
        by_cases hb : 4096 < out.length + (x - 127)
        · exact ⟨_, _, .repBig hx hb, by simp, by simp⟩
        · obtain ⟨o, e, h5, h6, h7⟩ := un_ex n t (out ++ List.replicate (x - 127) y) (by simp at h; omega) (fun z hz => h2 z (by simp [hz])) (fun z hz => by
            rcases List.mem_append.1 hz with hz | hz
            · exact h3 z hz
            · rw [List.mem_replicate] at hz
              rw [hz.2]
              exact h2 y (by simp)) (by simp; omega)
          exact ⟨o, e, .rep hx (by omega) h5, h6, h7⟩
    · by_cases hl : x + 1 ≤ t.length
      · by_cases hb : 4096 < out.length + (x + 1)
        · exact ⟨_, _, .litBig (by omega) hl hb, by simp, by simp⟩
        · obtain ⟨o, e, h5, h6, h7⟩ := un_ex n (t.drop (x + 1)) (out ++ t.take (x + 1)) (by simp; omega) (fun z hz => h2 z (by simp [List.mem_of_mem_drop hz])) (fun z hz => by
            rcases List.mem_append.1 hz with hz | hz
            · exact h3 z hz
            · exact h2 z (by simp [List.mem_of_mem_take hz])) (by simp; omega)
          exact ⟨o, e, .lit (by omega) hl (by omega) h5, h6, h7⟩
      · exact ⟨_, _, .short (by omega) (by omega), by simp, by simp⟩
end Pr
end Go.Proofs.Ytakmfjnfkjdbfaa
