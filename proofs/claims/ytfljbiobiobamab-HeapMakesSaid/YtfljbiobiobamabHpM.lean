/-
  The plain law of a heap: when it is right, what a push and a pop make of it.
-/
import Derived.Test.YtfljbiobiobamabRows
namespace Go.Proofs.Ytfljbiobiobamab
namespace Hp
set_option linter.unusedVariables false

structure W where
  (id wear : Int)
def lt (a b : W) : Bool := decide (a.wear < b.wear) || (decide (a.wear = b.wear) && decide (a.id < b.id))
theorem lt_trans {a b c : W} (h : lt a b = true) (h' : lt b c = true) : lt a c = true := by
  simp [lt] at *
  omega
/-- no element is less than the one above it -/
def Rt (l : List W) : Prop := ∀ k x y, 1 ≤ k → l[k]? = some x → l[(k - 1) / 2]? = some y → lt x y = false

/-- w, which lies at place k, goes up -/
inductive Up (w : W) : List W → Nat → List W → Prop
  | zero {l : List W} : Up w l 0 l
  | stop {l : List W} {k : Nat} {y : W} (hk : 0 < k) (hy : l[(k - 1) / 2]? = some y) (h : lt w y = false) : Up w l k l
  | go {l l' : List W} {k : Nat} {y : W} (hk : 0 < k) (hy : l[(k - 1) / 2]? = some y) (h : lt w y = true) (r : Up w ((l.set k y).set ((k - 1) / 2) w) ((k - 1) / 2) l') : Up w l k l'
theorem up_ex (w : W) : ∀ (n k : Nat) (l : List W), k ≤ n → k < l.length → ∃ l', Up w l k l' ∧ l'.length = l.length
  | n, 0, l, _, _ => ⟨l, .zero, rfl⟩
  | 0, k + 1, l, h, _ => absurd h (by omega)
  | n + 1, k + 1, l, h, hl => by
    obtain ⟨y, hy⟩ : ∃ y, l[(k + 1 - 1) / 2]? = some y := ⟨_, List.getElem?_eq_getElem (by omega)⟩
    cases hb : lt w y with
    | false => exact ⟨l, .stop (by omega) hy hb, rfl⟩
    | true =>
      obtain ⟨l', h1, h2⟩ := up_ex w n ((k + 1 - 1) / 2) ((l.set (k + 1) y).set ((k + 1 - 1) / 2) w) (by omega) (by simp; omega)
      exact ⟨l', .go (by omega) hy hb h1, by simpa using h2⟩

/-- what lies at place k goes down -/
inductive Down : List W → Nat → List W → Prop
  | none {l : List W} {k : Nat} (h : l.length ≤ 2 * k + 1) : Down l k l
  | stay1 {l : List W} {k : Nat} {x a : W} (hx : l[k]? = some x) (ha : l[2 * k + 1]? = some a) (h : l.length = 2 * k + 2) (h1 : lt a x = false) : Down l k l
  | go1 {l l' : List W} {k : Nat} {x a : W} (hx : l[k]? = some x) (ha : l[2 * k + 1]? = some a) (h : l.length = 2 * k + 2) (h1 : lt a x = true) (r : Down ((l.set k a).set (2 * k + 1) x) (2 * k + 1) l') : Down l k l'
  | stay2 {l : List W} {k : Nat} {x a b : W} {c : Bool} (hx : l[k]? = some x) (ha : l[2 * k + 1]? = some a) (hb : l[2 * k + 2]? = some b) (h : 2 * k + 2 < l.length) (h2 : lt b a = c) (h1 : lt a x = false) (h3 : lt b x = false) : Down l k l
  | goL {l l' : List W} {k : Nat} {x a b : W} (hx : l[k]? = some x) (ha : l[2 * k + 1]? = some a) (hb : l[2 * k + 2]? = some b) (h : 2 * k + 2 < l.length) (h2 : lt b a = false) (h1 : lt a x = true) (r : Down ((l.set k a).set (2 * k + 1) x) (2 * k + 1) l') : Down l k l'
  | goR {l l' : List W} {k : Nat} {x a b : W} {c : Bool} (hx : l[k]? = some x) (ha : l[2 * k + 1]? = some a) (hb : l[2 * k + 2]? = some b) (h : 2 * k + 2 < l.length) (h2 : lt b a = true) (h1 : lt a x = c) (h3 : lt b x = true) (r : Down ((l.set k b).set (2 * k + 2) x) (2 * k + 2) l') : Down l k l'
theorem down_ex : ∀ (n k : Nat) (l : List W), l.length ≤ n + k → ∃ l', Down l k l' ∧ l'.length = l.length
  | 0, k, l, h => ⟨l, .none (by omega), rfl⟩
  | n + 1, k, l, h => by
    by_cases h0 : l.length ≤ 2 * k + 1
    · exact ⟨l, .none h0, rfl⟩
    obtain ⟨x, hx⟩ : ∃ y, l[k]? = some y := ⟨_, List.getElem?_eq_getElem (by omega)⟩
    obtain ⟨a, ha⟩ : ∃ y, l[2 * k + 1]? = some y := ⟨_, List.getElem?_eq_getElem (by omega)⟩
    by_cases h1 : l.length = 2 * k + 2
    · cases c1 : lt a x with
      | false => exact ⟨l, .stay1 hx ha h1 c1, rfl⟩
      | true =>
        obtain ⟨l', r1, r2⟩ := down_ex n (2 * k + 1) ((l.set k a).set (2 * k + 1) x) (by simp; omega)
        exact ⟨l', .go1 hx ha h1 c1 r1, by simpa using r2⟩
    · obtain ⟨b, hb⟩ : ∃ y, l[2 * k + 2]? = some y := ⟨_, List.getElem?_eq_getElem (by omega)⟩
      have h2 : 2 * k + 2 < l.length := by omega
      cases c2 : lt b a with
      | false =>
        cases c1 : lt a x with
        | false =>
          cases c3 : lt b x with
          | false => exact ⟨l, .stay2 hx ha hb h2 c2 c1 c3, rfl⟩
          | true => simp [lt] at c1 c2 c3; omega
        | true =>
          obtain ⟨l', r1, r2⟩ := down_ex n (2 * k + 1) ((l.set k a).set (2 * k + 1) x) (by simp; omega)
          exact ⟨l', .goL hx ha hb h2 c2 c1 r1, by simpa using r2⟩
      | true =>
        cases c3 : lt b x with
        | false =>
          cases c1 : lt a x with
          | false => exact ⟨l, .stay2 hx ha hb h2 c2 c1 c3, rfl⟩
          | true => rw [lt_trans c2 c1] at c3; cases c3
        | true =>
          obtain ⟨l', r1, r2⟩ := down_ex n (2 * k + 2) ((l.set k b).set (2 * k + 2) x) (by simp; omega)
          exact ⟨l', .goR hx ha hb h2 c2 rfl c3 r1, by simpa using r2⟩
end Hp
end Go.Proofs.Ytfljbiobiobamab
