/-
  The plain law of free blocks: what taking and giving makes of the gaps. Conditions: none beyond each theorem's own premises.
-/
import Derived.Test.YtakmfjnfkjdbfaaSpM
namespace Go.Proofs.Ytakmfjnfkjdbfaa
namespace Sp
set_option linter.unusedVariables false

def Apart (x y : N) : Prop := x.a + x.m < y.a
theorem ok_iff {size : Nat} : ∀ {l : List N} {lo : Nat}, Ok size lo l ↔ l.Pairwise Apart ∧ ∀ x ∈ l, lo ≤ x.a ∧ 1 ≤ x.m ∧ x.a + x.m ≤ size
  | [], lo => by simp [Ok]
  | g :: t, lo => by
    rw [Ok, ok_iff, List.pairwise_cons]
    constructor
    · rintro ⟨h1, h2, h3, h4, h5⟩
      refine ⟨⟨fun x hx => (h5 x hx).1, h4⟩, fun x hx => ?_⟩
      rcases List.mem_cons.1 hx with rfl | hx
      · exact ⟨h1, h2, h3⟩
      · have := h5 x hx
        exact ⟨by omega, this.2⟩
    · rintro ⟨⟨h1, h2⟩, h3⟩
      obtain ⟨h4, h5, h6⟩ := h3 g (by simp)
      exact ⟨h4, h5, h6, h2, fun x hx => ⟨by have := h1 x hx; unfold Apart at this; omega, (h3 x (by simp [hx])).2⟩⟩
def inG (g : N) (k : Nat) : Bool := decide (g.a ≤ k) && decide (k < g.a + g.m)
theorem mem_append (l l' : List N) (k : Nat) : mem (l ++ l') k = (mem l k || mem l' k) := by unfold mem; rw [List.any_append]
theorem mem_one (g : N) (k : Nat) : mem [g] k = inG g k := by simp [mem, inG]

/-! taking -/
def takeL : List N → Nat → Nat → List N
  | [], _, _ => []
  | g :: t, 0, m => if g.m = m then t else ⟨g.a + m, g.m - m⟩ :: t
  | g :: t, i + 1, m => g :: takeL t i m
theorem take_ok {size m : Nat} {g : N} (hm : 1 ≤ m) (hg : m ≤ g.m) : ∀ (l : List N) (i lo : Nat), Ok size lo l → l[i]? = some g → Ok size lo (takeL l i m) ∧ ∀ k, mem (takeL l i m) k = (mem l k && !(inG ⟨g.a, m⟩ k))
  | [], i, lo, h, hi => by simp at hi
  | x :: t, 0, lo, h, hi => by
    simp at hi
    subst hi
    obtain ⟨h1, h2, h3, h4⟩ := h
    have hlow : ∀ k, k < x.a + x.m → mem t k = false := fun k hk => mem_low t _ k h4 (by omega)
    rw [takeL]
    by_cases he : x.m = m
    · rw [if_pos he]
      refine ⟨ok_mono h4 (by omega), fun k => ?_⟩
      rw [mem_cons]
      by_cases hk : x.a ≤ k ∧ k < x.a + x.m
      · rw [hlow k hk.2]
        simp [inG, hk.1, ← he, hk.2]
      · have : inG ⟨x.a, m⟩ k = false := by
          simp only [inG, ← he]
          rw [Bool.and_eq_false_iff]
          simp
          omega
        rw [this, show (decide (x.a ≤ k) && decide (k < x.a + x.m)) = false by rw [Bool.and_eq_false_iff]; simp; omega]
        simp
    · rw [if_neg he]
      refine ⟨⟨by simp; omega, by simp; omega, by simp; omega, by simp; rw [show x.a + m + (x.m - m) + 1 = x.a + x.m + 1 by omega]; exact h4⟩, fun k => ?_⟩
      rw [mem_cons, mem_cons]
      simp only [inG]
      by_cases hk : x.a ≤ k ∧ k < x.a + x.m
      · rw [hlow k hk.2]
        by_cases hk2 : k < x.a + m
        · simp [hk.1, hk2]
          omega
        · simp [hk.1, hk.2, hk2]
          omega
      · have e1 : (decide (x.a ≤ k) && decide (k < x.a + x.m)) = false := by rw [Bool.and_eq_false_iff]; simp; omega
        have e2 : (decide (x.a ≤ k) && decide (k < x.a + m)) = false := by rw [Bool.and_eq_false_iff]; simp; omega
        have e3 : (decide (x.a + m ≤ k) && decide (k < x.a + m + (x.m - m))) = false := by rw [Bool.and_eq_false_iff]; simp; omega
        rw [e1, e2, e3]
        simp
  | x :: t, i + 1, lo, h, hi => by
    obtain ⟨h1, h2, h3, h4⟩ := h
    have hi' : t[i]? = some g := by simpa using hi
    obtain ⟨h5, h6⟩ := take_ok hm hg t i _ h4 hi'
    refine ⟨⟨h1, h2, h3, h5⟩, fun k => ?_⟩
    rw [takeL, mem_cons, mem_cons, h6]
    have hgl : x.a + x.m + 1 ≤ g.a := ((ok_iff.1 h4).2 g (List.mem_of_getElem? hi')).1
    by_cases hk : x.a ≤ k ∧ k < x.a + x.m
    · have : inG ⟨g.a, m⟩ k = false := by simp only [inG]; rw [Bool.and_eq_false_iff]; simp; omega
      rw [this]
      simp
    · have e1 : (decide (x.a ≤ k) && decide (k < x.a + x.m)) = false := by rw [Bool.and_eq_false_iff]; simp; omega
      rw [e1]
      simp

/-! giving -/
/-- one gap met: joined, or kept -/
def giveStep (p : List N × N) (x : N) : List N × N :=
  if x.a + x.m = p.2.a then (p.1, ⟨x.a, p.2.m + x.m⟩) else if p.2.a + p.2.m = x.a then (p.1, ⟨p.2.a, p.2.m + x.m⟩) else (p.1 ++ [x], p.2)
def Sep2 (x g : N) : Prop := x.a + x.m < g.a ∨ g.a + g.m < x.a
theorem give_all {size : Nat} : ∀ (rest out : List N) (g : N), Ok size 0 (out ++ rest) → 1 ≤ g.m → g.a + g.m ≤ size → (∀ x ∈ out, Sep2 x g) → (∀ x ∈ rest, x.a + x.m ≤ g.a ∨ g.a + g.m ≤ x.a) →
    ∃ out' g', rest.foldl giveStep (out, g) = (out', g') ∧ Ok size 0 out' ∧ 1 ≤ g'.m ∧ g'.a + g'.m ≤ size ∧ (∀ x ∈ out', Sep2 x g') ∧ ∀ k, (mem out' k || inG g' k) = (mem (out ++ rest) k || inG g k)
  | [], out, g, h, h1, h2, h3, _ => ⟨out, g, rfl, by rwa [List.append_nil] at h, h1, h2, h3, fun k => by rw [List.append_nil]⟩
  | x :: t, out, g, h, h1, h2, h3, h4 => by
    obtain ⟨hp, hx⟩ := ok_iff.1 h
    rw [List.pairwise_append, List.pairwise_cons] at hp
    obtain ⟨hp1, ⟨hp2, hp3⟩, hp4⟩ := hp
    have hsub : Ok size 0 (out ++ t) := ok_iff.2 ⟨by
      rw [List.pairwise_append]
      exact ⟨hp1, hp3, fun a ha b hb => hp4 a ha b (by simp [hb])⟩, fun y hy => hx y (by
        rcases List.mem_append.1 hy with hy | hy
        · simp [hy]
        · simp [hy])⟩
    obtain ⟨hx0, hx1, hx2⟩ := hx x (by simp)
    rw [List.foldl_cons]
    by_cases ha : x.a + x.m = g.a
    · rw [show giveStep (out, g) x = (out, ⟨x.a, g.m + x.m⟩) by simp [giveStep, ha]]
      obtain ⟨out', g', r1, r2, r3, r4, r5, r6⟩ := give_all t out ⟨x.a, g.m + x.m⟩ hsub (by simp; omega) (by simp; omega)
        (fun y hy => .inl (by have := hp4 y hy x (by simp); unfold Apart at this; simpa using this))
        (fun y hy => by
          have h5 := hp2 y hy
          unfold Apart at h5
          rcases h4 y (by simp [hy]) with h6 | h6
          · have := (hx y (by simp [hy])).2.1; omega
          · right; simp; omega)
      refine ⟨out', g', r1, r2, r3, r4, r5, fun k => ?_⟩
      rw [r6, mem_append, mem_append, mem_cons]
      have : inG ⟨x.a, g.m + x.m⟩ k = ((decide (x.a ≤ k) && decide (k < x.a + x.m)) || inG g k) := by
        simp only [inG]
        rw [Bool.eq_iff_iff]
        simp
        omega
      rw [this]
      cases mem out k <;> cases mem t k <;> simp
    · by_cases hb : g.a + g.m = x.a
      · rw [show giveStep (out, g) x = (out, ⟨g.a, g.m + x.m⟩) by simp [giveStep, ha, hb]]
        obtain ⟨out', g', r1, r2, r3, r4, r5, r6⟩ := give_all t out ⟨g.a, g.m + x.m⟩ hsub (by simp; omega) (by simp; omega)
          (fun y hy => by
            have h5 := hp4 y hy x (by simp)
            unfold Apart at h5
            rcases h3 y hy with h6 | h6
            · exact .inl h6
            · omega)
          (fun y hy => by
            have h5 := hp2 y hy
            unfold Apart at h5
            right; simp; omega)
        refine ⟨out', g', r1, r2, r3, r4, r5, fun k => ?_⟩
        rw [r6, mem_append, mem_append, mem_cons]
        have : inG ⟨g.a, g.m + x.m⟩ k = ((decide (x.a ≤ k) && decide (k < x.a + x.m)) || inG g k) := by
          simp only [inG]
          rw [Bool.eq_iff_iff]
          simp
          omega
        rw [this]
        cases mem out k <;> cases mem t k <;> simp
      · rw [show giveStep (out, g) x = (out ++ [x], g) by simp [giveStep, ha, hb]]
        obtain ⟨out', g', r1, r2, r3, r4, r5, r6⟩ := give_all t (out ++ [x]) g (by rwa [List.append_assoc]) h1 h2
          (fun y hy => by
            rcases List.mem_append.1 hy with hy | hy
            · exact h3 y hy
            · simp at hy
              subst hy
              rcases h4 y (by simp) with h6 | h6
              · exact .inl (by omega)
              · exact .inr (by omega))
          (fun y hy => h4 y (by simp [hy]))
        refine ⟨out', g', r1, r2, r3, r4, r5, fun k => ?_⟩
        rw [r6, List.append_assoc]
        rfl
/-- put where it belongs -/
def ins (g : N) : List N → List N
  | [] => [g]
  | x :: t => if g.a < x.a then g :: x :: t else x :: ins g t
theorem ins_ok {size : Nat} {g : N} (h1 : 1 ≤ g.m) (h2 : g.a + g.m ≤ size) : ∀ (l : List N) (lo : Nat), Ok size lo l → lo ≤ g.a → (∀ x ∈ l, Sep2 x g) → Ok size lo (ins g l) ∧ ∀ k, mem (ins g l) k = (mem l k || inG g k)
  | [], lo, _, hl, _ => ⟨⟨hl, h1, h2, trivial⟩, fun k => by rw [ins, mem_one]; simp [mem]⟩
  | x :: t, lo, h, hl, hs => by
    obtain ⟨h3, h4, h5, h6⟩ := h
    rw [ins]
    by_cases hgx : g.a < x.a
    · rw [if_pos hgx]
      refine ⟨⟨hl, h1, h2, ?_, h4, h5, h6⟩, fun k => ?_⟩
      · rcases hs x (by simp) with h7 | h7 <;> omega
      · rw [mem_cons]
        show (inG g k || mem (x :: t) k) = _
        rw [Bool.or_comm]
    · rw [if_neg hgx]
      have hxg : x.a + x.m < g.a := by rcases hs x (by simp) with h7 | h7 <;> omega
      obtain ⟨r1, r2⟩ := ins_ok h1 h2 t _ h6 (by omega) (fun y hy => hs y (by simp [hy]))
      refine ⟨⟨h3, h4, h5, r1⟩, fun k => ?_⟩
      rw [mem_cons, mem_cons, r2, Bool.or_assoc]
end Sp
end Go.Proofs.Ytakmfjnfkjdbfaa
