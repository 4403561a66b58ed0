/-
  Base texts in one: SpM, SpM2, SpW, SpW2, SpW4, SpL, SpD. Conditions: none beyond each theorem's own premises.
-/
import Derived.Test.YtjopiepfjbnkbaaGreatDoorRows
import Derived.Test.YtjopiepfjbnkbaaGreatDoorBase
import Derived.Test.YtjopiepfjbnkbaaGreatDoorDelIns
/-! The plain law of free blocks: gaps as a list, and as a row of Booleans. Conditions: none beyond each theorem's own premises. -/
namespace Go.Proofs.YtjopiepfjbnkbaaGreatDoor
namespace Sp
set_option linter.unusedVariables false

/-- a gap: where, and how many -/
structure N where
  (a m : Nat)
/-- gaps from lo on, below size, apart -/
def Ok (size : Nat) : Nat → List N → Prop
  | _, [] => True
  | lo, g :: t => lo ≤ g.a ∧ 1 ≤ g.m ∧ g.a + g.m ≤ size ∧ Ok size (g.a + g.m + 1) t
/-- is block k free? -/
def mem (l : List N) (k : Nat) : Bool := l.any fun g => decide (g.a ≤ k) && decide (k < g.a + g.m)
theorem mem_cons (g : N) (t : List N) (k : Nat) : mem (g :: t) k = (decide (g.a ≤ k) && decide (k < g.a + g.m) || mem t k) := rfl
theorem ok_mono {size : Nat} : ∀ {l : List N} {lo lo' : Nat}, Ok size lo l → lo' ≤ lo → Ok size lo' l
  | [], _, _, _, _ => trivial
  | g :: t, _, _, h, hl => ⟨Nat.le_trans hl h.1, h.2⟩
theorem mem_low {size : Nat} : ∀ (l : List N) (lo k : Nat), Ok size lo l → k < lo → mem l k = false
  | [], _, _, _, _ => rfl
  | g :: t, lo, k, h, hk => by
    obtain ⟨h1, h2, h3, h4⟩ := h
    rw [mem_cons, mem_low t _ k h4 (by omega), show decide (g.a ≤ k) = false by simp; omega]
    rfl

/-- the row from p on -/
def seg (size : Nat) : Nat → List N → List Bool
  | p, [] => List.replicate (size - p) false
  | p, g :: t => List.replicate (g.a - p) false ++ (List.replicate g.m true ++ seg size (g.a + g.m) t)
theorem seg_len {size : Nat} : ∀ (l : List N) (p : Nat), Ok size p l → p ≤ size → (seg size p l).length = size - p
  | [], p, _, _ => by simp [seg]
  | g :: t, p, h, hp => by
    obtain ⟨h1, h2, h3, h4⟩ := h
    rw [seg, List.length_append, List.length_append, List.length_replicate, List.length_replicate, seg_len t _ (ok_mono h4 (by omega)) h3]
    omega
theorem seg_at {size : Nat} : ∀ (l : List N) (p k : Nat), Ok size p l → p ≤ size → p + k < size → (seg size p l)[k]? = some (mem l (p + k))
  | [], p, k, _, hp, hk => by
    rw [seg, List.getElem?_replicate, if_pos (by omega)]
    rfl
  | g :: t, p, k, h, hp, hk => by
    obtain ⟨h1, h2, h3, h4⟩ := h
    rw [seg, mem_cons]
    by_cases hk1 : k < g.a - p
    · rw [List.getElem?_append_left (by simpa using hk1), List.getElem?_replicate, if_pos hk1, mem_low t _ (p + k) h4 (by omega), show decide (g.a ≤ p + k) = false by simp; omega]
      rfl
    · rw [List.getElem?_append_right (by simp; omega), List.length_replicate]
      by_cases hk2 : k - (g.a - p) < g.m
      · rw [List.getElem?_append_left (by simpa using hk2), List.getElem?_replicate, if_pos hk2, show decide (g.a ≤ p + k) = true by simp; omega, show decide (p + k < g.a + g.m) = true by simp; omega]
        rfl
      · rw [List.getElem?_append_right (by simp; omega), List.length_replicate, seg_at t _ _ (ok_mono h4 (by omega)) h3 (by omega)]
        rw [show decide (p + k < g.a + g.m) = false by simp; omega, show g.a + g.m + (k - (g.a - p) - g.m) = p + k by omega]
        simp
/-- a row is a list's row if it tells the same of every block -/
theorem seg_ext {size : Nat} {l : List N} {row : List Bool} (h : Ok size 0 l) (hl : row.length = size) (hm : ∀ k, k < size → row[k]? = some (mem l k)) : row = seg size 0 l := by
  refine List.ext_getElem? fun k => ?_
  by_cases hk : k < size
  · rw [hm k hk, seg_at l 0 k h (Nat.zero_le _) (by omega), Nat.zero_add]
  · rw [List.getElem?_eq_none (by omega), List.getElem?_eq_none (by rw [seg_len l 0 h (Nat.zero_le _)]; omega)]

/-- the last gap one longer -/
def bump : List N → List N
  | [] => []
  | [g] => [⟨g.a, g.m + 1⟩]
  | g :: t => g :: bump t
theorem bump_snoc (l : List N) (g : N) : bump (l ++ [g]) = l ++ [⟨g.a, g.m + 1⟩] := by
  induction l with
  | nil => rfl
  | cons x l ih =>
    cases l with
    | nil => rfl
    | cons y l => exact congrArg (x :: ·) ih
/-- one block read: k, whether the one ahead of it was free, whether it is -/
def ngStep (out : List N) (k : Nat) (prev f : Bool) : List N := if f then (if prev then bump out else out ++ [⟨k, 1⟩]) else out
def ng : List Bool → Nat → Bool → List N → List N
  | [], _, _, out => out
  | f :: t, k, prev, out => ng t (k + 1) f (ngStep out k prev f)
theorem ng_false : ∀ (d : Nat) (t : List Bool) (k : Nat) (prev : Bool) (out : List N), ng (List.replicate (d + 1) false ++ t) k prev out = ng t (k + d + 1) false out
  | 0, t, k, prev, out => rfl
  | d + 1, t, k, prev, out => by
    have h := ng_false d t (k + 1) false out
    rw [List.replicate_succ, List.cons_append]
    show ng (List.replicate (d + 1) false ++ t) (k + 1) false out = _
    rw [h]
    congr 1
    omega
theorem ng_true : ∀ (m : Nat) (t : List Bool) (k : Nat) (out : List N) (g : N), ng (List.replicate m true ++ t) k true (out ++ [g]) = ng t (k + m) true (out ++ [⟨g.a, g.m + m⟩])
  | 0, t, k, out, g => rfl
  | m + 1, t, k, out, g => by
    rw [List.replicate_succ, List.cons_append]
    show ng (List.replicate m true ++ t) (k + 1) true (bump (out ++ [g])) = _
    rw [bump_snoc, ng_true m t (k + 1) out]
    congr 1
    · omega
    · congr 3
      simp
      omega
theorem ng_seg {size : Nat} : ∀ (l : List N) (p : Nat) (prev : Bool) (out : List N), Ok size (if prev then p + 1 else p) l → p ≤ size → ng (seg size p l) p prev out = out ++ l
  | [], p, prev, out, _, hp => by
    rw [seg, List.append_nil]
    cases hd : size - p with
    | zero => rfl
    | succ d =>
      have := ng_false d [] p prev out
      rw [List.append_nil] at this
      rw [this]
      rfl
  | g :: t, p, prev, out, h, hp => by
    obtain ⟨h1, h2, h3, h4⟩ := h
    have key : ∀ out, ng (List.replicate g.m true ++ seg size (g.a + g.m) t) g.a false out = out ++ g :: t := by
      intro out
      obtain ⟨m, hm⟩ : ∃ m, g.m = m + 1 := ⟨g.m - 1, by omega⟩
      rw [hm, List.replicate_succ, List.cons_append]
      show ng (List.replicate m true ++ seg size (g.a + (m + 1)) t) (g.a + 1) true (out ++ [⟨g.a, 1⟩]) = _
      rw [ng_true, show g.a + 1 + m = g.a + (m + 1) by omega, ng_seg t _ true _ (by rw [if_pos rfl, ← hm]; exact h4) (by rw [← hm]; exact h3), List.append_assoc]
      show out ++ (⟨g.a, 1 + m⟩ :: t) = out ++ g :: t
      rw [show (⟨g.a, 1 + m⟩ : N) = g by cases g; simp at hm ⊢; omega]
    rw [seg]
    cases hd : g.a - p with
    | zero =>
      have hpg : g.a = p := by
        cases prev with
        | true => rw [if_pos rfl] at h1; omega
        | false => rw [if_neg (by decide)] at h1; omega
      have hpf : prev = false := by
        cases prev with
        | true => rw [if_pos rfl] at h1; omega
        | false => rfl
      subst hpf
      rw [← hpg]
      exact key out
    | succ d =>
      rw [ng_false, show p + d + 1 = g.a by omega]
      exact key out
/-- the gaps of a list's row are the list -/
theorem gaps_row {size : Nat} {l : List N} (h : Ok size 0 l) : ng (seg size 0 l) 0 false [] = l := by
  rw [ng_seg l 0 false [] (by rw [if_neg (by decide)]; exact h) (Nat.zero_le _)]
  rfl
end Sp
end Go.Proofs.YtjopiepfjbnkbaaGreatDoor
/-! The plain law of free blocks: what taking and giving makes of the gaps. Conditions: none beyond each theorem's own premises. -/
namespace Go.Proofs.YtjopiepfjbnkbaaGreatDoor
namespace Sp
set_option linter.unusedVariables false

def Apart (x y : N) : Prop := x.a + x.m < y.a
theorem ok_iff {size : Nat} : ∀ {l : List N} {lo : Nat}, Ok size lo l ↔ l.Pairwise Apart ∧ ∀ x ∈ l, lo ≤ x.a ∧ 1 ≤ x.m ∧ x.a + x.m ≤ size
  | [], lo => by simp [Ok]
  | g :: t, lo => by
    rw [Ok, ok_iff, List.pairwise_cons]
    constructor
    · rintro ⟨h1, h2, h3, h4, h5⟩
      refine ⟨⟨fun x hx => (h5 x hx).1, h4⟩, fun x hx => ?_⟩
      rcases List.mem_cons.1 hx with rfl | hx
      · exact ⟨h1, h2, h3⟩
      · have := h5 x hx
        exact ⟨by omega, this.2⟩
    · rintro ⟨⟨h1, h2⟩, h3⟩
      obtain ⟨h4, h5, h6⟩ := h3 g (by simp)
      exact ⟨h4, h5, h6, h2, fun x hx => ⟨by have := h1 x hx; unfold Apart at this; omega, (h3 x (by simp [hx])).2⟩⟩
def inG (g : N) (k : Nat) : Bool := decide (g.a ≤ k) && decide (k < g.a + g.m)
theorem mem_append (l l' : List N) (k : Nat) : mem (l ++ l') k = (mem l k || mem l' k) := by unfold mem; rw [List.any_append]
theorem mem_one (g : N) (k : Nat) : mem [g] k = inG g k := by simp [mem, inG]

/-! taking -/
def takeL : List N → Nat → Nat → List N
  | [], _, _ => []
  | g :: t, 0, m => if g.m = m then t else ⟨g.a + m, g.m - m⟩ :: t
  | g :: t, i + 1, m => g :: takeL t i m
theorem take_ok {size m : Nat} {g : N} (hm : 1 ≤ m) (hg : m ≤ g.m) : ∀ (l : List N) (i lo : Nat), Ok size lo l → l[i]? = some g → Ok size lo (takeL l i m) ∧ ∀ k, mem (takeL l i m) k = (mem l k && !(inG ⟨g.a, m⟩ k))
  | [], i, lo, h, hi => by simp at hi
  | x :: t, 0, lo, h, hi => by
    simp at hi
    subst hi
    obtain ⟨h1, h2, h3, h4⟩ := h
    have hlow : ∀ k, k < x.a + x.m → mem t k = false := fun k hk => mem_low t _ k h4 (by omega)
    rw [takeL]
    by_cases he : x.m = m
    · rw [if_pos he]
      refine ⟨ok_mono h4 (by omega), fun k => ?_⟩
      rw [mem_cons]
      by_cases hk : x.a ≤ k ∧ k < x.a + x.m
      · rw [hlow k hk.2]
        simp [inG, hk.1, ← he, hk.2]
      · have : inG ⟨x.a, m⟩ k = false := by
          simp only [inG, ← he]
          rw [Bool.and_eq_false_iff]
          simp
          omega
        rw [this, show (decide (x.a ≤ k) && decide (k < x.a + x.m)) = false by rw [Bool.and_eq_false_iff]; simp; omega]
        simp
    · rw [if_neg he]
      refine ⟨⟨by simp; omega, by simp; omega, by simp; omega, by simp; rw [show x.a + m + (x.m - m) + 1 = x.a + x.m + 1 by omega]; exact h4⟩, fun k => ?_⟩
      rw [mem_cons, mem_cons]
      simp only [inG]
      by_cases hk : x.a ≤ k ∧ k < x.a + x.m
      · rw [hlow k hk.2]
        by_cases hk2 : k < x.a + m
        · simp [hk.1, hk2]
          omega
        · simp [hk.1, hk.2, hk2]
          omega
      · have e1 : (decide (x.a ≤ k) && decide (k < x.a + x.m)) = false := by rw [Bool.and_eq_false_iff]; simp; omega
        have e2 : (decide (x.a ≤ k) && decide (k < x.a + m)) = false := by rw [Bool.and_eq_false_iff]; simp; omega
        have e3 : (decide (x.a + m ≤ k) && decide (k < x.a + m + (x.m - m))) = false := by rw [Bool.and_eq_false_iff]; simp; omega
        rw [e1, e2, e3]
        simp
  | x :: t, i + 1, lo, h, hi => by
    obtain ⟨h1, h2, h3, h4⟩ := h
    have hi' : t[i]? = some g := by simpa using hi
    obtain ⟨h5, h6⟩ := take_ok hm hg t i _ h4 hi'
    refine ⟨⟨h1, h2, h3, h5⟩, fun k => ?_⟩
    rw [takeL, mem_cons, mem_cons, h6]
    have hgl : x.a + x.m + 1 ≤ g.a := ((ok_iff.1 h4).2 g (List.mem_of_getElem? hi')).1
    by_cases hk : x.a ≤ k ∧ k < x.a + x.m
    · have : inG ⟨g.a, m⟩ k = false := by simp only [inG]; rw [Bool.and_eq_false_iff]; simp; omega
      rw [this]
      simp
    · have e1 : (decide (x.a ≤ k) && decide (k < x.a + x.m)) = false := by rw [Bool.and_eq_false_iff]; simp; omega
      rw [e1]
      simp

/-! giving -/
/-- one gap met: joined, or kept -/
def giveStep (p : List N × N) (x : N) : List N × N :=
  if x.a + x.m = p.2.a then (p.1, ⟨x.a, p.2.m + x.m⟩) else if p.2.a + p.2.m = x.a then (p.1, ⟨p.2.a, p.2.m + x.m⟩) else (p.1 ++ [x], p.2)
def Sep2 (x g : N) : Prop := x.a + x.m < g.a ∨ g.a + g.m < x.a
theorem give_all {size : Nat} : ∀ (rest out : List N) (g : N), Ok size 0 (out ++ rest) → 1 ≤ g.m → g.a + g.m ≤ size → (∀ x ∈ out, Sep2 x g) → (∀ x ∈ rest, x.a + x.m ≤ g.a ∨ g.a + g.m ≤ x.a) →
    ∃ out' g', rest.foldl giveStep (out, g) = (out', g') ∧ Ok size 0 out' ∧ 1 ≤ g'.m ∧ g'.a + g'.m ≤ size ∧ (∀ x ∈ out', Sep2 x g') ∧ ∀ k, (mem out' k || inG g' k) = (mem (out ++ rest) k || inG g k)
  | [], out, g, h, h1, h2, h3, _ => ⟨out, g, rfl, by rwa [List.append_nil] at h, h1, h2, h3, fun k => by rw [List.append_nil]⟩
  | x :: t, out, g, h, h1, h2, h3, h4 => by
    obtain ⟨hp, hx⟩ := ok_iff.1 h
    rw [List.pairwise_append, List.pairwise_cons] at hp
    obtain ⟨hp1, ⟨hp2, hp3⟩, hp4⟩ := hp
    have hsub : Ok size 0 (out ++ t) := ok_iff.2 ⟨by
      rw [List.pairwise_append]
      exact ⟨hp1, hp3, fun a ha b hb => hp4 a ha b (by simp [hb])⟩, fun y hy => hx y (by
        rcases List.mem_append.1 hy with hy | hy
        · simp [hy]
        · simp [hy])⟩
    obtain ⟨hx0, hx1, hx2⟩ := hx x (by simp)
    rw [List.foldl_cons]
    by_cases ha : x.a + x.m = g.a
    · rw [show giveStep (out, g) x = (out, ⟨x.a, g.m + x.m⟩) by simp [giveStep, ha]]
      obtain ⟨out', g', r1, r2, r3, r4, r5, r6⟩ := give_all t out ⟨x.a, g.m + x.m⟩ hsub (by simp; omega) (by simp; omega)
        (fun y hy => .inl (by have := hp4 y hy x (by simp); unfold Apart at this; simpa using this))
        (fun y hy => by
          have h5 := hp2 y hy
          unfold Apart at h5
          rcases h4 y (by simp [hy]) with h6 | h6
          · have := (hx y (by simp [hy])).2.1; omega
          · right; simp; omega)
      refine ⟨out', g', r1, r2, r3, r4, r5, fun k => ?_⟩
      rw [r6, mem_append, mem_append, mem_cons]
      have : inG ⟨x.a, g.m + x.m⟩ k = ((decide (x.a ≤ k) && decide (k < x.a + x.m)) || inG g k) := by
        simp only [inG]
        rw [Bool.eq_iff_iff]
        simp
        omega
      rw [this]
      cases mem out k <;> cases mem t k <;> simp
    · by_cases hb : g.a + g.m = x.a
      · rw [show giveStep (out, g) x = (out, ⟨g.a, g.m + x.m⟩) by simp [giveStep, ha, hb]]
        obtain ⟨out', g', r1, r2, r3, r4, r5, r6⟩ := give_all t out ⟨g.a, g.m + x.m⟩ hsub (by simp; omega) (by simp; omega)
          (fun y hy => by
            have h5 := hp4 y hy x (by simp)
            unfold Apart at h5
            rcases h3 y hy with h6 | h6
            · exact .inl h6
            · omega)
          (fun y hy => by
            have h5 := hp2 y hy
            unfold Apart at h5
            right; simp; omega)
        refine ⟨out', g', r1, r2, r3, r4, r5, fun k => ?_⟩
        rw [r6, mem_append, mem_append, mem_cons]
        have : inG ⟨g.a, g.m + x.m⟩ k = ((decide (x.a ≤ k) && decide (k < x.a + x.m)) || inG g k) := by
          simp only [inG]
          rw [Bool.eq_iff_iff]
          simp
          omega
        rw [this]
        cases mem out k <;> cases mem t k <;> simp
      · rw [show giveStep (out, g) x = (out ++ [x], g) by simp [giveStep, ha, hb]]
        obtain ⟨out', g', r1, r2, r3, r4, r5, r6⟩ := give_all t (out ++ [x]) g (by rwa [List.append_assoc]) h1 h2
          (fun y hy => by
            rcases List.mem_append.1 hy with hy | hy
            · exact h3 y hy
            · simp at hy
              subst hy
              rcases h4 y (by simp) with h6 | h6
              · exact .inl (by omega)
              · exact .inr (by omega))
          (fun y hy => h4 y (by simp [hy]))
        refine ⟨out', g', r1, r2, r3, r4, r5, fun k => ?_⟩
        rw [r6, List.append_assoc]
        rfl
/-- put where it belongs -/
def ins (g : N) : List N → List N
  | [] => [g]
  | x :: t => if g.a < x.a then g :: x :: t else x :: ins g t
theorem ins_ok {size : Nat} {g : N} (h1 : 1 ≤ g.m) (h2 : g.a + g.m ≤ size) : ∀ (l : List N) (lo : Nat), Ok size lo l → lo ≤ g.a → (∀ x ∈ l, Sep2 x g) → Ok size lo (ins g l) ∧ ∀ k, mem (ins g l) k = (mem l k || inG g k)
  | [], lo, _, hl, _ => ⟨⟨hl, h1, h2, trivial⟩, fun k => by rw [ins, mem_one]; simp [mem]⟩
  | x :: t, lo, h, hl, hs => by
    obtain ⟨h3, h4, h5, h6⟩ := h
    rw [ins]
    by_cases hgx : g.a < x.a
    · rw [if_pos hgx]
      refine ⟨⟨hl, h1, h2, ?_, h4, h5, h6⟩, fun k => ?_⟩
      · rcases hs x (by simp) with h7 | h7 <;> omega
      · rw [mem_cons]
        show (inG g k || mem (x :: t) k) = _
        rw [Bool.or_comm]
    · rw [if_neg hgx]
      have hxg : x.a + x.m < g.a := by rcases hs x (by simp) with h7 | h7 <;> omega
      obtain ⟨r1, r2⟩ := ins_ok h1 h2 t _ h6 (by omega) (fun y hy => hs y (by simp [hy]))
      refine ⟨⟨h3, h4, h5, r1⟩, fun k => ?_⟩
      rw [mem_cons, mem_cons, r2, Bool.or_assoc]
end Sp
end Go.Proofs.YtjopiepfjbnkbaaGreatDoor
/-! Walk of space.Right. Conditions: none. -/
namespace Go.Proofs.YtjopiepfjbnkbaaGreatDoor
open Go.RowKit
set_option linter.unusedVariables false
namespace Sp

structure G where
  (at_ many : Int)
def G.cells (x : G) : List Value := [.int .i64 x.at_, .int .i64 x.many]
theorem G.len : ∀ x : G, x.cells.length = 2 := fun _ => rfl
theorem G.facts {w wr : World} {b off Bd k : Nat} {l : List G} {x : G} (hb : b < Bd) (hB : Below Bd w wr) (hc : ∀ (i j : Nat) (x : G) (u : Value), l[i]? = some x → x.cells[j]? = some u → w.cell? ⟨b, off + (i * 2 + j), none⟩ = some u)
    (hx : l[k]? = some x) : wr.cell? ⟨b, off + k * 2, none⟩ = some (.int .i64 x.at_) ∧ wr.cell? ⟨b, off + k * 2 + 1, none⟩ = some (.int .i64 x.many) :=
  ⟨(hB.cell hb).trans (hc k 0 x _ hx rfl), (hB.cell hb).trans (hc k 1 x _ hx rfl)⟩
theorem drop_at {α : Type} {l : List α} {k : Nat} {x : α} (h : l[k]? = some x) : l.drop k = x :: l.drop (k + 1) := by
  obtain ⟨h1, h2⟩ := List.getElem?_eq_some_iff.1 h
  rw [List.drop_eq_getElem_cons h1, h2]
def okG (size last : Int) : List G → Bool
  | [] => true
  | g :: t => decide (last < g.at_) && decide (1 ≤ g.many) && decide (g.at_ + g.many ≤ size) && okG size (g.at_ + g.many) t
def G.of (n : N) : G := ⟨n.a, n.m⟩
theorem okG_ok {S : Nat} : ∀ (l : List G) (lo : Nat), okG (S : Int) ((lo : Int) - 1) l = true → ∃ ln : List N, l = ln.map G.of ∧ Ok S lo ln
  | [], lo, _ => ⟨[], rfl, trivial⟩
  | g :: t, lo, h => by
    simp only [okG, Bool.and_eq_true, decide_eq_true_eq] at h
    obtain ⟨⟨⟨h1, h2⟩, h3⟩, h4⟩ := h
    obtain ⟨a, ha⟩ := Int.eq_ofNat_of_zero_le (show 0 ≤ g.at_ by omega)
    obtain ⟨m, hm⟩ := Int.eq_ofNat_of_zero_le (show 0 ≤ g.many by omega)
    obtain ⟨ln, h5, h6⟩ := okG_ok t (a + m + 1) (by rw [show ((a + m + 1 : Nat) : Int) - 1 = g.at_ + g.many by omega]; exact h4)
    refine ⟨⟨a, m⟩ :: ln, ?_, by simp; omega, by simp; omega, by simp; omega, h6⟩
    rw [List.map_cons, h5]
    congr 1
    cases g
    simp at ha hm
    subst ha hm
    rfl
theorem ok_okG {S : Nat} : ∀ (ln : List N) (lo : Nat), Ok S lo ln → okG (S : Int) ((lo : Int) - 1) (ln.map G.of) = true
  | [], lo, _ => rfl
  | g :: t, lo, h => by
    obtain ⟨h1, h2, h3, h4⟩ := h
    have ih := ok_okG t (g.a + g.m + 1) h4
    rw [show ((g.a + g.m + 1 : Nat) : Int) - 1 = (G.of g).at_ + (G.of g).many by simp [G.of]] at ih
    have e1 : (lo : Int) - 1 < (G.of g).at_ := by show (lo : Int) - 1 < (g.a : Int); omega
    have e2 : 1 ≤ (G.of g).many := by show (1 : Int) ≤ (g.m : Int); omega
    have e3 : (G.of g).at_ + (G.of g).many ≤ (S : Int) := by show (g.a : Int) + (g.m : Int) ≤ (S : Int); omega
    rw [List.map_cons, okG, ih, decide_eq_true e1, decide_eq_true e2, decide_eq_true e3]
    rfl

set_option maxRecDepth 100000 in
set_option maxHeartbeats 3200000 in
theorem right_is (A : Option Addr) (n c : Nat) (l : List G) (b0 : Bool) (w : World) (hr : Rd w w.heap.size 2 A n (l.flatMap G.cells)) (hl : l.length = n) (hn : n ≤ 9223372036854775807) (hb : okG 4096 (-1) l = b0) :
    Calls Tryz.prog 45 #[.slice A n c] w (Ret w (.bool b0)) := by
  have HR := Lib.hid hr
  have HL := Lib.hid hl
  have HB0 := Lib.hid hb
  clear hr hl hb
  go_enter Tryz.func45, Tryz.ntmps45
  go_wp2
  go_loopg [3, 8] n (fun g v3 i wr => ∃ (k : Nat) (last : Int), k ≤ n ∧ g = n - k ∧ i = .int .i64 k ∧ v3 = .int .i64 last ∧ -1 ≤ last ∧ last ≤ 4096 ∧ Hid (okG 4096 (-1) l = okG 4096 last (l.drop k)) ∧ Sep w wr [])
  case atStart => exact ⟨0, -1, Nat.zero_le _, rfl, rfl, rfl, by omega, by omega, Lib.hid rfl, Sep.nil_ w⟩
  case round =>
    obtain ⟨k, last, hk, rfl, rfl, rfl, hl0, hl1, HK, hs⟩ := hrel
    have HS := Lib.hid hs
    clear hs
    by_cases hlt : k < n
    · obtain ⟨b, off, rfl, hb, hc⟩ := HR.out.at_ G.len (by omega)
      obtain ⟨x, hx⟩ : ∃ x, l[k]? = some x := ⟨_, List.getElem?_eq_getElem (by rw [HL.out]; exact hlt)⟩
      obtain ⟨d0, d1⟩ := G.facts hb HS.out.below hc hx
      have i0 : (0 : Int) ≤ (k : Int) := by omega
      have i1 : (k : Int) < (n : Int) := by omega
      have HO : Hid (okG 4096 (-1) l = (decide (last < x.at_) && decide (1 ≤ x.many) && decide (x.at_ + x.many ≤ 4096) && okG 4096 (x.at_ + x.many) (l.drop (k + 1)))) := Lib.hid (by rw [HK.out, drop_at hx]; rfl)
      have HS1 := Lib.hid (HS.out.new 46 x.cells)
      clear hc hx HK
      obtain ⟨xa, xm⟩ := x
      simp only [G.cells] at d0 d1 HO HS1
      by_cases c1 : xa ≤ last
      · have HE : Hid (false = b0) := Lib.hid (by
          rw [← HB0.out, HO.out]
          rw [show decide (last < xa) = false by simp; omega]; simp)
        clear HO
        go_wp2
        go_ret
        exact Ret.mk (bool_eq HE.out) HS1.out.below
      by_cases c2 : xm < 1
      · have c0 : ¬ xa < 0 := by omega
        have HE : Hid (false = b0) := Lib.hid (by
          rw [← HB0.out, HO.out]
          rw [show decide (1 ≤ xm) = false by simp; omega]; simp)
        clear HO
        go_wp2
        go_ret
        exact Ret.mk (bool_eq HE.out) HS1.out.below
      by_cases c3 : 4096 < xa
      · have c0 : ¬ xa < 0 := by omega
        have HE : Hid (false = b0) := Lib.hid (by
          rw [← HB0.out, HO.out]
          rw [show decide (xa + xm ≤ 4096) = false by simp; omega]; simp)
        clear HO
        go_wp2
        go_ret
        exact Ret.mk (bool_eq HE.out) HS1.out.below
      by_cases c4 : 4096 < xm
      · have c0 : ¬ xa < 0 := by omega
        have HE : Hid (false = b0) := Lib.hid (by
          rw [← HB0.out, HO.out]
          rw [show decide (xa + xm ≤ 4096) = false by simp; omega]; simp)
        clear HO
        go_wp2
        go_ret
        exact Ret.mk (bool_eq HE.out) HS1.out.below
      by_cases c5 : 4096 < xa + xm
      · have c0 : ¬ xa < 0 := by omega
        have HE : Hid (false = b0) := Lib.hid (by
          rw [← HB0.out, HO.out]
          rw [show decide (xa + xm ≤ 4096) = false by simp; omega]; simp)
        clear HO
        go_wp2
        go_ret
        exact Ret.mk (bool_eq HE.out) HS1.out.below
      have c0 : ¬ xa < 0 := by omega
      have HN : Hid (okG 4096 (-1) l = okG 4096 (xa + xm) (l.drop (k + 1))) := Lib.hid (by
        rw [HO.out, show decide (last < xa) = true by simp; omega, show decide (1 ≤ xm) = true by simp; omega, show decide (xa + xm ≤ 4096) = true by simp; omega]
        simp)
      clear HO
      go_wp2
      go_roundg (n - (k + 1))
      case measure => omega
      case rel => exact ⟨k + 1, xa + xm, by omega, rfl, by go_num, rfl, by omega, by omega, HN, HS1.out.pick [] (by decide) (by simp)⟩
    · have HE : Hid (true = b0) := Lib.hid (by
        rw [← HB0.out, HK.out, List.drop_of_length_le (by rw [HL.out]; omega)]
        rfl)
      go_wp2
      go_ret
      exact Ret.mk (bool_eq HE.out) HS.out.below
end Sp
end Go.Proofs.YtjopiepfjbnkbaaGreatDoor
/-! Walk of the reference's NGaps. Conditions: none. -/
namespace Go.Proofs.YtjopiepfjbnkbaaGreatDoor
open Go.RowKit
set_option linter.unusedVariables false
namespace Sp

def bcell (b : Bool) : List Value := [.bool b]
theorem bcell_len : ∀ x, (bcell x).length = 1 := fun _ => rfl
theorem gap_info : (Tryz.prog.info? 46).map (fun i => (i.zero, i.size, i.bytes)) = some (some (.agg #[.int .i64 0, .int .i64 0]), 2, 16) := by kernel_rfl
theorem bool_at {w wr : World} {b off Bd k : Nat} {l : List Bool} {x : Bool} (hb : b < Bd) (hB : Below Bd w wr) (hc : ∀ (i j : Nat) (x : Bool) (u : Value), l[i]? = some x → (bcell x)[j]? = some u → w.cell? ⟨b, off + (i * 1 + j), none⟩ = some u)
    (hx : l[k]? = some x) : wr.cell? ⟨b, off + k, none⟩ = some (.bool x) := (hB.cell hb).trans (by have := hc k 0 x _ hx rfl; simpa using this)

/-- the gaps of the first k blocks -/
def part (row : List Bool) (k : Nat) : List N := ng (row.take k) 0 false []
theorem ng_snoc (f : Bool) : ∀ (row : List Bool) (k : Nat) (prev : Bool) (out : List N), ng (row ++ [f]) k prev out = ngStep (ng row k prev out) (k + row.length) (row.getLast?.getD prev) f
  | [], k, prev, out => rfl
  | x :: t, k, prev, out => by
    show ng (t ++ [f]) (k + 1) x (ngStep out k prev x) = _
    rw [ng_snoc f t (k + 1) x]
    show _ = ngStep (ng t (k + 1) x (ngStep out k prev x)) _ _ f
    congr 1
    · simp; omega
    · cases t with
      | nil => rfl
      | cons y t => simp [List.getLast?_cons]
theorem part_succ {row : List Bool} {k : Nat} {f : Bool} (h : row[k]? = some f) : part row (k + 1) = ngStep (part row k) k ((row.take k).getLast?.getD false) f := by
  have hk := (List.getElem?_eq_some_iff.1 h).1
  have e : row.take (k + 1) = row.take k ++ [f] := by rw [List.take_add_one, h]; rfl
  unfold part
  rw [e, ng_snoc, List.length_take, Nat.zero_add, Nat.min_eq_left (by omega)]
theorem part_prev {row : List Bool} {k : Nat} {p : Bool} (h : row[k]? = some p) : (row.take (k + 1)).getLast?.getD false = p := by
  rw [List.take_add_one, h]
  simp
/-- where the block ahead was free a gap ends there: the list is not empty -/
theorem part_last {row : List Bool} : ∀ {k : Nat}, row[k]? = some true → ∃ init g, part row (k + 1) = init ++ [g]
  | 0, h => by
    rw [part_succ h]
    exact ⟨[], ⟨0, 1⟩, rfl⟩
  | k + 1, h => by
    rw [part_succ h]
    have hk := (List.getElem?_eq_some_iff.1 h).1
    obtain ⟨p, hp⟩ : ∃ p, row[k]? = some p := ⟨_, List.getElem?_eq_getElem (by omega)⟩
    rw [part_prev hp]
    cases p with
    | true =>
      obtain ⟨init, g, he⟩ := part_last hp
      exact ⟨init, ⟨g.a, g.m + 1⟩, by rw [ngStep, if_pos rfl, if_pos rfl, he, bump_snoc]⟩
    | false => exact ⟨part row (k + 1), ⟨k + 1, 1⟩, by rw [ngStep, if_pos rfl, if_neg (by decide)]⟩
theorem part_len {row : List Bool} : ∀ k : Nat, k ≤ row.length → (part row k).length ≤ k
  | 0, _ => by simp [part, ng]
  | k + 1, h => by
    obtain ⟨f, hf⟩ : ∃ f, row[k]? = some f := ⟨_, List.getElem?_eq_getElem (by omega)⟩
    have ih := part_len (row := row) k (by omega)
    rw [part_succ hf, ngStep]
    split
    · split
      · rename_i hp
        cases k with
        | zero => simp at hp
        | succ j =>
          obtain ⟨p, hpj⟩ : ∃ p, row[j]? = some p := ⟨_, List.getElem?_eq_getElem (by omega)⟩
          rw [part_prev hpj] at hp
          subst hp
          obtain ⟨init, g, he⟩ := part_last hpj
          rw [he, bump_snoc]
          rw [he] at ih
          simp at ih ⊢
          omega
      · simp; omega
    · omega

theorem part_m {row : List Bool} : ∀ k : Nat, k ≤ row.length → ∀ x ∈ part row k, x.m ≤ k
  | 0, _, x, hx => by simp [part, ng] at hx
  | k + 1, h, x, hx => by
    obtain ⟨f, hf⟩ : ∃ f, row[k]? = some f := ⟨_, List.getElem?_eq_getElem (by omega)⟩
    have ih := part_m (row := row) k (by omega)
    rw [part_succ hf, ngStep] at hx
    split at hx
    · split at hx
      · rename_i hp
        cases k with
        | zero => simp at hp
        | succ j =>
          obtain ⟨p, hpj⟩ : ∃ p, row[j]? = some p := ⟨_, List.getElem?_eq_getElem (by omega)⟩
          rw [part_prev hpj] at hp
          subst hp
          obtain ⟨init, g, he⟩ := part_last hpj
          rw [he, bump_snoc] at hx
          rw [he] at ih
          rcases List.mem_append.1 hx with hx | hx
          · have := ih x (by simp [hx]); omega
          · simp at hx
            subst hx
            have := ih g (by simp)
            simp
            omega
      · rcases List.mem_append.1 hx with hx | hx
        · have := ih x hx; omega
        · simp at hx
          subst hx
          simp
    · have := ih x hx; omega
theorem lastCells (init : List N) (g : N) (j : Nat) (hj : j < 2) : ((init ++ [g]).flatMap fun n => (G.of n).cells)[init.length * 2 + j]? = (G.of g).cells[j]? := by
  have := flat_get (cells := fun n : N => (G.of n).cells) (C := 2) (fun _ => rfl) (init ++ [g]) init.length j g (by rw [List.getElem?_append_right (Nat.le_refl _), Nat.sub_self]; rfl) hj
  exact this
def ncells (n : N) : List Value := (G.of n).cells
theorem ncells_len : ∀ n, (ncells n).length = 2 := fun _ => rfl
end Sp
end Go.Proofs.YtjopiepfjbnkbaaGreatDoor
/-! Walk of space.choose. Conditions: none. -/
namespace Go.Proofs.YtjopiepfjbnkbaaGreatDoor
open Go.RowKit
set_option linter.unusedVariables false
namespace Sp

/-- which gap is taken: its place and itself -/
def chStep (m : Nat) (fit : Bool) (b : Option (Nat × N)) (i : Nat) (g : N) : Option (Nat × N) :=
  if m ≤ g.m then match b with
    | none => some (i, g)
    | some (j, h) => if fit && decide (g.m < h.m) then some (i, g) else some (j, h)
  else b
def chAll (m : Nat) (fit : Bool) (l : List N) : Nat → Option (Nat × N)
  | 0 => none
  | k + 1 => match l[k]? with
    | some g => chStep m fit (chAll m fit l k) k g
    | none => chAll m fit l k
theorem chAll_at {m : Nat} {fit : Bool} {l : List N} : ∀ {k i : Nat} {g : N}, chAll m fit l k = some (i, g) → i < k ∧ l[i]? = some g ∧ m ≤ g.m
  | 0, i, g, h => by simp [chAll] at h
  | k + 1, i, g, h => by
    rw [chAll] at h
    cases hk : l[k]? with
    | none =>
      rw [hk] at h
      have := chAll_at h
      exact ⟨by omega, this.2⟩
    | some x =>
      rw [hk] at h
      simp only [chStep] at h
      by_cases hm : m ≤ x.m
      · rw [if_pos hm] at h
        cases hb : chAll m fit l k with
        | none =>
          rw [hb] at h
          simp at h
          obtain ⟨rfl, rfl⟩ := h
          exact ⟨by omega, hk, hm⟩
        | some p =>
          obtain ⟨j, y⟩ := p
          rw [hb] at h
          simp only at h
          split at h
          · simp at h
            obtain ⟨rfl, rfl⟩ := h
            exact ⟨by omega, hk, hm⟩
          · simp at h
            obtain ⟨rfl, rfl⟩ := h
            have := chAll_at hb
            exact ⟨by omega, this.2⟩
      · rw [if_neg hm] at h
        have := chAll_at h
        exact ⟨by omega, this.2⟩
/-- the place as a number, or -1 -/
def bestI : Option (Nat × N) → Int
  | none => -1
  | some p => (p.1 : Int)

set_option maxRecDepth 100000 in
set_option maxHeartbeats 3200000 in
theorem choose_any (A : Option Addr) (n c m : Nat) (kind at' : Int) (l : List N) (w : World) (hr : Rd w w.heap.size 2 A n (l.flatMap ncells)) (hl : l.length = n) (hn : n ≤ 9223372036854775807) :
    Calls Tryz.prog 70 #[.slice A n c, .agg #[.int .i64 kind, .int .i64 at', .int .i64 (m : Int)]] w (Ret w (.int .i64 (bestI (chAll m (kind == 2) l n)))) := by
  have HR := Lib.hid hr
  have HL := Lib.hid hl
  have S0 : Hid (Sep w (w.alloc (.cells #[.int .i64 kind, .int .i64 at', .int .i64 (m : Int)] 48)) [.cells w.heap.size 48 [.int .i64 kind, .int .i64 at', .int .i64 (m : Int)]]) := Lib.hid ((Sep.nil_ w).new 48 [.int .i64 kind, .int .i64 at', .int .i64 (m : Int)])
  clear hr hl
  go_enter Tryz.func70, Tryz.ntmps70
  go_wp2
  generalize w.heap.size = go at S0 ⊢
  go_loopg [5, 10] n (fun g v5 i wr => ∃ (k : Nat), k ≤ n ∧ g = n - k ∧ i = .int .i64 k ∧ v5 = .int .i64 (bestI (chAll m (kind == 2) l k)) ∧ Sep w wr [.cells go 48 [.int .i64 kind, .int .i64 at', .int .i64 (m : Int)]])
  case atStart => exact ⟨0, Nat.zero_le _, rfl, rfl, rfl, S0.out⟩
  case round =>
    clear S0
    obtain ⟨k, hk, rfl, rfl, rfl, hs⟩ := hrel
    have HS := Lib.hid hs
    clear hs
    by_cases hlt : k < n
    · obtain ⟨b, off, rfl, hb, hc⟩ := HR.out.at_ ncells_len (by omega)
      obtain ⟨x, hx⟩ : ∃ x, l[k]? = some x := ⟨_, List.getElem?_eq_getElem (by rw [HL.out]; exact hlt)⟩
      have d0 : wr.cell? ⟨b, off + k * 2, none⟩ = some (.int .i64 (x.a : Int)) := (HS.out.below.cell hb).trans (hc k 0 x _ hx rfl)
      have d1 : wr.cell? ⟨b, off + k * 2 + 1, none⟩ = some (.int .i64 (x.m : Int)) := (HS.out.below.cell hb).trans (hc k 1 x _ hx rfl)
      have i0 : (0 : Int) ≤ (k : Int) := by omega
      have i1 : (k : Int) < (n : Int) := by omega
      have HC := Lib.hid hc
      have HB1 : Hid (chAll m (kind == 2) l (k + 1) = chStep m (kind == 2) (chAll m (kind == 2) l k) k x) := Lib.hid (by rw [chAll, hx])
      have HS1 : Hid (Sep w (wr.alloc (.cells #[.int .i64 (x.a : Int), .int .i64 (x.m : Int)] 46)) [.cells go 48 [.int .i64 kind, .int .i64 at', .int .i64 (m : Int)], .cells wr.heap.size 46 [.int .i64 (x.a : Int), .int .i64 (x.m : Int)]]) := Lib.hid (HS.out.new 46 [.int .i64 (x.a : Int), .int .i64 (x.m : Int)])
      clear hc hx
      go_upto_region 5 with (fail)
      generalize wr.alloc (.cells #[.int .i64 (x.a : Int), .int .i64 (x.m : Int)] 46) = wo at HS1 ⊢
      generalize wr.heap.size = gx at HS1 ⊢
      clear HS d0 d1
      have q0 := fun z : LaterOf wo => z.cell (HS1.out.cell 0 rfl (k := 0) rfl)
      have q2 := fun z : LaterOf wo => z.cell (HS1.out.cell 0 rfl (k := 2) rfl)
      have p1 := fun z : LaterOf wo => z.cell (HS1.out.cell 1 rfl (k := 1) rfl)
      by_cases hm : m ≤ x.m
      · cases hbst : chAll m (kind == 2) l k with
        | none =>
          have HB2 : Hid (chAll m (kind == 2) l (k + 1) = some (k, x)) := Lib.hid (by rw [HB1.out, hbst, chStep, if_pos hm])
          clear hbst HB1
          simp only [bestI]
          go_wp2
          refine wp_region_later (by kernel_rfl) (by kernel_rfl) ?_
          repeat (go_big_quiet_step (fail))
          refine wpQuiet_nil ?_; intro x1 hw'; obtain ⟨xq, hw''⟩ := hw'; obtain ⟨xw0, h1⟩ := xq; change x1 = xw0 at hw''; subst hw''
          have HS2 := Lib.hid ((HS1.out.later h1).pick [0] (by decide) (by simp))
          clear HS1
          go_wp2
          go_roundg (n - (k + 1))
          case measure => omega
          case rel => exact ⟨k + 1, by omega, rfl, by go_num, by first | (rw [HB2.out]; done) | (rw [HB2.out]; rfl), HS2.out⟩
        | some p =>
          obtain ⟨i, h⟩ := p
          obtain ⟨c1, c2, c3⟩ := chAll_at hbst
          have e1 : ∀ z : LaterOf wo, z.w.cell? ⟨b, off + i * 2 + 1, none⟩ = some (.int .i64 (h.m : Int)) := fun z => z.cell ((HS1.out.below.cell hb).trans (HC.out i 1 h (.int .i64 (h.m : Int)) c2 rfl))
          have j0 : (0 : Int) ≤ (i : Int) := by omega
          have j1 : (i : Int) < (n : Int) := by omega
          have j2 : decide ((i : Int) < 0) = false := decide_eq_false (by omega)
          have j3 : ¬ (i : Int) < 0 := by omega
          cases hkd : (kind == 2) with
          | false =>
            have HB2 : Hid (chAll m (kind == 2) l (k + 1) = some (i, h)) := Lib.hid (by rw [HB1.out, hbst, chStep, if_pos hm, hkd]; rfl)
            clear hbst HB1 c2
            simp only [bestI]
            go_wp2
            refine wp_region_later (by kernel_rfl) (by kernel_rfl) ?_
            repeat (go_big_quiet_step (fail))
            refine wpQuiet_nil ?_; intro x1 hw'; obtain ⟨xq, hw''⟩ := hw'; obtain ⟨xw0, h1⟩ := xq; change x1 = xw0 at hw''; subst hw''
            have HS2 := Lib.hid ((HS1.out.later h1).pick [0] (by decide) (by simp))
            clear HS1
            go_wp2
            go_roundg (n - (k + 1))
            case measure => omega
            case rel => exact ⟨k + 1, by omega, rfl, by go_num, by first | (rw [HB2.out]; done) | (rw [HB2.out]; rfl), HS2.out⟩
          | true =>
            by_cases hlt2 : x.m < h.m
            · have HB2 : Hid (chAll m (kind == 2) l (k + 1) = some (k, x)) := Lib.hid (by rw [HB1.out, hbst, chStep, if_pos hm, hkd]; simp [hlt2])
              clear hbst HB1 c2
              simp only [bestI]
              go_wp2
              refine wp_region_later (by kernel_rfl) (by kernel_rfl) ?_
              repeat (go_big_quiet_step (fail))
              refine wpQuiet_nil ?_; intro x1 hw'; obtain ⟨xq, hw''⟩ := hw'; obtain ⟨xw0, h1⟩ := xq; change x1 = xw0 at hw''; subst hw''
              have HS2 := Lib.hid ((HS1.out.later h1).pick [0] (by decide) (by simp))
              clear HS1
              go_wp2
              go_roundg (n - (k + 1))
              case measure => omega
              case rel => exact ⟨k + 1, by omega, rfl, by go_num, by first | (rw [HB2.out]; done) | (rw [HB2.out]; rfl), HS2.out⟩
            · have HB2 : Hid (chAll m (kind == 2) l (k + 1) = some (i, h)) := Lib.hid (by rw [HB1.out, hbst, chStep, if_pos hm, hkd]; simp [hlt2])
              clear hbst HB1 c2
              simp only [bestI]
              go_wp2
              refine wp_region_later (by kernel_rfl) (by kernel_rfl) ?_
              repeat (go_big_quiet_step (fail))
              refine wpQuiet_nil ?_; intro x1 hw'; obtain ⟨xq, hw''⟩ := hw'; obtain ⟨xw0, h1⟩ := xq; change x1 = xw0 at hw''; subst hw''
              have HS2 := Lib.hid ((HS1.out.later h1).pick [0] (by decide) (by simp))
              clear HS1
              go_wp2
              go_roundg (n - (k + 1))
              case measure => omega
              case rel => exact ⟨k + 1, by omega, rfl, by go_num, by first | (rw [HB2.out]; done) | (rw [HB2.out]; rfl), HS2.out⟩
      · have HB2 : Hid (chAll m (kind == 2) l (k + 1) = chAll m (kind == 2) l k) := Lib.hid (by rw [HB1.out]; unfold chStep; rw [if_neg hm])
        clear HB1
        generalize hbb : chAll m (kind == 2) l k = bb at HB2 ⊢
        clear hbb
        go_wp2
        refine wp_region_later (by kernel_rfl) (by kernel_rfl) ?_
        repeat (go_big_quiet_step (fail))
        refine wpQuiet_nil ?_; intro x1 hw'; obtain ⟨xq, hw''⟩ := hw'; obtain ⟨xw0, h1⟩ := xq; change x1 = xw0 at hw''; subst hw''
        have HS2 := Lib.hid ((HS1.out.later h1).pick [0] (by decide) (by simp))
        clear HS1
        go_wp2
        go_roundg (n - (k + 1))
        case measure => omega
        case rel => exact ⟨k + 1, by omega, rfl, by go_num, by first | (rw [HB2.out]; done) | (rw [HB2.out]; rfl), HS2.out⟩
    · obtain rfl : k = n := by omega
      go_wp2
      go_ret
      exact Ret.mk rfl HS.out.below
end Sp
end Go.Proofs.YtjopiepfjbnkbaaGreatDoor
/-! The plain law of a step on free blocks. Conditions: none beyond each theorem's own premises. -/
namespace Go.Proofs.YtjopiepfjbnkbaaGreatDoor
open Go.RowKit
set_option linter.unusedVariables false
namespace Sp

def hitsB (l : List N) (a m : Nat) : Bool := l.any fun x => decide (x.a < a + m) && decide (a < x.a + x.m)
def giveP (l : List N) (a m : Nat) : List N × N := l.foldl giveStep ([], ⟨a, m⟩)
def giveL (l : List N) (a m : Nat) : List N := ins (giveP l a m).2 (giveP l a m).1
/-- what a step answers: the gaps, what is wrong, where -/
def stepL (S : Nat) (l : List N) (kind at' many : Int) : List N × Int × Int :=
  if kind < 1 ∨ 3 < kind then ([], 5, 0)
  else if many < 1 ∨ (S : Int) < many then ([], 2, 0)
  else if kind = 3 then
    (if at' < 0 ∨ (S : Int) - many < at' then ([], 2, 0)
     else if hitsB l at'.toNat many.toNat then ([], 6, 0)
     else (giveL l at'.toNat many.toNat, 0, at'))
  else match chAll many.toNat (kind == 2) l l.length with
    | none => ([], 4, 0)
    | some p => (takeL l p.1 many.toNat, 0, (p.2.a : Int))

theorem ok_len {S : Nat} : ∀ (l : List N) (lo : Nat), Ok S lo l → l.length ≤ S - lo
  | [], _, _ => Nat.zero_le _
  | g :: t, lo, h => by
    obtain ⟨h1, h2, h3, h4⟩ := h
    have := ok_len t _ h4
    rw [List.length_cons]
    omega
theorem ok_mem {S lo : Nat} {l : List N} (h : Ok S lo l) : ∀ x ∈ l, 1 ≤ x.m ∧ x.a + x.m ≤ S := fun x hx => ((ok_iff.1 h).2 x hx).2
theorem hits_no {l : List N} {a m : Nat} (h : hitsB l a m = false) : ∀ x ∈ l, x.a + x.m ≤ a ∨ a + m ≤ x.a := fun x hx => by
  have := List.any_eq_false.1 h x hx
  simp at this
  omega
theorem give_law {S : Nat} {l : List N} {a m : Nat} (h : Ok S 0 l) (hm : 1 ≤ m) (ha : a + m ≤ S) (hh : hitsB l a m = false) :
    Ok S 0 (giveL l a m) ∧ ∀ k, mem (giveL l a m) k = (mem l k || inG ⟨a, m⟩ k) := by
  obtain ⟨out, g, h1, h2, h3, h4, h5, h6⟩ := give_all l [] ⟨a, m⟩ h hm ha (by simp) (hits_no hh)
  have e : giveP l a m = (out, g) := h1
  unfold giveL
  rw [e]
  obtain ⟨h7, h8⟩ := ins_ok (size := S) h3 h4 out 0 h2 (Nat.zero_le _) h5
  exact ⟨h7, fun k => by rw [h8, h6]; rfl⟩
theorem take_set (m : Nat) (g : N) : ∀ (l : List N) (i : Nat), l[i]? = some g → takeL l i m = if g.m = m then l.take i ++ l.drop (i + 1) else l.set i ⟨g.a + m, g.m - m⟩
  | [], i, h => by simp at h
  | x :: t, 0, h => by
    simp at h
    subst h
    simp [takeL]
  | x :: t, i + 1, h => by
    rw [takeL, take_set m g t i (by simpa using h)]
    split <;> simp
theorem hits_iff {S : Nat} {l : List N} {a m : Nat} (h : Ok S 0 l) (hm1 : 1 ≤ m) : hitsB l a m = true ↔ ∃ j, j < m ∧ mem l (a + j) = true := by
  constructor
  · intro hh
    obtain ⟨x, hx, h1⟩ := List.any_eq_true.1 hh
    simp only [Bool.and_eq_true, decide_eq_true_eq] at h1
    have h2 := ok_mem h x hx
    refine ⟨max x.a a - a, ?_, List.any_eq_true.2 ⟨x, hx, ?_⟩⟩
    · simp only [Nat.max_def]; split <;> omega
    · simp only [Bool.and_eq_true, decide_eq_true_eq, Nat.max_def]
      split <;> omega
  · rintro ⟨j, hj, h1⟩
    obtain ⟨x, hx, h2⟩ := List.any_eq_true.1 h1
    simp only [Bool.and_eq_true, decide_eq_true_eq] at h2
    exact List.any_eq_true.2 ⟨x, hx, by simp; omega⟩

def StepRet (w : World) (p : List N × Int × Int) (e : Ending) (w' : World) : Prop :=
  ∃ A c, p.1.length ≤ c ∧ e = .returned (.tuple #[.slice A p.1.length c, .agg #[.int .i64 p.2.1, .int .i64 p.2.2]]) ∧ Sep w w' [.row 46 2 (.slice A p.1.length c) p.1.length (p.1.flatMap ncells)]
theorem gap_one (l : List N) : ∀ u ∈ l.flatMap ncells, u.oneCell' = true := by
  intro u hu
  obtain ⟨x, _, hx⟩ := List.mem_flatMap.1 hu
  simp [ncells, G.of, G.cells] at hx
  rcases hx with rfl | rfl <;> rfl
theorem cell_gap {l : List N} {k : Nat} {x : N} (h : l[k]? = some x) : (l.flatMap ncells)[k * 2]? = some (.int .i64 (x.a : Int)) ∧ (l.flatMap ncells)[k * 2 + 1]? = some (.int .i64 (x.m : Int)) :=
  ⟨flat_get ncells_len l k 0 x h (by omega), flat_get ncells_len l k 1 x h (by omega)⟩
end Sp
end Go.Proofs.YtjopiepfjbnkbaaGreatDoor
/-! slices.Delete and slices.Insert at gaps, over a row of the call's own. Conditions: none beyond each theorem's own premises. -/
namespace Go.Proofs.YtjopiepfjbnkbaaGreatDoor
open Go.RowKit
set_option linter.unusedVariables false
theorem shape_of' {w : World} {g : Nat} {cur : Array Value} {E : TypeId} {p : Nat × Nat} (h : w.heap[g]? = some (.cells cur E p)) : w.shape? g = some (E, cur.size) := by
  unfold World.shape?
  rw [h]
namespace Sp
set_option maxRecDepth 100000 in
set_option maxHeartbeats 1600000 in
theorem delete_any (w0 w : World) (L : List It) (A : Option Addr) (m c i : Nat) (xs : List Value) (H : Sep w0 w (.row 46 2 (.slice A (m + 1) c) (m + 1) xs :: L)) (hi : i ≤ m) (hmc : m + 1 ≤ c) (hm : m + 1 ≤ 9223372036854775807) (h1 : ∀ u ∈ xs, u.oneCell' = true) :
    Calls Tryz.prog 72 #[.slice A (m + 1) c, .int .i64 (i : Int), .int .i64 ((i : Int) + 1)] w (fun e w' => e = .returned (.slice A m c) ∧ Sep w0 w' (.row 46 2 (.slice A m c) m (xs.take (i * 2) ++ xs.drop ((i + 1) * 2)) :: L)) := by
  obtain ⟨ti, hti, t0, t1, t2⟩ := info_parts gap_info
  obtain ⟨v, A2, A3, d, c2, c3, s0, s1, s2, s3, hS⟩ := strike_sep (P := Tryz.prog) H 0 (t := 43) Tryz.underlying43 hti t0 t1 rfl (by decide) (by omega) rfl hi hmc h1
  have HS := Lib.hid hS
  have HH := Lib.hid H
  clear H hS h1
  obtain ⟨n, hn⟩ : ∃ n, n = m + 1 := ⟨_, rfl⟩
  rw [← hn] at s0 s1 s2 s3 HH hmc hm ⊢
  have HN := Lib.hid hn
  have ne : ((i : Int) == (i : Int) + 1) = false := by simp; omega
  have ne2 : ¬ (i : Int) = (i : Int) + 1 := by omega
  clear hn
  go_enter Tryz.func72, Tryz.ntmps72
  go_upto_region 5 with (fail)
  (refine wp_region_tail 6 (by kernel_rfl) (by kernel_rfl) ?_; simp only [List.take_succ_cons, List.take_zero, List.drop_succ_cons, List.drop_zero]; repeat (go_big_quiet_step (fail)))
  refine wpQuiet_nil ?_; intro xw hw'; obtain ⟨xq, hw''⟩ := hw'; obtain ⟨xw0, xh⟩ := xq; change xw = xw0 at hw''; subst hw''
  obtain ⟨w2, w3, ha, hc, hs⟩ := HS.out xw xh
  have HS3 := Lib.hid hs
  clear hs
  go_wp2_with (first | (at_builtin; refine Lib.wpList_append_run _ rfl _ _ _ _ rfl _ _ rfl rfl _ _ (ha _) ?_))
  go_ret
  exact ⟨rfl, HS3.out⟩

set_option maxRecDepth 100000 in
set_option maxHeartbeats 3200000 in
theorem insert_any (w0 w : World) (L : List It) (A : Option Addr) (n c i gv : Nat) (xs v : List Value) (H : Sep w0 w (.row 46 2 (.slice A n c) n xs :: .cells gv 46 v :: L)) (hv : v.length = 2) (hv1 : ∀ u ∈ v, u.oneCell' = true) (h1 : ∀ u ∈ xs, u.oneCell' = true) (hi : i ≤ n) (hn : n ≤ 5864062014804) (hnc : n ≤ c) :
    Calls Tryz.prog 69 #[.slice A n c, .int .i64 (i : Int), .slice (some ⟨gv, 0, none⟩) 1 1] w (fun e w' => ∃ A' c', e = .returned (.slice A' (n + 1) c') ∧ n + 1 ≤ c' ∧ Sep w0 w' (.row 46 2 (.slice A' (n + 1) c') (n + 1) (xs.take (i * 2) ++ (v ++ xs.drop (i * 2))) :: .cells gv 46 v :: L)) := by
  obtain ⟨ti, hti, t0, t1, t2⟩ := info_parts gap_info
  have hs0 : ∃ q, ∀ w, (Instr.slice 43 (.slice A n c) (some (.int .i64 (i : Int))) none none).run Tryz.prog w = .ok q w := ⟨_, from_run (P := Tryz.prog) Tryz.underlying43 (size_of_info hti t1) A n c i hi⟩
  obtain ⟨q, hq⟩ := hs0
  have hib : i ≤ 5864062014804 := by omega
  have HH := Lib.hid H
  have HV1 := Lib.hid hv1
  have H1 := Lib.hid h1
  have hxl : xs.length = n * 2 := (H.rowHas 0 rfl).1
  have HXL := Lib.hid hxl
  have HVR : Hid (Rd w w.heap.size 2 (some ⟨gv, 0, none⟩) 1 v) := Lib.hid ⟨by rw [hv], fun _ => ⟨gv, 0, rfl, Blk.lt (H.blk 1 rfl), fun j u hj => by rw [Nat.zero_add]; exact H.cell 1 rfl hj⟩⟩
  by_cases hin : i = n
  · subst hin
    clear H hv1 h1 hxl
    have hXB : Hid (xs.take (i * 2) ++ (v ++ xs.drop (i * 2)) = xs ++ v) := Lib.hid (by rw [List.take_of_length_le (by rw [HXL.out]; exact Nat.le_refl _), List.drop_of_length_le (by rw [HXL.out]; exact Nat.le_refl _), List.append_nil])
    go_enter Tryz.func69, Tryz.ntmps69
    go_wp2_with (at_builtin; refine wpList_append_sep HH.out 0 rfl (.tmp 23) (.tmp 24) 43 rfl 46 ti (.agg #[.int .i64 0, .int .i64 0]) 2 16 Tryz.underlying43 hti t0 t1 t2 rfl (by omega) _ i _ rfl rfl _ _ 1 1 _ rfl HVR.out HV1.out (by simp only [maxLen]; omega) (by omega) ?_; intro A6 c6 w3 hc6 hs3 HA; have HA' := Lib.hid HA; clear HA hs3)
    go_ret
    exact ⟨A6, c6, rfl, hc6, by rw [hXB.out]; exact HA'.out⟩
  have ne : ((i : Int) == (n : Int)) = false := by simp; omega
  have ne2 : ¬ (i : Int) = (n : Int) := by omega
  by_cases hroom : n + 1 ≤ c
  · obtain ⟨g, Ai, Aj, di, ci, cj, r1, r2, rfl, hne, hdi, rfl, s1, s2, s3, hS⟩ := put_room_sep (P := Tryz.prog) (t := 43) (C := 2) (i := i) Tryz.underlying43 hti t1 (by omega) H hv hv1 (by omega) hroom h1
    have HS := Lib.hid hS
    obtain ⟨tB, kB, hsb, hkB⟩ : ∃ tB kB, w.shape? g = some (tB, kB) ∧ kB ≠ 0 := by
      obtain ⟨g', cap', cur, hv', hh, _, _, hsz, _⟩ := (H.rowHas 0 rfl).2.resolve_left (fun h => by omega)
      cases hv'
      exact ⟨_, _, shape_of' hh, by rw [hsz]; omega⟩
    have hov : ∀ lb cb, (callFunc 101 #[.slice (some ⟨gv, 0, none⟩) 1 1, .slice (some ⟨g, (i + 1) * 2, none⟩) lb cb]).run Tryz.prog w = .ok (.value (.bool false)) w := fun lb cb => by
      rw [run_callFunc_extern Tryz.func101 (by kernel_rfl) (by kernel_rfl) (by kernel_rfl) (e := Extern.SlicesOverlaps.overlaps #[43, 43] #[4]) (by kernel_rfl),
        Lib.run_overlaps_apart w 43 4 46 Tryz.underlying43 2 (size_of_info hti t1) ⟨gv, 0, none⟩ ⟨g, (i + 1) * 2, none⟩ 1 1 lb cb hne _ tB _ kB (shape_of' (H.blk 1 rfl)) hsb hkB (H.froz 1 rfl) (H.froz 1 rfl)]
      rfl
    have HIN := Lib.hid (And.intro hi hnc)
    have HRM := Lib.hid hroom
    clear H hv1 h1 hxl hS hsb hkB
    generalize hqq : (i + 1) * 2 = q2 at s2 hov HS
    clear hqq
    have k1 : ¬ (c : Int) < (n : Int) + 1 := by omega
    have k2 : decide ((c : Int) < (n : Int) + 1) = false := decide_eq_false k1
    clear hi hnc hroom hin
    go_enter Tryz.func69, Tryz.ntmps69
    go_upto_region 15 with (simp only [hov])
    (refine wp_region_tail 8 (by kernel_rfl) (by kernel_rfl) ?_; simp only [List.take_succ_cons, List.take_zero, List.drop_succ_cons, List.drop_zero]; repeat (go_big_quiet_step (fail)))
    refine wpQuiet_nil ?_; intro xw hw'; obtain ⟨xq, hw''⟩ := hw'; obtain ⟨xw0, xh⟩ := xq; change xw = xw0 at hw''; subst hw''
    obtain ⟨w2, w3, ha, hc, hs⟩ := HS.out xw xh
    rw [List.append_assoc] at hs
    have HS3 := Lib.hid hs
    clear hs
    go_wp2_with (first | (at_builtin; refine wpList_copy_runI _ rfl _ _ 43 43 rfl _ _ rfl rfl (ha _) ?_; clear ha) | (at_builtin; refine wpList_copy_runI _ rfl _ _ 43 43 rfl _ _ rfl rfl (hc _) ?_; clear hc))
    go_ret
    exact ⟨_, c, rfl, HRM.out, HS3.out⟩
  · obtain rfl : c = n := by omega
    obtain ⟨A2, Ai, Aj, As, c2, di, ci, cj, cs, w1, w2, r1, r2, hc2, s1, happ, s2, s3, s4, hcp, hS⟩ := put_grow_sep (P := Tryz.prog) (t := 43) (tn := 3) (C := 2) (i := i) (bytes := 16) Tryz.underlying43 Tryz.underlying3 hti t0 t1 t2 rfl (by omega) H hv hv1 (by omega) h1 (by simp only [maxLen]; omega) (by omega)
    have HS := Lib.hid hS
    have HIN := Lib.hid (And.intro hi hin)
    have k1 : (c : Int) < (c : Int) + 1 := by omega
    clear H hv1 h1 hxl hS hi hin hroom hnc hq
    go_enter Tryz.func69, Tryz.ntmps69
    go_upto_region 11 with (first
      | (at_builtin; refine Lib.wpList_append_run _ rfl _ _ _ _ rfl _ _ rfl rfl _ _ (happ _) ?_; clear happ)
      | (at_builtin; refine wpList_copy_runI _ rfl _ _ 43 43 rfl _ _ rfl rfl (hcp _) ?_; clear hcp))
    (refine wp_region_tail 8 (by kernel_rfl) (by kernel_rfl) ?_; simp only [List.take_succ_cons, List.take_zero, List.drop_succ_cons, List.drop_zero]; repeat (go_big_quiet_step (fail)))
    refine wpQuiet_nil ?_; intro xw hw'; obtain ⟨xq, hw''⟩ := hw'; obtain ⟨xw0, xh⟩ := xq; change xw = xw0 at hw''; subst hw''
    obtain ⟨w3, hc, hs⟩ := HS.out xw xh
    rw [List.append_assoc] at hs
    have HS3 := Lib.hid hs
    clear hs
    go_wp2_with (at_builtin; refine wpList_copy_runI _ rfl _ _ 43 43 rfl _ _ rfl rfl (hc _) ?_; clear hc)
    go_ret
    exact ⟨_, c2, rfl, hc2, HS3.out⟩
end Sp
end Go.Proofs.YtjopiepfjbnkbaaGreatDoor
