/-
  The plain law of what a script tells: the lines of answers and of what is kept; how great answers and operations are. Plain Lean, no program. Conditions: none.
-/
import Derived.Test.YtccpkkopniadiaaGreatDoorBnX
import Derived.Test.YtccpkkopniadiaaGreatDoorSoX2
namespace Go.Proofs.YtccpkkopniadiaaGreatDoor
set_option linter.unusedVariables false
namespace So
open _root_.Go.Proofs.YtccpkkopniadiaaGreatDoor.Bn _root_.Go.Proofs.YtccpkkopniadiaaGreatDoor.Dr

/-! lines -/
def pOk : By := [111, 107]
def pErr : By := [101, 114, 114, 111, 114, 32]
def pKept : By := [107, 101, 112, 116, 32]
def aln (o : Op) (a : An) : By := if a.er = 0 then (if o.kind = 3 then pOk ++ 32 :: hx a.dt.data.toList else pOk) else pErr ++ Lib.itoa a.er
def kln (k : Kp) : By := pKept ++ (k.nm.data.toList ++ 32 :: hx k.dt.data.toList)
def tells (ops : List Op) (an : List An) (ks : List Kp) : List By := List.zipWith aln ops an ++ ks.map kln

/-! how great -/
def Fb (h : Fs) : Prop := ∀ x a, h x = some a → x.size ≤ 12 ∧ a.size ≤ 200
def Cb (C : List Op) : Prop := ∀ o ∈ C, o.kind = 1 → o.nm.size ≤ 12 ∧ o.dt.size ≤ 200
theorem fb_no : Fb mno := fun x a h => by simp [mno] at h
theorem fb_ap {h : Fs} {o : Op} (H : Fb h) (ho : o.kind = 1 → o.nm.size ≤ 12 ∧ o.dt.size ≤ 200) : Fb (ap h o) := by
  intro x a hx
  unfold ap at hx
  split at hx
  · next hk =>
    by_cases e : x = o.nm
    · subst e
      rw [mup_same] at hx
      injection hx with hx
      subst hx
      exact ho hk
    · rw [mup_other _ _ e] at hx
      exact H x a hx
  · by_cases e : x = o.nm
    · subst e
      rw [mdel_same] at hx
      cases hx
    · rw [mdel_other _ e] at hx
      exact H x a hx
theorem fb_now : ∀ (C : List Op) {D : Fs}, Fb D → Cb C → Fb (now D C)
  | [], D, H, _ => H
  | o :: C, D, H, hC => fb_now C (fb_ap H (hC o (by simp))) (fun x hx => hC x (by simp [hx]))
theorem cb_snoc {C : List Op} {o : Op} (H : Cb C) (ho : o.kind = 1 → o.nm.size ≤ 12 ∧ o.dt.size ≤ 200) : Cb (C ++ [o]) := by
  intro x hx
  rcases List.mem_append.1 hx with h | h
  · exact H x h
  · rw [List.mem_singleton.1 h]; exact ho
theorem way_bd {D D' : Fs} {C C' : List Op} {o : Op} {a : An} (hw : Way D C o a D' C') (hD : Fb D) (hC : Cb C) : Fb D' ∧ Cb C' ∧ a.dt.size ≤ 200 ∧ 0 ≤ a.er ∧ a.er ≤ 5 := by
  have hn := fb_now C hD hC
  cases hw with
  | low h => exact ⟨hD, hC, by decide, by decide, by decide⟩
  | high h => exact ⟨hD, hC, by decide, by decide, by decide⟩
  | bad h h1 => exact ⟨hD, hC, by decide, by decide, by decide⟩
  | long h h1 h2 => exact ⟨hD, hC, by decide, by decide, by decide⟩
  | full h h1 h2 h3 n h4 h5 => exact ⟨hD, hC, by decide, by decide, by decide⟩
  | fresh h h1 h2 h3 n h4 h5 => exact ⟨hD, cb_snoc hC (fun _ => ⟨h1.2.1, h2⟩), by decide, by decide, by decide⟩
  | over h h1 h2 a h3 => exact ⟨hD, cb_snoc hC (fun _ => ⟨h1.2.1, h2⟩), by decide, by decide, by decide⟩
  | none2 h h3 => exact ⟨hD, hC, by decide, by decide, by decide⟩
  | none3 h h3 => exact ⟨hD, hC, by decide, by decide, by decide⟩
  | remove h a h3 => exact ⟨hD, cb_snoc hC (fun e => by rw [h] at e; cases e), by decide, by decide, by decide⟩
  | read h a h3 => exact ⟨hD, hC, (hn _ _ h3).2, by simp, by simp⟩
  | sync h => exact ⟨hn, (by intro x hx; cases hx), by decide, by decide, by decide⟩
  | before h h1 => exact ⟨hD, hC, by decide, by decide, by decide⟩
  | crash h k h1 h2 => exact ⟨fb_now _ hD (fun x hx => hC x (List.mem_of_mem_take hx)), (by intro x hx; cases hx), by decide, by decide, by decide⟩
def Ab (a : An) : Prop := a.dt.size ≤ 200 ∧ 0 ≤ a.er ∧ a.er ≤ 5
theorem plays_bd : ∀ {os : List Op} {D : Fs} {C : List Op} {an : List An} {D' : Fs} {C' : List Op}, Plays D C os an D' C' → Fb D → Cb C → Fb D' ∧ Cb C' ∧ ∀ a ∈ an, Ab a
  | [], _, _, _, _, _, h, hD, hC => by cases h; exact ⟨hD, hC, by simp⟩
  | o :: os, _, _, _, _, _, h, hD, hC => by
    cases h with
    | cons hw ht =>
      obtain ⟨h1, h2, h3⟩ := way_bd hw hD hC
      obtain ⟨h4, h5, h6⟩ := plays_bd ht h1 h2
      refine ⟨h4, h5, fun a ha => ?_⟩
      rcases List.mem_cons.1 ha with rfl | ha
      · exact h3
      · exact h6 a ha
theorem kept_bd {h : Fs} {ks : List Kp} (H : Fb h) (K : KeptIs h ks) : ∀ k ∈ ks, k.nm.size ≤ 12 ∧ k.dt.size ≤ 200 := fun k hk => H _ _ ((K.2 k).1 hk)

theorem reads_sz {l : By} {o : Op} (h : Reads l o) : o.nm.size ≤ l.length ∧ o.dt.size ≤ l.length := by
  obtain ⟨hc, hk, rfl⟩ := h
  have z : e0.size = 0 := rfl
  cases hc with
  | write nm dt =>
    have e : lt ⟨1, nm, dt, 0⟩ = pW ++ 32 :: (nm.data.toList ++ 32 :: hx dt.data.toList) := rfl
    have e2 : nm.data.toList.length = nm.size := size_data nm
    have e3 : dt.data.toList.length = dt.size := size_data dt
    have e4 : dt.size ≤ (hx dt.data.toList).length := by
      unfold hx
      split
      · next h => rw [← e3, h]; exact Nat.zero_le _
      · rw [Lib.Hx.encode_length]; omega
    rw [e]
    simp only [List.length_append, List.length_cons]
    show nm.size ≤ _ ∧ dt.size ≤ _
    omega
  | remove nm =>
    have e : lt ⟨2, nm, e0, 0⟩ = pM ++ 32 :: nm.data.toList := rfl
    have e2 : nm.data.toList.length = nm.size := size_data nm
    rw [e]
    simp only [List.length_append, List.length_cons]
    show nm.size ≤ _ ∧ e0.size ≤ _
    omega
  | read nm =>
    have e : lt ⟨3, nm, e0, 0⟩ = pR ++ 32 :: nm.data.toList := rfl
    have e2 : nm.data.toList.length = nm.size := size_data nm
    rw [e]
    simp only [List.length_append, List.length_cons]
    show nm.size ≤ _ ∧ e0.size ≤ _
    omega
  | sync => exact ⟨Nat.zero_le _, Nat.zero_le _⟩
  | crash k => exact ⟨Nat.zero_le _, Nat.zero_le _⟩
  | zero => exact absurd hk (by decide)
theorem pr_sz {B : Nat} : ∀ {s : By} {es : List Op} {r : Option (List Op)} {k : Nat}, PR s es r k → s.length ≤ B → (∀ o ∈ es, o.nm.size ≤ B ∧ o.dt.size ≤ B) → ∀ os, r = some os → os.length ≤ es.length + s.length ∧ ∀ o ∈ os, o.nm.size ≤ B ∧ o.dt.size ≤ B := by
  intro s es r k h
  induction h with
  | done => intro hB he os ho; cases ho; exact ⟨by simp, he⟩
  | rest h hn => intro hB he os ho; cases ho
  | @line l t es o r k hn h ht ih =>
    intro hB he os ho
    rw [List.length_append, List.length_cons] at hB
    have hs := reads_sz h
    obtain ⟨h1, h2⟩ := ih (by omega) (fun x hx => by
      rcases List.mem_append.1 hx with hx | hx
      · exact he x hx
      · rw [List.mem_singleton.1 hx]; omega) os ho
    refine ⟨?_, h2⟩
    rw [List.length_append, List.length_cons]
    rw [List.length_append, List.length_singleton] at h1
    omega
  | bad hn h => intro hB he os ho; cases ho
end So
end Go.Proofs.YtccpkkopniadiaaGreatDoor
