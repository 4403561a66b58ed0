/-
  Base texts in one: SdM, SdC. Conditions: none beyond each theorem's own premises.
-/
import Derived.Test.YtjopiepfjbnkbaaGreatDoorSpTG
import Derived.Test.YtjopiepfjbnkbaaGreatDoorRunsB
import Derived.Test.YtjopiepfjbnkbaaGreatDoorRunsW3
import Derived.Test.YtjopiepfjbnkbaaGreatDoorFkW
import Derived.Shelf.Abstract
/-! The plain law of TopSound: blocks taken for files, laid down run by run, are each one file's, and just those that are not free. Plain Lean, no program. Conditions: none. -/
namespace Go.Proofs.YtjopiepfjbnkbaaGreatDoor
set_option linter.unusedVariables false
namespace Sd

/-! runs -/
theorem find_fn (x : Int) : ∀ l : List Runs.R, Runs.findL x l = Runs.fn x l
  | [] => rfl
  | r :: t => by
    unfold Runs.findL Runs.fn
    rw [find_fn x t]
    split
    · congr 1
      omega
    · rfl
def Sm (q : Runs.R) : Prop := 0 ≤ q.at_ ∧ 1 ≤ q.many ∧ q.at_ + q.many ≤ 4096 ∧ 0 ≤ q.disk ∧ q.disk ≤ 4096
theorem one_of {q : Runs.R} (h : Sm q) : Runs.oneB q = true := by
  obtain ⟨h1, h2, h3, h4, h5⟩ := h
  unfold Runs.oneB
  simp
  omega
theorem right_of : ∀ (l : List Runs.R) (p : Option Runs.R), Runs.NF p l → (∀ q ∈ l, Sm q) → (∀ q, p = some q → Sm q) → Runs.rightR p l = true
  | [], p, _, _, _ => by cases p <;> rfl
  | r :: t, p, hnf, hs, hp => by
    obtain ⟨h1, h2, h3⟩ := hnf
    have hr := hs r (by simp)
    have ih := right_of t (some r) h3 (fun q hq => hs q (by simp [hq])) (fun q hq => by cases hq; exact hr)
    have hc : Runs.chk p r = true := by
      cases p with
      | none => rfl
      | some q =>
        have hq := hp q rfl
        obtain ⟨a1, a2⟩ := h2 q rfl
        obtain ⟨b1, b2, b3, b4, b5⟩ := hq
        have w1 := Runs.wrap_small b1 (by omega) b2 (by omega)
        have w2 := Runs.wrap_small b4 (by omega) b2 (by omega)
        have e : Runs.chk (some q) r = (!(decide (r.at_ < RowKit.wrap64 (q.at_ + q.many))) && !Runs.contB q r) := rfl
        rw [e]
        unfold Runs.contB
        rw [w1, w2]
        simp
        omega
    unfold Runs.rightR
    rw [one_of hr, hc, ih]
    rfl
/-- a file's runs say which blocks it has -/
structure FI (l : List Runs.R) (b : List Nat) : Prop where
  ok : Runs.rightB l = true
  nf : Runs.NF none l
  ed : ∀ q ∈ l, 0 ≤ q.at_ ∧ q.at_ + q.many ≤ (b.length : Int)
  fn : ∀ (x d : Int), Runs.fn x l = some d ↔ ∃ (i y : Nat), x = (i : Int) ∧ b[i]? = some y ∧ d = (y : Int)
theorem fi0 : FI [] [] := ⟨rfl, trivial, by simp, fun x d => ⟨fun h => by simp [Runs.fn] at h, fun ⟨i, y, _, h, _⟩ => by simp at h⟩⟩
theorem ef_all {P : Int → Prop} : ∀ (l : List Runs.R) (E : List Int), (∀ e ∈ E, P e) → (∀ q ∈ l, P q.at_ ∧ P (q.at_ + q.many)) → ∀ e ∈ l.foldl Runs.Ef E, P e
  | [], E, h, _ => h
  | r :: t, E, h, hl => ef_all t (Runs.Ef E r) (fun e he => by
      unfold Runs.Ef at he
      rcases List.mem_cons.1 he with rfl | he
      · exact (hl r (by simp)).2
      · rcases List.mem_cons.1 he with rfl | he
        · exact (hl r (by simp)).1
        · exact h e he) (fun q hq => hl q (by simp [hq]))
theorem nf_pos : ∀ {l : List Runs.R} {p : Option Runs.R}, Runs.NF p l → ∀ q ∈ l, 1 ≤ q.many
  | [], _, _, q, hq => by cases hq
  | r :: t, p, h, q, hq => by
    obtain ⟨h1, _, h3⟩ := h
    rcases List.mem_cons.1 hq with rfl | hq
    · exact h1
    · exact nf_pos h3 q hq
theorem range_at {a m i y : Nat} : (List.range' a m)[i]? = some y ↔ i < m ∧ y = a + i := by
  constructor
  · intro h
    have hi := (List.getElem?_eq_some_iff.1 h).1
    rw [List.length_range'] at hi
    rw [List.getElem?_range' hi] at h
    have := Option.some.inj h
    exact ⟨hi, by omega⟩
  · rintro ⟨hi, rfl⟩
    rw [List.getElem?_range' hi]
    congr 1
    omega
theorem fi_put {l cl : List Runs.R} {b : List Nat} (h : FI l b) {a m : Nat} (hm : 1 ≤ m) (hlen : b.length + m ≤ 4096) (ha : a + m ≤ 4096) (hb : ∀ d ∈ b, d ≤ 4096) (hp : Runs.PutOk ⟨(b.length : Int), (a : Int), (m : Int)⟩ l cl) : FI cl (b ++ List.range' a m) := by
  have hfn : ∀ (x d : Int), Runs.fn x cl = some d ↔ ∃ (i y : Nat), x = (i : Int) ∧ (b ++ List.range' a m)[i]? = some y ∧ d = (y : Int) := by
    intro x d
    rw [hp.fn x d]
    unfold Runs.dkf
    simp only
    by_cases hx : (b.length : Int) ≤ x ∧ x < (b.length : Int) + (m : Int)
    · rw [if_pos hx, if_pos trivial]
      obtain ⟨i, rfl⟩ : ∃ i : Nat, x = (i : Int) := ⟨x.toNat, by omega⟩
      constructor
      · rintro ⟨h1, h2⟩
        refine ⟨i, a + (i - b.length), rfl, ?_, by omega⟩
        rw [List.getElem?_append_right (by omega)]
        exact range_at.2 ⟨by omega, rfl⟩
      · rintro ⟨j, y, hj, h1, h2⟩
        obtain rfl : i = j := by omega
        rw [List.getElem?_append_right (by omega)] at h1
        obtain ⟨h3, h4⟩ := range_at.1 h1
        omega
    · rw [if_neg hx]
      have hold : (Runs.mfindL x l = d ∧ 0 ≤ d) ↔ Runs.fn x l = some d := by
        unfold Runs.mfindL
        rw [find_fn]
        cases hf : Runs.fn x l with
        | none =>
          constructor
          · rintro ⟨h1, h2⟩
            simp at h1
            omega
          · intro h1; cases h1
        | some v =>
          obtain ⟨i, y, _, _, h3⟩ := (h.fn x v).1 hf
          constructor
          · rintro ⟨h1, h2⟩
            simp at h1
            rw [h1]
          · intro h1
            cases h1
            exact ⟨rfl, by omega⟩
      rw [hold, h.fn x d]
      constructor
      · rintro ⟨i, y, h1, h2, h3⟩
        have hi := (List.getElem?_eq_some_iff.1 h2).1
        exact ⟨i, y, h1, by rw [List.getElem?_append_left hi]; exact h2, h3⟩
      · rintro ⟨i, y, h1, h2, h3⟩
        by_cases hi : i < b.length
        · rw [List.getElem?_append_left hi] at h2
          exact ⟨i, y, h1, h2, h3⟩
        · rw [List.getElem?_append_right (by omega)] at h2
          have := (range_at.1 h2).1
          omega
  have hmem : ∀ d ∈ b ++ List.range' a m, d ≤ 4096 := fun d hd => by
    rcases List.mem_append.1 hd with h1 | h1
    · exact hb d h1
    · have := List.mem_range'_1.1 h1
      omega
  have hE : ∀ e ∈ Runs.Eof ⟨(b.length : Int), (a : Int), (m : Int)⟩ l, 0 ≤ e ∧ e ≤ (b.length : Int) + (m : Int) := by
    refine ef_all l _ (fun e he => ?_) (fun q hq => ?_)
    · simp only [List.mem_cons, List.not_mem_nil, or_false] at he
      rcases he with rfl | rfl <;> omega
    · have h1 := h.ed q hq
      have h2 := nf_pos h.nf q hq
      omega
  have hsm : ∀ q ∈ cl, Sm q := fun q hq => by
    obtain ⟨e1, e2⟩ := hp.edges q hq
    have h1 := hE _ e1
    have h2 := hE _ e2
    have h3 := nf_pos hp.nf q hq
    have h4 := Runs.fn_of (Runs.od_of_nf hp.nf) q hq (Int.le_refl _) (by omega)
    obtain ⟨i, y, _, hy, hd⟩ := (hfn _ _).1 h4
    have := hmem y (List.mem_of_getElem? hy)
    exact ⟨by omega, h3, by omega, by omega, by omega⟩
  refine ⟨by rw [Runs.rightB_eq]; exact right_of cl none hp.nf hsm (fun q hq => by cases hq), hp.nf, fun q hq => ?_, hfn⟩
  obtain ⟨e1, e2⟩ := hp.edges q hq
  have h1 := hE _ e1
  have h2 := hE _ e2
  rw [List.length_append, List.length_range']
  omega
theorem fi_find {l : List Runs.R} {b : List Nat} (h : FI l b) {i y : Nat} (hy : b[i]? = some y) : Runs.findE (i : Int) l = ((y : Int), 0) := by
  refine Runs.findE_hit h.ok ?_
  rw [find_fn]
  exact (h.fn _ _).2 ⟨i, y, rfl, hy, rfl⟩

/-! free blocks -/
theorem space_step {S : Nat} {l : List Sp.N} {o : Sp.O} {t : List Sp.O} {a : Sp.An} {as_ : List Sp.An} {L : List Sp.N} (hok : Sp.Ok S 0 l) (hk : o.kind = 1 ∨ o.kind = 2) (hp : Sp.play S (o :: t) l = (a :: as_, L)) :
    (a.err ≠ 0 ∧ Sp.play S t l = (as_, L)) ∨ (a.err = 0 ∧ ∃ (m at_ : Nat) (l' : List Sp.N), o.many = (m : Int) ∧ a.at_ = (at_ : Int) ∧ 1 ≤ m ∧ at_ + m ≤ S ∧ (∀ k, at_ ≤ k → k < at_ + m → Sp.mem l k = true) ∧ Sp.Ok S 0 l' ∧ (∀ k, Sp.mem l' k = (Sp.mem l k && !(Sp.inG ⟨at_, m⟩ k))) ∧ Sp.play S t l' = (as_, L)) := by
  unfold Sp.play at hp
  have h1 := congrArg Prod.fst hp
  have h2 := congrArg Prod.snd hp
  simp only at h1 h2
  obtain ⟨h3, h4⟩ := List.cons.inj h1
  have pl : ∀ q : List Sp.N, (if (Sp.stepL S l o.kind o.at_ o.many).2.1 = 0 then (Sp.stepL S l o.kind o.at_ o.many).1 else l) = q → Sp.play S t q = (as_, L) := fun q hq => by
    rw [hq] at h4 h2
    rw [← h4, ← h2]
  have hk1 : ¬ (o.kind < 1 ∨ 3 < o.kind) := by omega
  have hk3 : ¬ o.kind = 3 := by omega
  unfold Sp.stepL at h3 pl
  rw [if_neg hk1] at h3 pl
  by_cases hb : o.many < 1 ∨ (S : Int) < o.many
  · rw [if_pos hb] at h3 pl
    refine .inl ⟨by rw [← h3]; decide, pl l (if_neg (by decide))⟩
  · rw [if_neg hb, if_neg hk3] at h3 pl
    cases hc : Sp.chAll o.many.toNat (o.kind == 2) l l.length with
    | none =>
      rw [hc] at h3 pl
      exact .inl ⟨by rw [← h3]; show (4 : Int) ≠ 0; decide, pl l (if_neg (show ¬ (4 : Int) = 0 by decide))⟩
    | some p =>
      obtain ⟨i, g⟩ := p
      rw [hc] at h3 pl
      obtain ⟨_, hi, hmg⟩ := Sp.chAll_at hc
      obtain ⟨m, hm⟩ : ∃ m : Nat, o.many = (m : Int) := ⟨o.many.toNat, by omega⟩
      rw [hm, Int.toNat_natCast] at hmg
      have hm1 : 1 ≤ m := by omega
      have hg := Sp.ok_mem hok g (List.mem_of_getElem? hi)
      obtain ⟨t1, t2⟩ := Sp.take_ok hm1 hmg l i 0 hok hi
      refine .inr ⟨by rw [← h3], m, g.a, Sp.takeL l i m, hm, by rw [← h3], hm1, by omega, fun k k1 k2 => ?_, t1, t2, pl _ ?_⟩
      · unfold Sp.mem
        rw [List.any_eq_true]
        exact ⟨g, List.mem_of_getElem? hi, by simp; omega⟩
      · rw [if_pos rfl, hm, Int.toNat_natCast]

/-! files' blocks together -/
def allB (fb : Nat → List Nat) : List Nat := fb 0 ++ (fb 1 ++ (fb 2 ++ fb 3))
def upd (fb : Nat → List Nat) (f : Nat) (xs : List Nat) : Nat → List Nat := fun g => if g = f then fb g ++ xs else fb g
theorem upd_same (fb : Nat → List Nat) (f : Nat) (xs : List Nat) : upd fb f xs f = fb f ++ xs := if_pos rfl
theorem upd_other (fb : Nat → List Nat) {f g : Nat} (xs : List Nat) (h : g ≠ f) : upd fb f xs g = fb g := if_neg h
theorem all_upd (fb : Nat → List Nat) (xs : List Nat) : ∀ f, f < 4 → (allB (upd fb f xs)).Perm (allB fb ++ xs) := by
  intro f hf
  rw [List.perm_iff_count]
  intro x
  have h : f = 0 ∨ f = 1 ∨ f = 2 ∨ f = 3 := by omega
  rcases h with rfl | rfl | rfl | rfl <;> (simp [allB, upd, List.count_append]; try omega)
structure Inv (S : Nat) (l : List Sp.N) (fb : Nat → List Nat) : Prop where
  ok : Sp.Ok S 0 l
  nd : (allB fb).Nodup
  mem : ∀ x, x ∈ allB fb ↔ x < S ∧ Sp.mem l x = false
theorem inv0 {S : Nat} (h : 1 ≤ S) : Inv S (Sp.whole S) (fun _ => []) := by
  refine ⟨Sp.whole_ok S, by simp [allB], fun x => ?_⟩
  unfold Sp.whole
  rw [if_pos (by omega)]
  simp [allB, Sp.mem]
theorem inv_take {S : Nat} {l l' : List Sp.N} {fb : Nat → List Nat} (I : Inv S l fb) {f at_ m : Nat} (hf : f < 4) (hs : at_ + m ≤ S) (hfree : ∀ k, at_ ≤ k → k < at_ + m → Sp.mem l k = true) (ok' : Sp.Ok S 0 l') (hm' : ∀ k, Sp.mem l' k = (Sp.mem l k && !(Sp.inG ⟨at_, m⟩ k))) : Inv S l' (upd fb f (List.range' at_ m)) := by
  have hp := all_upd fb (List.range' at_ m) f hf
  refine ⟨ok', ?_, fun x => ?_⟩
  · rw [hp.nodup_iff]
    refine List.nodup_append.2 ⟨I.nd, List.nodup_range', fun x hx y hy e => ?_⟩
    subst e
    have h1 := (I.mem x).1 hx
    have h2 := List.mem_range'_1.1 hy
    rw [hfree x h2.1 h2.2] at h1
    cases h1.2
  · rw [hp.mem_iff, List.mem_append, I.mem x, hm' x, List.mem_range'_1]
    have hg : Sp.inG ⟨at_, m⟩ x = true ↔ at_ ≤ x ∧ x < at_ + m := by simp [Sp.inG]
    by_cases hx : at_ ≤ x ∧ x < at_ + m
    · rw [hg.2 hx]
      simp
      constructor
      · intro _; omega
      · intro _; exact .inr hx
    · have : Sp.inG ⟨at_, m⟩ x = false := by
        cases h : Sp.inG ⟨at_, m⟩ x with
        | false => rfl
        | true => exact absurd (hg.1 h) hx
      rw [this]
      simp
      intro h1 h2
      exact absurd ⟨h1, h2⟩ hx
theorem nodup_len : ∀ (N : Nat) (l : List Nat), l.Nodup → (∀ x ∈ l, x < N) → l.length ≤ N
  | 0, l, _, h => by
    cases l with
    | nil => exact Nat.le_refl _
    | cons x t => have := h x (by simp); omega
  | N + 1, l, hnd, h => by
    by_cases hN : N ∈ l
    · have h1 := nodup_len N (l.erase N) (hnd.erase N) (fun x hx => by
        have h2 := (hnd.mem_erase_iff).1 hx
        have h3 := h x h2.2
        have h4 := h2.1
        omega)
      rw [List.length_erase_of_mem hN] at h1
      omega
    · have h1 := nodup_len N l hnd (fun x hx => by
        have h3 := h x hx
        have h4 : x ≠ N := fun e => hN (e ▸ hx)
        omega)
      omega
theorem inv_len {S : Nat} {l : List Sp.N} {fb : Nat → List Nat} (I : Inv S l fb) : (allB fb).length ≤ S := nodup_len S _ I.nd (fun x hx => ((I.mem x).1 hx).1)
theorem fb_len (fb : Nat → List Nat) {f : Nat} (hf : f < 4) : (fb f).length ≤ (allB fb).length := by
  have h : f = 0 ∨ f = 1 ∨ f = 2 ∨ f = 3 := by omega
  rcases h with rfl | rfl | rfl | rfl <;> (simp only [allB, List.length_append]; omega)
theorem fb_mem (fb : Nat → List Nat) {f : Nat} (hf : f < 4) {x : Nat} (hx : x ∈ fb f) : x ∈ allB fb := by
  have h : f = 0 ∨ f = 1 ∨ f = 2 ∨ f = 3 := by omega
  rcases h with rfl | rfl | rfl | rfl <;> simp [allB, hx]

/-! nothing is wrong -/
def FA (fb : Nat → List Nat) : List Int := (allB fb).map fun (x : Nat) => (x : Int)
def pm (L : List Sp.N) (x : Int) : Bool := !(Sp.mem L x.toNat)
theorem fa_mem {fb : Nat → List Nat} {x : Int} : x ∈ FA fb ↔ ∃ n : Nat, x = (n : Int) ∧ n ∈ allB fb := by
  unfold FA
  rw [List.mem_map]
  exact ⟨fun ⟨n, h1, h2⟩ => ⟨n, h2.symm, h1⟩, fun ⟨n, h1, h2⟩ => ⟨n, h2, h1.symm⟩⟩
theorem fa_nodup {fb : Nat → List Nat} (h : (allB fb).Nodup) : (FA fb).Nodup := by
  unfold FA
  refine List.pairwise_map.2 (h.imp fun {a b} hab e => hab ?_)
  omega
theorem clean {S : Nat} {L : List Sp.N} {fb : Nat → List Nat} (I : Inv S L fb) {T : List Int} (hT : ∀ x : Int, x ∈ T ↔ x ∈ FA fb) :
    T.filter (Fk.qT S (FA fb)) = [] ∧ (Fk.mk (pm L) S).filter (Fk.pz (FA fb)) = [] ∧ T.filter (Fk.qU S (Fk.mk (pm L) S)) = [] ∧ T.filter (Fk.qN S) = [] := by
  have hin : ∀ x ∈ T, ∃ n : Nat, x = (n : Int) ∧ n < S ∧ Sp.mem L n = false := fun x hx => by
    obtain ⟨n, h1, h2⟩ := fa_mem.1 ((hT x).1 hx)
    exact ⟨n, h1, (I.mem n).1 h2⟩
  refine ⟨?_, ?_, ?_, ?_⟩
  · rw [List.filter_eq_nil_iff]
    intro x hx
    have hc : (FA fb).count x ≤ 1 := List.nodup_iff_count.1 (fa_nodup I.nd) x
    unfold Fk.qT Fk.pT
    simp
    omega
  · rw [List.filter_eq_nil_iff]
    intro x hx
    obtain ⟨⟨h0, h1⟩, h2⟩ := (Fk.mk_mem x).1 hx
    have hm : x ∈ FA fb := fa_mem.2 ⟨x.toNat, by omega, (I.mem _).2 ⟨by omega, by
      unfold pm at h2
      simpa using h2⟩⟩
    have := List.count_pos_iff.2 hm
    unfold Fk.pz
    rw [decide_eq_true_eq]
    omega
  · rw [List.filter_eq_nil_iff]
    intro x hx
    obtain ⟨n, rfl, h1, h2⟩ := hin x hx
    have hm : (n : Int) ∈ Fk.mk (pm L) S := (Fk.mk_mem _).2 ⟨⟨by omega, by omega⟩, by unfold pm; simp [h2]⟩
    unfold Fk.qU
    simp [hm]
  · rw [List.filter_eq_nil_iff]
    intro x hx
    obtain ⟨n, rfl, h1, h2⟩ := hin x hx
    unfold Fk.qN Fk.outB
    simp
    omega
theorem right_f {S : Int} : ∀ (l : List Int) (last : Int), l.Pairwise (· < ·) → (∀ x ∈ l, last < x ∧ x < S) → Fs.rightF S last l = true
  | [], _, _, _ => rfl
  | x :: t, last, hp, h => by
    have hx := h x (by simp)
    have hp' := List.pairwise_cons.1 hp
    have ih := right_f t x hp'.2 (fun y hy => ⟨hp'.1 y hy, (h y (by simp [hy])).2⟩)
    unfold Fs.rightF
    rw [ih]
    simp [hx]
theorem marks_ok (L : List Sp.N) (S : Nat) : Fs.rightF S (-1) (Fk.mk (pm L) S) = true :=
  right_f _ _ (Fk.mk_od _ _) (fun x hx => by
    obtain ⟨⟨h0, h1⟩, _⟩ := (Fk.mk_mem x).1 hx
    omega)
end Sd
end Go.Proofs.YtjopiepfjbnkbaaGreatDoor
/-! Walk of slices.ContainsFunc over gaps: is a block free? Conditions: none beyond each theorem's own premises. -/
namespace Go.Proofs.YtjopiepfjbnkbaaGreatDoor
open Go.RowKit Go.Shelf
set_option linter.unusedVariables false
namespace Sd

set_option maxRecDepth 100000 in
theorem closure_any (x : Sp.N) (b gb : Nat) (w : World) (hg : w.cell? ⟨gb, 0, none⟩ = some (.int .i64 (b : Int))) (hx : x.a + x.m ≤ 4096) :
    Calls Tryz.prog 13 #[.agg #[.int .i64 (x.a : Int), .int .i64 (x.m : Int)], .pointer (some ⟨gb, 0, none⟩)] w (Ret w (.bool (Sp.inG x b))) := by
  have hS := (Sep.nil_ w).new 46 [.int .i64 (x.a : Int), .int .i64 (x.m : Int)]
  have S0 := Lib.hid hS
  have d0 := hS.cell 0 rfl (k := 0) rfl
  have d1 := hS.cell 0 rfl (k := 1) rfl
  have e0 := (hS.below.cell (World.block_lt_of_cell? w _ hg)).trans hg
  obtain ⟨s, hs⟩ : ∃ s, x.a + x.m = s := ⟨_, rfl⟩
  have v1 : (x.a : Int) + (x.m : Int) = (s : Int) := by omega
  have HX : Hid (Sp.inG x b = (decide (x.a ≤ b) && decide (b < s))) := Lib.hid (by unfold Sp.inG; rw [hs])
  have hs4 : s ≤ 4096 := by omega
  clear hS hg hx hs
  by_cases h1 : x.a ≤ b
  · have i1 : (x.a : Int) ≤ (b : Int) := by omega
    by_cases h2 : b < s
    · have i2 : (b : Int) < (s : Int) := by omega
      rw [decide_eq_true h1, decide_eq_true h2] at HX
      clear h1 h2
      go_enter Tryz.func13, Tryz.ntmps13
      go_wp2
      go_ret
      exact Ret.mk (by rw [HX.out]; rfl) S0.out.below
    · have i2 : ¬ (b : Int) < (s : Int) := by omega
      rw [decide_eq_true h1, decide_eq_false h2] at HX
      clear h1 h2
      go_enter Tryz.func13, Tryz.ntmps13
      go_wp2
      go_ret
      exact Ret.mk (by rw [HX.out]; rfl) S0.out.below
  · have i1 : ¬ (x.a : Int) ≤ (b : Int) := by omega
    rw [decide_eq_false h1] at HX
    clear h1
    go_enter Tryz.func13, Tryz.ntmps13
    go_wp2
    go_ret
    exact Ret.mk (by rw [HX.out]; rfl) S0.out.below
theorem mem_take {l : List Sp.N} {k : Nat} {x : Sp.N} (h : l[k]? = some x) (b : Nat) : Sp.mem (l.take (k + 1)) b = (Sp.mem (l.take k) b || Sp.inG x b) := by
  rw [List.take_add_one, h, Sp.mem_append]
  congr 1
  exact Sp.mem_one x b
theorem mem_hit {l : List Sp.N} {k : Nat} {x : Sp.N} {b : Nat} (h : l[k]? = some x) (hx : Sp.inG x b = true) : Sp.mem l b = true := by
  unfold Sp.mem
  rw [List.any_eq_true]
  exact ⟨x, List.mem_of_getElem? h, hx⟩
def fnV (gb : Nat) : Value := .func (.func 13) #[] #[.pointer (some ⟨gb, 0, none⟩)]
set_option maxRecDepth 100000 in
set_option maxHeartbeats 1600000 in
theorem index_any (A : Option Addr) (n c gb b : Nat) (l : List Sp.N) (w : World) (hr : Rd w w.heap.size 2 A n (l.flatMap Sp.ncells)) (hl : l.length = n) (hn : n ≤ 4096) (hg : w.cell? ⟨gb, 0, none⟩ = some (.int .i64 (b : Int))) (hx : ∀ x ∈ l, x.a + x.m ≤ 4096) :
    Calls Tryz.prog 32 #[.slice A n c, .func (.func 13) #[] #[.pointer (some ⟨gb, 0, none⟩)]] w (fun e w' => ∃ v : Int, e = .returned (.int .i64 v) ∧ Below w.heap.size w w' ∧ ((0 ≤ v ∧ Sp.mem l b = true) ∨ (v = -1 ∧ Sp.mem l b = false))) := by
  have HR := Lib.hid hr
  have HL := Lib.hid hl
  have HG := Lib.hid hg
  have HX := Lib.hid hx
  have hgb := World.block_lt_of_cell? w _ hg
  have eg := enters_of Tryz.func13 (by kernel_rfl) rfl
  clear hr hl hg hx
  go_enter Tryz.func32, Tryz.ntmps32
  go_wp2
  go_loopg [8] n (fun q i wr => ∃ (k : Nat), k ≤ n ∧ q = n - k ∧ i = .int .i64 k ∧ Hid (Sp.mem (l.take k) b = false) ∧ Sep w wr [])
  case atStart => exact ⟨0, Nat.zero_le _, rfl, rfl, Lib.hid rfl, Sep.nil_ w⟩
  case round =>
    obtain ⟨k, hk, rfl, rfl, HM, hs⟩ := hrel
    have HS := Lib.hid hs
    clear hs
    by_cases hlt : k < n
    · obtain ⟨b1, off, rfl, hb, hc⟩ := HR.out.at_ Sp.ncells_len (by omega)
      obtain ⟨x, hx⟩ : ∃ x, l[k]? = some x := ⟨_, List.getElem?_eq_getElem (by rw [HL.out]; exact hlt)⟩
      have d0 : wr.cell? ⟨b1, off + k * 2, none⟩ = some (.int .i64 (x.a : Int)) := (HS.out.below.cell (p := ⟨b1, off + k * 2, none⟩) hb).trans (hc k 0 x _ hx rfl)
      have d1 : wr.cell? ⟨b1, off + k * 2 + 1, none⟩ = some (.int .i64 (x.m : Int)) := (HS.out.below.cell (p := ⟨b1, off + k * 2 + 1, none⟩) hb).trans (hc k 1 x _ hx rfl)
      have i0 : (0 : Int) ≤ (k : Int) := by omega
      have i1 : (k : Int) < (n : Int) := by omega
      have HXK := Lib.hid hx
      obtain ⟨bv, hbv⟩ : ∃ bv, Sp.inG x b = bv := ⟨_, rfl⟩
      have cB := Lib.hid (closure_any x b gb wr ((HS.out.below.cell (p := ⟨gb, 0, none⟩) hgb).trans HG.out) (HX.out x (List.mem_of_getElem? hx)))
      rw [hbv] at cB
      have HBV := Lib.hid hbv
      clear hc hx hbv
      cases bv with
      | true =>
        have HF : Hid (Sp.mem l b = true) := Lib.hid (mem_hit HXK.out HBV.out)
        go_wp2_with fail
        refine cB.out.mono ?_; rintro en w1 ⟨rfl, hb1⟩
        have S1 := Lib.hid (HS.out.later hb1)
        clear hb1 cB HS
        go_wp2
        go_ret
        exact ⟨_, rfl, S1.out.below, .inl ⟨by omega, HF.out⟩⟩
      | false =>
        have HM2 : Hid (Sp.mem (l.take (k + 1)) b = false) := Lib.hid (by rw [mem_take HXK.out, HM.out, HBV.out]; rfl)
        go_wp2_with fail
        refine cB.out.mono ?_; rintro en w1 ⟨rfl, hb1⟩
        have S1 := Lib.hid (HS.out.later hb1)
        clear hb1 cB HS
        go_wp2
        go_roundg (n - (k + 1))
        case measure => omega
        case rel => exact ⟨k + 1, by omega, rfl, by go_num, HM2, S1.out⟩
    · have HF : Hid (Sp.mem l b = false) := Lib.hid (by
        have h := HM.out
        rwa [List.take_of_length_le (by rw [HL.out]; omega)] at h)
      go_wp2
      go_ret
      exact ⟨_, rfl, HS.out.below, .inr ⟨rfl, HF.out⟩⟩
set_option maxRecDepth 100000 in
theorem contains_any (A : Option Addr) (n c gb b : Nat) (l : List Sp.N) (w : World) (hr : Rd w w.heap.size 2 A n (l.flatMap Sp.ncells)) (hl : l.length = n) (hn : n ≤ 4096) (hg : w.cell? ⟨gb, 0, none⟩ = some (.int .i64 (b : Int))) (hx : ∀ x ∈ l, x.a + x.m ≤ 4096) :
    Calls Tryz.prog 12 #[.slice A n c, .func (.func 13) #[] #[.pointer (some ⟨gb, 0, none⟩)]] w (Ret w (.bool (Sp.mem l b))) := by
  have cI := Lib.hid (index_any A n c gb b l w hr hl hn hg hx)
  obtain ⟨v, hv⟩ : ∃ v, Sp.mem l b = v := ⟨_, rfl⟩
  rw [hv] at cI ⊢
  clear hr hl hg hx hv
  go_enter Tryz.func12, Tryz.ntmps12
  go_wp2_with fail
  refine cI.out.mono ?_; rintro en w1 ⟨i, rfl, hb1, hcase⟩
  have B1 := Lib.hid hb1
  clear hb1 cI
  rcases hcase with ⟨h1, rfl⟩ | ⟨rfl, rfl⟩
  · go_wp2
    go_ret
    exact Ret.mk rfl B1.out
  · go_wp2
    go_ret
    exact Ret.mk rfl B1.out
end Sd
end Go.Proofs.YtjopiepfjbnkbaaGreatDoor
