/-
  The plain law of the reference's page cache: by the times of the last uses; writing back in the order of the numbers. Conditions: none beyond each theorem's own premises.
-/
import Derived.Test.YtfljbiobiobamaaCaR
namespace Go.Proofs.Ytfljbiobiobamaa
set_option linter.unusedVariables false
namespace Ca
def fS (k : Nat) (L : List Pg) (st : List Int) : List Int := L.foldl (fun s p => if p.n < k then put1 p s else s) st
def fN (k : Nat) (L : List Pg) : Nat := (L.map fun p => if p.n < k then cnt1 p else 0).sum
def fcl (k : Nat) (p : Pg) : Pg := if p.n < k then p.clean else p
theorem fS_cons (k : Nat) (p : Pg) (L : List Pg) (st : List Int) : fS k (p :: L) st = fS k L (if p.n < k then put1 p st else st) := rfl
theorem fN_cons (k : Nat) (p : Pg) (L : List Pg) : fN k (p :: L) = (if p.n < k then cnt1 p else 0) + fN k L := by simp [fN]
theorem fS_zero : ∀ (L : List Pg) (st : List Int), fS 0 L st = st
  | [], st => rfl
  | p :: t, st => by rw [fS_cons, if_neg (Nat.not_lt_zero _), fS_zero t]
theorem fN_zero : ∀ (L : List Pg), fN 0 L = 0
  | [] => rfl
  | p :: t => by rw [fN_cons, if_neg (Nat.not_lt_zero _), fN_zero t]
theorem fS_all : ∀ {k : Nat} (L : List Pg) (st : List Int), (∀ p ∈ L, p.n < k) → fS k L st = flushS L st
  | _, [], st, _ => rfl
  | k, p :: t, st, h => by rw [fS_cons, if_pos (h p (by simp)), fS_all t _ (fun q hq => h q (by simp [hq]))]; rfl
theorem fN_all : ∀ {k : Nat} (L : List Pg), (∀ p ∈ L, p.n < k) → fN k L = flushN L
  | _, [], _ => rfl
  | k, p :: t, h => by rw [fN_cons, if_pos (h p (by simp)), fN_all t (fun q hq => h q (by simp [hq]))]; simp [flushN]
theorem fS_len (k : Nat) : ∀ (L : List Pg) (st : List Int), (fS k L st).length = st.length
  | [], st => rfl
  | p :: t, st => by
    rw [fS_cons, fS_len k t]
    split
    · exact put1_len _ _
    · rfl
theorem fN_le (k : Nat) : ∀ (L : List Pg), fN k L ≤ L.length
  | [] => Nat.zero_le _
  | p :: t => by
    have := fN_le k t
    have h1 : cnt1 p ≤ 1 := by unfold cnt1; split <;> simp
    rw [fN_cons, List.length_cons]
    split <;> omega
theorem put1_comm {p : Pg} {k : Nat} {d : Int} {st : List Int} (h : p.n ≠ k) : put1 p (st.set k d) = (put1 p st).set k d := by
  unfold put1
  split
  · exact List.set_comm _ _ (fun e => h e.symm)
  · rfl
theorem fS_comm {m k : Nat} {d : Int} : ∀ (L : List Pg) (st : List Int), (∀ p ∈ L, p.n ≠ k) → fS m L (st.set k d) = (fS m L st).set k d
  | [], st, _ => rfl
  | p :: t, st, h => by
    rw [fS_cons, fS_cons]
    split
    · rw [put1_comm (h p (by simp))]
      exact fS_comm t _ (fun q hq => h q (by simp [hq]))
    · exact fS_comm t _ (fun q hq => h q (by simp [hq]))
/-- no written page of number k: nothing is done -/
theorem fS_no {k : Nat} : ∀ (L : List Pg) (st : List Int), (∀ p ∈ L, p.n = k → p.w = false) → fS (k + 1) L st = fS k L st
  | [], st, _ => rfl
  | p :: t, st, h => by
    rw [fS_cons, fS_cons, fS_no t _ (fun q hq => h q (by simp [hq]))]
    by_cases hk : p.n = k
    · rw [if_pos (by omega), if_neg (by omega)]
      unfold put1
      rw [h p (by simp) hk]
      rfl
    · by_cases h2 : p.n < k
      · rw [if_pos (by omega), if_pos h2]
      · rw [if_neg (by omega), if_neg h2]
theorem fN_no {k : Nat} : ∀ (L : List Pg), (∀ p ∈ L, p.n = k → p.w = false) → fN (k + 1) L = fN k L
  | [], _ => rfl
  | p :: t, h => by
    rw [fN_cons, fN_cons, fN_no t (fun q hq => h q (by simp [hq]))]
    by_cases hk : p.n = k
    · rw [if_pos (by omega), if_neg (by omega)]
      unfold cnt1
      rw [h p (by simp) hk]
      rfl
    · by_cases h2 : p.n < k
      · rw [if_pos (by omega), if_pos h2]
      · rw [if_neg (by omega), if_neg h2]
theorem fcl_no {k : Nat} {L : List Pg} (h : ∀ p ∈ L, p.n = k → p.w = false) : L.map (fcl (k + 1)) = L.map (fcl k) := by
  refine List.map_congr_left fun p hp => ?_
  unfold fcl
  by_cases hk : p.n = k
  · rw [if_pos (by omega), if_neg (by omega)]
    have := h p hp hk
    obtain ⟨n, d, w⟩ := p
    simp only at this
    subst this
    rfl
  · by_cases h2 : p.n < k
    · rw [if_pos (by omega), if_pos h2]
    · rw [if_neg (by omega), if_neg h2]
/-- the written page of number k -/
theorem fS_yes {k : Nat} {p : Pg} : ∀ (L : List Pg) (st : List Int), (L.map Pg.n).Nodup → p ∈ L → p.n = k → p.w = true → fS (k + 1) L st = (fS k L st).set k p.d
  | [], st, _, h, _, _ => by cases h
  | q :: t, st, hnd, hp, hk, hw => by
    rw [List.map_cons, List.nodup_cons] at hnd
    rw [fS_cons, fS_cons]
    rcases List.mem_cons.1 hp with rfl | hp
    · have ht : ∀ x ∈ t, x.n ≠ k := fun x hx e => hnd.1 (List.mem_map.2 ⟨x, hx, by rw [e, hk]⟩)
      rw [if_pos (by omega), if_neg (by omega), fS_no t _ (fun x hx e => absurd e (ht x hx))]
      have : put1 p st = st.set k p.d := by unfold put1; rw [if_pos hw, hk]
      rw [this]
      exact fS_comm t st ht
    · have hq : q.n ≠ k := fun e => hnd.1 (List.mem_map.2 ⟨p, hp, by rw [e, hk]⟩)
      rw [fS_yes t _ hnd.2 hp hk hw]
      by_cases h2 : q.n < k
      · rw [if_pos (by omega), if_pos h2]
      · rw [if_neg (by omega), if_neg h2]
theorem fN_yes {k : Nat} {p : Pg} : ∀ (L : List Pg), (L.map Pg.n).Nodup → p ∈ L → p.n = k → p.w = true → fN (k + 1) L = fN k L + 1
  | [], _, h, _, _ => by cases h
  | q :: t, hnd, hp, hk, hw => by
    rw [List.map_cons, List.nodup_cons] at hnd
    rw [fN_cons, fN_cons]
    rcases List.mem_cons.1 hp with rfl | hp
    · have ht : ∀ x ∈ t, x.n ≠ k := fun x hx e => hnd.1 (List.mem_map.2 ⟨x, hx, by rw [e, hk]⟩)
      rw [if_pos (by omega), if_neg (by omega), fN_no t (fun x hx e => absurd e (ht x hx))]
      have : cnt1 p = 1 := by unfold cnt1; rw [if_pos hw]
      omega
    · have hq : q.n ≠ k := fun e => hnd.1 (List.mem_map.2 ⟨p, hp, by rw [e, hk]⟩)
      rw [fN_yes t hnd.2 hp hk hw]
      by_cases h2 : q.n < k
      · rw [if_pos (by omega), if_pos h2]; omega
      · rw [if_neg (by omega), if_neg h2]; omega

/-- what the three maps tell -/
structure RT (L : List Pg) (now : Nat) (u dt : Int → Option Int) (dy : Int → Option Bool) : Prop where
  dom : ∀ x : Int, (u x).isSome = true ↔ ∃ p ∈ L, x = (p.n : Int)
  ord : L.Pairwise fun p q => ∃ t1 t2 : Int, u (p.n : Int) = some t1 ∧ u (q.n : Int) = some t2 ∧ t1 < t2
  bnd : ∀ x t, u x = some t → 0 ≤ t ∧ t < (now : Int)
  dat : ∀ p ∈ L, dt (p.n : Int) = some p.d
  dir : ∀ x : Int, dy x = some true ↔ ∃ p ∈ L, x = (p.n : Int) ∧ p.w = true
/-- the same, page n aside -/
structure RW (n : Nat) (l : List Pg) (now : Nat) (u dt : Int → Option Int) (dy : Int → Option Bool) : Prop where
  nn : ∀ q ∈ l, q.n ≠ n
  dom : ∀ x : Int, x ≠ (n : Int) → ((u x).isSome = true ↔ ∃ p ∈ l, x = (p.n : Int))
  ord : l.Pairwise fun p q => ∃ t1 t2 : Int, u (p.n : Int) = some t1 ∧ u (q.n : Int) = some t2 ∧ t1 < t2
  bnd : ∀ x t, u x = some t → 0 ≤ t ∧ t < (now : Int)
  dat : ∀ p ∈ l, dt (p.n : Int) = some p.d
  dir : ∀ x : Int, x ≠ (n : Int) → (dy x = some true ↔ ∃ p ∈ l, x = (p.n : Int) ∧ p.w = true)
theorem RT.tick {L : List Pg} {now : Nat} {u dt : Int → Option Int} {dy : Int → Option Bool} (R : RT L now u dt dy) : RT L (now + 1) u dt dy :=
  ⟨R.dom, R.ord, fun x t h => by have := R.bnd x t h; omega, R.dat, R.dir⟩
theorem rt0 : RT [] 0 mno mno mno := ⟨by simp [mno], List.Pairwise.nil, by simp [mno], by simp, by simp [mno]⟩
theorem RT.mapf {L : List Pg} {now : Nat} {u dt : Int → Option Int} {dy dy' : Int → Option Bool} (R : RT L now u dt dy) (f : Pg → Pg) (hn : ∀ p, (f p).n = p.n) (hd : ∀ p, (f p).d = p.d) (hdir : ∀ x : Int, dy' x = some true ↔ ∃ p ∈ L.map f, x = (p.n : Int) ∧ p.w = true) : RT (L.map f) now u dt dy' := by
  refine ⟨fun x => ?_, ?_, R.bnd, fun p hp => ?_, hdir⟩
  · rw [R.dom]
    constructor
    · rintro ⟨p, hp, e⟩
      exact ⟨f p, List.mem_map_of_mem hp, by rw [hn, e]⟩
    · rintro ⟨q, hq, e⟩
      obtain ⟨p, hp, rfl⟩ := List.mem_map.1 hq
      exact ⟨p, hp, by rw [e, hn]⟩
  · rw [List.pairwise_map]
    simp only [hn]
    exact R.ord
  · obtain ⟨q, hq, rfl⟩ := List.mem_map.1 hp
    rw [hn, hd]
    exact R.dat q hq
theorem RT.out {L : List Pg} {now n : Nat} {u dt : Int → Option Int} {dy : Int → Option Bool} (R : RT L now u dt dy) (ho : ∀ q ∈ L, q.n ≠ n) : RW n L now u dt dy :=
  ⟨ho, fun x _ => R.dom x, R.ord, R.bnd, R.dat, fun x _ => R.dir x⟩
theorem RT.hit {L : List Pg} {now i : Nat} {p : Pg} {u dt : Int → Option Int} {dy : Int → Option Bool} (R : RT L now u dt dy) (hi : L[i]? = some p) (hnd : (L.map Pg.n).Nodup) : RW p.n (L.eraseIdx i) now u dt dy := by
  have h2 := (erase_nd hnd hi).2
  have back : ∀ q ∈ L, q.n ≠ p.n → q ∈ L.eraseIdx i := fun q hq hne => by
    obtain ⟨j, hj⟩ := List.getElem?_of_mem hq
    rw [List.mem_eraseIdx_iff_getElem?]
    refine ⟨j, fun e => ?_, hj⟩
    subst e
    rw [hi] at hj
    cases hj
    exact hne rfl
  have sub := List.eraseIdx_sublist L i
  refine ⟨fun q hq e => h2 (List.mem_map.2 ⟨q, hq, e⟩), fun x hx => ?_, R.ord.sublist sub, R.bnd, fun q hq => R.dat q (sub.subset hq), fun x hx => ?_⟩
  · rw [R.dom]
    exact ⟨fun ⟨q, hq, e⟩ => ⟨q, back q hq (fun e2 => hx (by rw [e, e2])), e⟩, fun ⟨q, hq, e⟩ => ⟨q, sub.subset hq, e⟩⟩
  · rw [R.dir]
    exact ⟨fun ⟨q, hq, e, hw⟩ => ⟨q, back q hq (fun e2 => hx (by rw [e, e2])), e, hw⟩, fun ⟨q, hq, e, hw⟩ => ⟨q, sub.subset hq, e, hw⟩⟩
/-- the oldest is gone -/
theorem RT.full {q : Pg} {t : List Pg} {now n : Nat} {u dt : Int → Option Int} {dy dy' : Int → Option Bool} (R : RT (q :: t) now u dt dy) (hnd : ((q :: t).map Pg.n).Nodup) (ho : ∀ x ∈ q :: t, x.n ≠ n) (hy : ∀ x : Int, x ≠ (q.n : Int) → dy' x = dy x) (hyq : dy' (q.n : Int) ≠ some true) : RW n t now (mdel u (q.n : Int)) dt dy' := by
  rw [List.map_cons, List.nodup_cons] at hnd
  have hne : ∀ x ∈ t, (x.n : Int) ≠ (q.n : Int) := fun x hx e => hnd.1 (List.mem_map.2 ⟨x, hx, by omega⟩)
  refine ⟨fun x hx => ho x (by simp [hx]), fun x hx => ?_, ?_, fun x t' h => ?_, fun p hp => R.dat p (by simp [hp]), fun x hx => ?_⟩
  · by_cases hq : x = (q.n : Int)
    · subst hq
      rw [mdel_same]
      exact ⟨fun h => by simp at h, fun ⟨p, hp, e⟩ => absurd e.symm (hne p hp)⟩
    · rw [mdel_other _ hq, R.dom]
      exact ⟨fun ⟨p, hp, e⟩ => by
        rcases List.mem_cons.1 hp with rfl | hp
        · exact absurd e hq
        · exact ⟨p, hp, e⟩, fun ⟨p, hp, e⟩ => ⟨p, by simp [hp], e⟩⟩
  · refine (List.pairwise_cons.1 R.ord).2.imp_of_mem fun {a b} ha hb hab => ?_
    rw [mdel_other _ (hne a ha), mdel_other _ (hne b hb)]
    exact hab
  · by_cases hq : x = (q.n : Int)
    · subst hq
      rw [mdel_same] at h
      cases h
    · rw [mdel_other _ hq] at h
      exact R.bnd x t' h
  · by_cases hq : x = (q.n : Int)
    · subst hq
      exact ⟨fun h => absurd h hyq, fun ⟨p, hp, e, _⟩ => absurd e.symm (hne p hp)⟩
    · rw [hy x hq, R.dir]
      exact ⟨fun ⟨p, hp, e, hw⟩ => by
        rcases List.mem_cons.1 hp with rfl | hp
        · exact absurd e hq
        · exact ⟨p, hp, e, hw⟩, fun ⟨p, hp, e, hw⟩ => ⟨p, by simp [hp], e, hw⟩⟩
/-- a page is used -/
theorem RW.push {n now : Nat} {l : List Pg} {p : Pg} {u dt dt' : Int → Option Int} {dy dy' : Int → Option Bool} (R : RW n l now u dt dy) (hp : p.n = n) (hd : ∀ x : Int, x ≠ (n : Int) → dt' x = dt x) (hdn : dt' (n : Int) = some p.d) (hy : ∀ x : Int, x ≠ (n : Int) → dy' x = dy x) (hyn : dy' (n : Int) = some true ↔ p.w = true) :
    RT (l ++ [p]) (now + 1) (mup u (n : Int) (now : Int)) dt' dy' := by
  have hne : ∀ x ∈ l, (x.n : Int) ≠ (n : Int) := fun x hx e => R.nn x hx (by omega)
  refine ⟨fun x => ?_, ?_, fun x t h => ?_, fun q hq => ?_, fun x => ?_⟩
  · by_cases hx : x = (n : Int)
    · subst hx
      rw [mup_same]
      exact ⟨fun _ => ⟨p, by simp, by rw [hp]⟩, fun _ => rfl⟩
    · rw [mup_other _ _ hx, R.dom x hx]
      exact ⟨fun ⟨q, hq, e⟩ => ⟨q, by simp [hq], e⟩, fun ⟨q, hq, e⟩ => by
        rcases List.mem_append.1 hq with h | h
        · exact ⟨q, h, e⟩
        · simp only [List.mem_singleton] at h
          subst h
          exact absurd (by rw [e, hp]) hx⟩
  · refine List.pairwise_append.2 ⟨?_, List.pairwise_singleton _ _, fun a ha b hb => ?_⟩
    · refine R.ord.imp_of_mem fun {a b} ha hb hab => ?_
      rw [mup_other _ _ (hne a ha), mup_other _ _ (hne b hb)]
      exact hab
    · simp only [List.mem_singleton] at hb
      subst hb
      obtain ⟨t, ht⟩ := Option.isSome_iff_exists.1 ((R.dom _ (hne a ha)).2 ⟨a, ha, rfl⟩)
      rw [mup_other _ _ (hne a ha), hp, mup_same]
      exact ⟨t, now, ht, rfl, (R.bnd _ _ ht).2⟩
  · by_cases hx : x = (n : Int)
    · subst hx
      rw [mup_same] at h
      cases h
      omega
    · rw [mup_other _ _ hx] at h
      have := R.bnd x t h
      omega
  · rcases List.mem_append.1 hq with h | h
    · rw [hd _ (hne q h)]
      exact R.dat q h
    · simp only [List.mem_singleton] at h
      subst h
      rw [hp]
      exact hdn
  · by_cases hx : x = (n : Int)
    · subst hx
      rw [hyn]
      exact ⟨fun hw => ⟨p, by simp, by rw [hp], hw⟩, fun ⟨q, hq, e, hw⟩ => by
        rcases List.mem_append.1 hq with h | h
        · exact absurd e.symm (hne q h)
        · simp only [List.mem_singleton] at h
          subst h
          exact hw⟩
    · rw [hy x hx, R.dir x hx]
      exact ⟨fun ⟨q, hq, e, hw⟩ => ⟨q, by simp [hq], e, hw⟩, fun ⟨q, hq, e, hw⟩ => by
        rcases List.mem_append.1 hq with h | h
        · exact ⟨q, h, e, hw⟩
        · simp only [List.mem_singleton] at h
          subst h
          exact absurd (by rw [e, hp]) hx⟩
end Ca
end Go.Proofs.Ytfljbiobiobamaa
