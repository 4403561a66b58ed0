/-
  The plain law of runs with the blocks of one more: sorted and joined. Conditions: none beyond each theorem's own premises.
-/
import Derived.Test.YtfljbiobiobamaaRcC
namespace Go.Proofs.Ytfljbiobiobamaa
set_option linter.unusedVariables false
namespace Runs

def putL (r : R) (l : List R) : List R := cutL r.at_ (r.at_ + r.many) l ++ [r]
theorem cut_sides {s e : Int} {l : List R} {q : R} (h : q ∈ cutL s e l) : 1 ≤ q.many ∧ (q.at_ + q.many ≤ s ∨ e ≤ q.at_) := by
  unfold cutL at h
  obtain ⟨r, hr, h⟩ := List.mem_flatMap.1 h
  rcases List.mem_append.1 h with h | h
  · unfold lo1 at h
    split at h
    · simp only [List.mem_singleton] at h
      subst h
      exact ⟨by simp only; omega, .inl (by simp only; omega)⟩
    · cases h
  · unfold hi1 at h
    split at h
    · simp only [List.mem_singleton] at h
      subst h
      exact ⟨by simp only; omega, .inr (by simp only; omega)⟩
    · cases h
theorem od_pair : ∀ {l : List R} {p : Option R}, Od p l → l.Pairwise (fun a b => a.at_ + a.many ≤ b.at_)
  | [], _, _ => .nil
  | r :: t, p, h => by
    obtain ⟨_, _, h3⟩ := h
    exact List.pairwise_cons.2 ⟨fun b hb => od_mem h3 b hb, od_pair h3⟩
theorem od_of_pair : ∀ {l : List R} {p : Option R}, (∀ r ∈ l, 1 ≤ r.many) → (∀ q, p = some q → ∀ r ∈ l, q.at_ + q.many ≤ r.at_) → l.Pairwise (fun a b => a.at_ + a.many ≤ b.at_) → Od p l
  | [], _, _, _, _ => trivial
  | r :: t, p, h1, h2, h3 => by
    rw [List.pairwise_cons] at h3
    exact ⟨h1 r (by simp), fun q e => h2 q e r (by simp), od_of_pair (fun x hx => h1 x (by simp [hx])) (fun q e x hx => by cases e; exact h3.1 x hx) h3.2⟩
def Apart (a b : R) : Prop := a.at_ + a.many ≤ b.at_ ∨ b.at_ + b.many ≤ a.at_
theorem put_many {r : R} {l S : List R} (hm : 1 ≤ r.many) (hp : S.Perm (putL r l)) : ∀ q ∈ S, 1 ≤ q.many := fun q hq => by
  have := hp.mem_iff.1 hq
  unfold putL at this
  rcases List.mem_append.1 this with h | h
  · exact (cut_sides h).1
  · simp only [List.mem_singleton] at h
    subst h
    exact hm
theorem put_od {r : R} {l S : List R} (hnf : NF none l) (hm : 1 ≤ r.many) (hp : S.Perm (putL r l)) (hs : S.Pairwise (fun a b => ¬ b.at_ < a.at_)) : Od none S := by
  have h1 : (putL r l).Pairwise Apart := by
    unfold putL
    refine List.pairwise_append.2 ⟨(od_pair (od_of_nf (nf_cut (show r.at_ < r.at_ + r.many by omega) l none none hnf (by simp)))).imp fun h => .inl h, List.pairwise_singleton _ _, fun a ha b hb => ?_⟩
    simp only [List.mem_singleton] at hb
    subst hb
    rcases (cut_sides ha).2 with h | h
    · exact .inl h
    · exact .inr h
  have h2 : S.Pairwise Apart := (hp.pairwise_iff (fun {a b} h => h.elim .inr .inl)).2 h1
  have h3 := put_many hm hp
  refine od_of_pair h3 (fun q e => by cases e) ?_
  refine (h2.and hs).imp_of_mem fun {a b} ha hb hab => ?_
  rcases hab.1 with h | h
  · exact h
  · have := h3 b hb
    have := hab.2
    omega
theorem put_fn {r : R} {l S : List R} {x d : Int} (hnf : NF none l) (hsm : ∀ q ∈ l, Small q) (hm : 1 ≤ r.many) (hr0 : 0 ≤ r.disk) (hp : S.Perm (putL r l)) (hod : Od none S) : fn x (join S) = some d ↔ (dkf true r l x = d ∧ 0 ≤ d) := by
  rw [fn_join x _ S none rfl hod]
  by_cases hx : r.at_ ≤ x ∧ x < r.at_ + r.many
  · have hrS : r ∈ S := hp.mem_iff.2 (by unfold putL; simp)
    rw [fn_of hod r hrS hx.1 hx.2]
    unfold dkf
    rw [if_pos hx, if_pos rfl]
    constructor
    · intro h
      have := Option.some.inj h
      omega
    · rintro ⟨h, _⟩
      rw [← h]
      congr 1
      omega
  · have hco : Od none (cutL r.at_ (r.at_ + r.many) l) := od_of_nf (nf_cut (show r.at_ < r.at_ + r.many by omega) l none none hnf (by simp))
    have he : fn x S = some d ↔ fn x (cutL r.at_ (r.at_ + r.many) l) = some d := by
      constructor
      · intro h
        obtain ⟨q, hq, h1, h2, rfl⟩ := fn_mem h
        have := hp.mem_iff.1 hq
        unfold putL at this
        rcases List.mem_append.1 this with h3 | h3
        · exact fn_of hco q h3 h1 h2
        · simp only [List.mem_singleton] at h3
          subst h3
          exact absurd ⟨h1, h2⟩ hx
      · intro h
        obtain ⟨q, hq, h1, h2, rfl⟩ := fn_mem h
        exact fn_of hod q (hp.mem_iff.2 (by unfold putL; simp [hq])) h1 h2
    rw [he]
    have hc := cut_fn (s := r.at_) (m := r.many) (x := x) (d := d) hm hsm
    rw [hc]
    unfold dkf
    simp only
    rw [if_neg hx, if_neg hx]
theorem join_edges : ∀ (n : Nat) (L : List R), L.length = n → ∀ q ∈ join L, (∃ a ∈ L, q.at_ = a.at_) ∧ (∃ b ∈ L, q.at_ + q.many = b.at_ + b.many)
  | _, [], _, q, hq => by rw [join] at hq; cases hq
  | _, [a], _, q, hq => by
    rw [join] at hq
    simp only [List.mem_singleton] at hq
    subst hq
    exact ⟨⟨q, by simp, rfl⟩, ⟨q, by simp, rfl⟩⟩
  | 0, _ :: _ :: _, h, _, _ => by simp at h
  | n + 1, a :: b :: t, hl, q, hq => by
    rw [join] at hq
    split at hq
    case isTrue hc =>
      obtain ⟨⟨x, hx, e1⟩, ⟨y, hy, e2⟩⟩ := join_edges n (⟨a.at_, a.disk, a.many + b.many⟩ :: t) (by simpa using hl) q hq
      constructor
      · rcases List.mem_cons.1 hx with rfl | hx
        · exact ⟨a, by simp, e1⟩
        · exact ⟨x, by simp [hx], e1⟩
      · rcases List.mem_cons.1 hy with rfl | hy
        · exact ⟨b, by simp, by simp only at e2; omega⟩
        · exact ⟨y, by simp [hy], e2⟩
    case isFalse hc =>
      rcases List.mem_cons.1 hq with rfl | hq
      · exact ⟨⟨q, by simp, rfl⟩, ⟨q, by simp, rfl⟩⟩
      · obtain ⟨⟨x, hx, e1⟩, ⟨y, hy, e2⟩⟩ := join_edges n (b :: t) (by simpa using hl) q hq
        exact ⟨⟨x, by simp [hx], e1⟩, ⟨y, by simp [hy], e2⟩⟩
theorem join_len : ∀ (n : Nat) (L : List R), L.length = n → (join L).length ≤ n
  | _, [], _ => by rw [join]; simp
  | _, [a], h => by rw [join]; simp at h ⊢; omega
  | 0, _ :: _ :: _, h => by simp at h
  | n + 1, a :: b :: t, hl => by
    rw [join]
    split
    · have := join_len n (⟨a.at_, a.disk, a.many + b.many⟩ :: t) (by simpa using hl)
      omega
    · have := join_len n (b :: t) (by simpa using hl)
      simp only [List.length_cons]
      omega
theorem put_edges {r : R} {l S : List R} (hm : 1 ≤ r.many) (hp : S.Perm (putL r l)) {q : R} (hq : q ∈ join S) : q.at_ ∈ Eof r l ∧ q.at_ + q.many ∈ Eof r l := by
  have hmem : ∀ x ∈ S, x.at_ ∈ Eof r l ∧ x.at_ + x.many ∈ Eof r l := fun x hx => by
    have := hp.mem_iff.1 hx
    unfold putL at this
    rcases List.mem_append.1 this with h | h
    · exact cut_edges hm h r.disk
    · simp only [List.mem_singleton] at h
      subst h
      rw [mem_Eof, mem_Eof]
      exact ⟨.inl (.inr rfl), .inl (.inl rfl)⟩
  obtain ⟨⟨a, ha, e1⟩, ⟨b, hb, e2⟩⟩ := join_edges _ S rfl q hq
  exact ⟨by rw [e1]; exact (hmem a ha).1, by rw [e2]; exact (hmem b hb).2⟩
/-- how far a run may reach -/
def Bn (q : R) : Prop := 0 ≤ q.at_ ∧ 1 ≤ q.many ∧ q.at_ + q.many ≤ 4398046511104 ∧ 0 ≤ q.disk ∧ q.disk ≤ 4398046511104
theorem cut_bn {s e : Int} {l : List R} {q : R} (hsm : ∀ q ∈ l, Small q) (h : q ∈ cutL s e l) : Bn q := by
  unfold cutL at h
  obtain ⟨r, hr, h⟩ := List.mem_flatMap.1 h
  have h1 := hsm r hr
  unfold Small at h1
  rcases List.mem_append.1 h with h | h
  · unfold lo1 at h
    split at h
    · simp only [List.mem_singleton] at h
      subst h
      refine ⟨?_, ?_, ?_, ?_, ?_⟩ <;> (simp only; omega)
    · cases h
  · unfold hi1 at h
    split at h
    · simp only [List.mem_singleton] at h
      subst h
      refine ⟨?_, ?_, ?_, ?_, ?_⟩ <;> (simp only; omega)
    · cases h
theorem put_bn {r : R} {l S : List R} (hsm : ∀ q ∈ l, Small q) (hr : Small r) (hp : S.Perm (putL r l)) : ∀ q ∈ S, Bn q := fun q hq => by
  have := hp.mem_iff.1 hq
  unfold putL at this
  rcases List.mem_append.1 this with h | h
  · exact cut_bn hsm h
  · simp only [List.mem_singleton] at h
    subst h
    unfold Small at hr
    refine ⟨?_, ?_, ?_, ?_, ?_⟩ <;> omega

/-- where the joining stands: out, rest, all -/
def Jo (cl out rest : List R) : Prop := (out = [] ∧ cl = join rest) ∨ ∃ pre a, out = pre ++ [a] ∧ cl = pre ++ join (a :: rest)
theorem jo_first {cl rest : List R} {x : R} (h : Jo cl [] (x :: rest)) : Jo cl [x] rest := by
  rcases h with ⟨_, h⟩ | ⟨pre, a, h, _⟩
  · exact .inr ⟨[], x, rfl, h⟩
  · simp at h
theorem jo_go {cl pre rest : List R} {a x : R} (h : Jo cl (pre ++ [a]) (x :: rest)) (hc : ¬ (a.at_ + a.many = x.at_ ∧ a.disk + a.many = x.disk)) : Jo cl (pre ++ [a] ++ [x]) rest := by
  rcases h with ⟨h, _⟩ | ⟨pre', a', h, e⟩
  · simp at h
  · obtain ⟨rfl, h2⟩ := List.append_inj' h rfl
    cases h2
    refine .inr ⟨pre ++ [a], x, rfl, ?_⟩
    rw [e, join, if_neg hc]
    simp
theorem jo_join {cl pre rest : List R} {a x : R} (h : Jo cl (pre ++ [a]) (x :: rest)) (hc : a.at_ + a.many = x.at_ ∧ a.disk + a.many = x.disk) : Jo cl (pre ++ [⟨a.at_, a.disk, a.many + x.many⟩]) rest := by
  rcases h with ⟨h, _⟩ | ⟨pre', a', h, e⟩
  · simp at h
  · obtain ⟨rfl, h2⟩ := List.append_inj' h rfl
    cases h2
    refine .inr ⟨pre, _, rfl, ?_⟩
    rw [e, join, if_pos hc]
theorem jo_end {cl out : List R} (h : Jo cl out []) : out = cl := by
  rcases h with ⟨rfl, e⟩ | ⟨pre, a, rfl, e⟩
  · rw [e, join]
  · rw [e, join]
end Runs
end Go.Proofs.Ytfljbiobiobamaa
