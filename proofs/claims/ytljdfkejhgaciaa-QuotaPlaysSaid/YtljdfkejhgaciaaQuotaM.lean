/-
  The plain law of quotas: what one operation does, as a relation that both programs follow.
-/
import Derived.Test.YtljdfkejhgaciaaRows
namespace Go.Proofs.Ytljdfkejhgaciaa
namespace Quota

structure Q where
  (kind user to n : Int)

/-- what an operation does to the rows (limit of user a at 2 a, usage behind it), and its answer -/
inductive Way (l : List Int) : Q → Int → List Int → Prop
  | kindLo {k u t n : Int} (h : k < 1) : Way l ⟨k, u, t, n⟩ 5 l
  | kindHi {k u t n : Int} (h0 : 1 ≤ k) (h : 4 < k) : Way l ⟨k, u, t, n⟩ 5 l
  | userLo {k u t n : Int} (h0 : 1 ≤ k) (h1 : k ≤ 4) (h : u < 0) : Way l ⟨k, u, t, n⟩ 2 l
  | userHi {k u t n : Int} (h0 : 1 ≤ k) (h1 : k ≤ 4) (h2 : 0 ≤ u) (h : 6 ≤ u) : Way l ⟨k, u, t, n⟩ 2 l
  | toLo {u t n : Int} (h2 : 0 ≤ u) (h3 : u < 6) (h : t < 0) : Way l ⟨4, u, t, n⟩ 2 l
  | toHi {u t n : Int} (h2 : 0 ≤ u) (h3 : u < 6) (h4 : 0 ≤ t) (h : 6 ≤ t) : Way l ⟨4, u, t, n⟩ 2 l
  | nLo {k u t n : Int} (h0 : 1 ≤ k) (h1 : k < 4) (h2 : 0 ≤ u) (h3 : u < 6) (h : n < 0) : Way l ⟨k, u, t, n⟩ 2 l
  | nHi {k u t n : Int} (h0 : 1 ≤ k) (h1 : k < 4) (h2 : 0 ≤ u) (h3 : u < 6) (h4 : 0 ≤ n) (h : 1099511627776 < n) : Way l ⟨k, u, t, n⟩ 2 l
  | nLo4 {u t n : Int} (h2 : 0 ≤ u) (h3 : u < 6) (h5 : 0 ≤ t) (h6 : t < 6) (h : n < 0) : Way l ⟨4, u, t, n⟩ 2 l
  | nHi4 {u t n : Int} (h2 : 0 ≤ u) (h3 : u < 6) (h5 : 0 ≤ t) (h6 : t < 6) (h4 : 0 ≤ n) (h : 1099511627776 < n) : Way l ⟨4, u, t, n⟩ 2 l
  | limit {a : Nat} {t n lim : Int} (ha : a < 6) (h4 : 0 ≤ n) (h5 : n ≤ 1099511627776) (hl : l[a * 2]? = some lim) : Way l ⟨1, a, t, n⟩ 0 (l.set (a * 2) n)
  | full {a : Nat} {t n us lim : Int} (ha : a < 6) (h4 : 0 ≤ n) (h5 : n ≤ 1099511627776) (hu : l[a * 2 + 1]? = some us) (hl : l[a * 2]? = some lim) (hu0 : 0 ≤ us) (hu1 : us ≤ 1099511627776) (hl0 : 0 ≤ lim) (hl1 : lim ≤ 1099511627776)
      (h : lim < us + n) (h' : lim - n < us) : Way l ⟨2, a, t, n⟩ 4 l
  | charge {a : Nat} {t n us lim : Int} (ha : a < 6) (h4 : 0 ≤ n) (h5 : n ≤ 1099511627776) (hu : l[a * 2 + 1]? = some us) (hl : l[a * 2]? = some lim) (hu0 : 0 ≤ us) (hu1 : us ≤ 1099511627776) (hl0 : 0 ≤ lim) (hl1 : lim ≤ 1099511627776)
      (h : us + n ≤ lim) (h' : us ≤ lim - n) : Way l ⟨2, a, t, n⟩ 0 (l.set (a * 2 + 1) (us + n))
  | none3 {a : Nat} {t n us : Int} (ha : a < 6) (h4 : 0 ≤ n) (h5 : n ≤ 1099511627776) (hu : l[a * 2 + 1]? = some us) (hu0 : 0 ≤ us) (hu1 : us ≤ 1099511627776) (h : us < n) : Way l ⟨3, a, t, n⟩ 3 l
  | free {a : Nat} {t n us : Int} (ha : a < 6) (h4 : 0 ≤ n) (h5 : n ≤ 1099511627776) (hu : l[a * 2 + 1]? = some us) (hu0 : 0 ≤ us) (hu1 : us ≤ 1099511627776) (h : n ≤ us) : Way l ⟨3, a, t, n⟩ 0 (l.set (a * 2 + 1) (us - n))
  | none4 {a b : Nat} {n us : Int} (ha : a < 6) (hb : b < 6) (h4 : 0 ≤ n) (h5 : n ≤ 1099511627776) (hu : l[a * 2 + 1]? = some us) (hu0 : 0 ≤ us) (hu1 : us ≤ 1099511627776) (h : us < n) : Way l ⟨4, a, b, n⟩ 3 l
  | full4 {a b : Nat} {n us us' lim : Int} (ha : a < 6) (hb : b < 6) (h4 : 0 ≤ n) (h5 : n ≤ 1099511627776) (hu : l[a * 2 + 1]? = some us) (hu0 : 0 ≤ us) (hu1 : us ≤ 1099511627776) (h : n ≤ us) (hne : ((b : Int) == (a : Int)) = false)
      (hu' : l[b * 2 + 1]? = some us') (hl : l[b * 2]? = some lim) (hu0' : 0 ≤ us') (hu1' : us' ≤ 1099511627776) (hl0 : 0 ≤ lim) (hl1 : lim ≤ 1099511627776) (hf : lim < us' + n) (hf' : lim - n < us') : Way l ⟨4, a, b, n⟩ 4 l
  | move {a b : Nat} {n us us' lim : Int} (ha : a < 6) (hb : b < 6) (h4 : 0 ≤ n) (h5 : n ≤ 1099511627776) (hu : l[a * 2 + 1]? = some us) (hu0 : 0 ≤ us) (hu1 : us ≤ 1099511627776) (h : n ≤ us) (hne : ((b : Int) == (a : Int)) = false) (hne' : b ≠ a)
      (hu' : l[b * 2 + 1]? = some us') (hl : l[b * 2]? = some lim) (hu0' : 0 ≤ us') (hu1' : us' ≤ 1099511627776) (hl0 : 0 ≤ lim) (hl1 : lim ≤ 1099511627776) (hf : us' + n ≤ lim) (hf' : us' ≤ lim - n) :
      Way l ⟨4, a, b, n⟩ 0 ((l.set (a * 2 + 1) (us - n)).set (b * 2 + 1) (us' + n))
  | self {a : Nat} {n us : Int} (ha : a < 6) (h4 : 0 ≤ n) (h5 : n ≤ 1099511627776) (hu : l[a * 2 + 1]? = some us) (hu0 : 0 ≤ us) (hu1 : us ≤ 1099511627776) (h : n ≤ us) : Way l ⟨4, a, a, n⟩ 0 ((l.set (a * 2 + 1) (us - n)).set (a * 2 + 1) (us - n + n))

def Ok (l : List Int) : Prop := l.length = 12 ∧ ∀ x ∈ l, 0 ≤ x ∧ x ≤ 1099511627776
theorem Ok.at_ {l : List Int} (h : Ok l) {i : Nat} (hi : i < 12) : ∃ x, l[i]? = some x ∧ 0 ≤ x ∧ x ≤ 1099511627776 := by
  have hl : i < l.length := by rw [h.1]; exact hi
  exact ⟨l[i], List.getElem?_eq_getElem hl, h.2 _ (List.getElem_mem hl)⟩
theorem Ok.set {l : List Int} (h : Ok l) (i : Nat) {x : Int} (h0 : 0 ≤ x) (h1 : x ≤ 1099511627776) : Ok (l.set i x) :=
  ⟨by simp [h.1], fun y hy => by
    rcases List.mem_or_eq_of_mem_set hy with hy | rfl
    · exact h.2 y hy
    · exact ⟨h0, h1⟩⟩

theorem way_ex (l : List Int) (hl : Ok l) (q : Q) : ∃ e l', Way l q e l' ∧ Ok l' := by
  obtain ⟨k, u, t, n⟩ := q
  by_cases h1 : k < 1
  · exact ⟨_, _, .kindLo h1, hl⟩
  by_cases h2 : 4 < k
  · exact ⟨_, _, .kindHi (by omega) h2, hl⟩
  by_cases h3 : u < 0
  · exact ⟨_, _, .userLo (by omega) (by omega) h3, hl⟩
  by_cases h4 : 6 ≤ u
  · exact ⟨_, _, .userHi (by omega) (by omega) (by omega) h4, hl⟩
  obtain ⟨a, rfl⟩ := Int.eq_ofNat_of_zero_le (show 0 ≤ u by omega)
  obtain ⟨us, hu, hu0, hu1⟩ := hl.at_ (show a * 2 + 1 < 12 by omega)
  obtain ⟨lim, hm, hm0, hm1⟩ := hl.at_ (show a * 2 < 12 by omega)
  by_cases hk4 : k = 4
  · subst hk4
    by_cases h5 : t < 0
    · exact ⟨_, _, .toLo (by omega) (by omega) h5, hl⟩
    by_cases h6 : 6 ≤ t
    · exact ⟨_, _, .toHi (by omega) (by omega) (by omega) h6, hl⟩
    by_cases h7 : n < 0
    · exact ⟨_, _, .nLo4 (by omega) (by omega) (by omega) (by omega) h7, hl⟩
    by_cases h8 : 1099511627776 < n
    · exact ⟨_, _, .nHi4 (by omega) (by omega) (by omega) (by omega) (by omega) h8, hl⟩
    obtain ⟨b, rfl⟩ := Int.eq_ofNat_of_zero_le (show 0 ≤ t by omega)
    by_cases h9 : us < n
    · exact ⟨_, _, .none4 (by omega) (by omega) (by omega) (by omega) hu hu0 hu1 h9, hl⟩
    by_cases h10 : b = a
    · subst h10
      exact ⟨_, _, .self (by omega) (by omega) (by omega) hu hu0 hu1 (by omega), (hl.set _ (by omega) (by omega)).set _ (by omega) (by omega)⟩
    obtain ⟨us', hu', hu0', hu1'⟩ := hl.at_ (show b * 2 + 1 < 12 by omega)
    obtain ⟨lim', hm', hm0', hm1'⟩ := hl.at_ (show b * 2 < 12 by omega)
    have hne : ((b : Int) == (a : Int)) = false := by simp; omega
    by_cases h11 : lim' < us' + n
    · exact ⟨_, _, .full4 (by omega) (by omega) (by omega) (by omega) hu hu0 hu1 (by omega) hne hu' hm' hu0' hu1' hm0' hm1' h11 (by omega), hl⟩
    · exact ⟨_, _, .move (by omega) (by omega) (by omega) (by omega) hu hu0 hu1 (by omega) hne h10 hu' hm' hu0' hu1' hm0' hm1' (by omega) (by omega), (hl.set _ (by omega) (by omega)).set _ (by omega) (by omega)⟩
  by_cases h7 : n < 0
  · exact ⟨_, _, .nLo (by omega) (by omega) (by omega) (by omega) h7, hl⟩
  by_cases h8 : 1099511627776 < n
  · exact ⟨_, _, .nHi (by omega) (by omega) (by omega) (by omega) (by omega) h8, hl⟩
  have hk : k = 1 ∨ k = 2 ∨ k = 3 := by omega
  rcases hk with rfl | rfl | rfl
  · exact ⟨_, _, .limit (by omega) (by omega) (by omega) hm, hl.set _ (by omega) (by omega)⟩
  · by_cases h9 : lim < us + n
    · exact ⟨_, _, .full (by omega) (by omega) (by omega) hu hm hu0 hu1 hm0 hm1 h9 (by omega), hl⟩
    · exact ⟨_, _, .charge (by omega) (by omega) (by omega) hu hm hu0 hu1 hm0 hm1 (by omega) (by omega), hl.set _ (by omega) (by omega)⟩
  · by_cases h9 : us < n
    · exact ⟨_, _, .none3 (by omega) (by omega) (by omega) hu hu0 hu1 h9, hl⟩
    · exact ⟨_, _, .free (by omega) (by omega) (by omega) hu hu0 hu1 (by omega), hl.set _ (by omega) (by omega)⟩

/-- all operations, one behind the other -/
inductive Plays : List Int → List Q → List Int → List Int → Prop
  | nil {l : List Int} : Plays l [] [] l
  | cons {l l' lf : List Int} {q : Q} {qs : List Q} {e : Int} {es : List Int} (h : Way l q e l') (hl : l'.length = 12) (hs : Plays l' qs es lf) : Plays l (q :: qs) (e :: es) lf
theorem plays_ex : ∀ (qs : List Q) (l : List Int), Ok l → ∃ es lf, Plays l qs es lf ∧ lf.length = 12 ∧ es.length = qs.length
  | [], l, h => ⟨[], l, .nil, h.1, rfl⟩
  | q :: qs, l, h => by
    obtain ⟨e, l', hw, h'⟩ := way_ex l h q
    obtain ⟨es, lf, hp, hlf, hel⟩ := plays_ex qs l' h'
    exact ⟨e :: es, lf, .cons hw h'.1 hp, hlf, by simp [hel]⟩
end Quota
end Go.Proofs.Ytljdfkejhgaciaa
