/-
  What the row's own reach gives: a slice that was read takes at most so many bytes. Conditions: none beyond the theorem's own premises.
-/
import Derived.Test.YtelgalhkggnkbabFrame
namespace Go.Proofs.Ytelgalhkggnkbab
theorem reach_of {H : Type} {P : Program} {ts : List TypeId} {ds : List (DataW H)} (h : (DataW.weightsEach P ts ds).all (· ≤ reachBytes) = true) {j : Nat} {t e : TypeId} {d : DataW H} {n bytes : Nat} (ht : ts[j]? = some t) (hd : ds[j]? = some d)
    (hu : P.underlying t = some (.slice e)) (hb : P.bytesOf e = bytes) (hx : (d = .nil ∧ n = 0) ∨ ∃ elems sp, d = .slice elems sp ∧ elems.length = n) : n * bytes ≤ 140737488351232 := by
  rcases hx with ⟨_, rfl⟩ | ⟨elems, sp, rfl, rfl⟩
  · omega
  · have h1 := sized_slice h ht hd hu
    rw [hb] at h1
    unfold reachBytes at h1
    have h2 := Nat.mul_le_mul_right bytes (Nat.le_add_right elems.length sp.length)
    omega
end Go.Proofs.Ytelgalhkggnkbab
