/-
  An append onto a row of the call's own where there is room: in place. Conditions: none beyond the theorem's own premises.
-/
import Derived.Test.YtjopiepfjbnkbaaGreatDoorBase
import Derived.ArgAppend
namespace Go.Proofs.YtjopiepfjbnkbaaGreatDoor
open Go.RowKit
set_option linter.unusedVariables false
theorem setCells_is (g : Nat) : ∀ (vs : List Value) (o : Nat) (w : World), w.setCells g o vs = wset w g o vs
  | [], o, w => rfl
  | v :: vs, o, w => setCells_is g vs (o + 1) _
theorem run_append_room_sep {P : Program} {w0 w : World} {L : List It} (H : Sep w0 w L) (i : Nat) (t ty e : TypeId) (ti : TypeInfo) (size : Nat) (ht : P.underlying t = some (.slice e)) (hti : P.info? e = some ti) (hsize : ti.size = size)
    {g n c : Nat} {xs : List Value} (hi : L[i]? = some (.row e size (.slice (some ⟨g, 0, none⟩) n c) n xs)) (B : Nat) (b off m cc : Nat) (news : List Value) (hr : Rd w B size (some ⟨b, off, none⟩) m news) (hm : 0 < m) (h1 : ∀ u ∈ news, u.oneCell' = true) (hroom : n + m ≤ c) :
    ∃ w', (Builtin.append_ #[t, t] ty #[.slice (some ⟨g, 0, none⟩) n c, .slice (some ⟨b, off, none⟩) m cc]).run P w = .ok (.slice (some ⟨g, 0, none⟩) (n + m) c) w' ∧ Sep w0 w' (L.set i (.row e size (.slice (some ⟨g, 0, none⟩) (n + m) c) (n + m) (xs ++ news))) := by
  subst hsize
  obtain ⟨ys, hy, HE⟩ := H.extend i hi hroom
  have hil := (List.getElem?_eq_some_iff.1 hi).1
  have hi2 : (L.set i (.row e ti.size (.slice (some ⟨g, 0, none⟩) (n + m) c) (n + m) (xs ++ ys)))[i]? = some (.row e ti.size (.slice (some ⟨g, 0, none⟩) (n + m) c) (n + m) (xs ++ ys)) := by rw [List.getElem?_set, if_pos rfl, if_pos hil]
  obtain ⟨g', hg', _, hat⟩ := HE.rowAt i hi2 (by omega)
  cases hg'
  have hxl : xs.length = n * ti.size := (H.rowHas i hi).1
  have hnl := hr.1
  have hsp : ∀ j, j < news.length → (w.cell? ⟨g, 0 + n * ti.size + j, none⟩).isSome = true := fun j hj => by
    have hjl : n * ti.size + j < (xs ++ ys).length := by rw [List.length_append, hxl, hy]; omega
    rw [Nat.zero_add, (hat _).1 _ (List.getElem?_eq_getElem hjl)]
    rfl
  have hrun := run_append_room_cells (P := P) w t ty e ti ht hti g 0 n c ⟨b, off, none⟩ m cc news hr.1 (fun j u hu => by
    obtain ⟨b', off', e', _, hc⟩ := hr.2 hm
    cases e'
    rw [← hc j u hu]
    congr 1
    unfold Addr.add
    by_cases hj : j = 0 <;> simp [hj]) h1 hroom hsp (fun j hj => by rw [Nat.zero_add]; exact (hat _).2.1)
  refine ⟨_, hrun, ?_⟩
  rw [Nat.zero_add, setCells_is]
  have hS := HE.wset news i (n * ti.size) hi2 (by omega)
  have hw := setMany_whole news ys xs [] (by rw [hy, hnl])
  rw [List.append_nil, List.append_nil, hxl] at hw
  rw [hw, List.set_set] at hS
  exact hS
end Go.Proofs.YtjopiepfjbnkbaaGreatDoor
