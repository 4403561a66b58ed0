/-
  The builtin clear at a part of a page; walk of file.cut. Conditions: none beyond each theorem's own premises.
-/
import Derived.Test.YtfljbiobiobamaaFlW4
namespace Go.Proofs.Ytfljbiobiobamaa
open Go.RowKit
set_option linter.unusedVariables false
namespace Fl

theorem uz (w : World) : (zeroValue 5).run Try.prog w = .ok (.int .u8 0) w := by kernel_rfl
theorem zeroCells_u8 (q : Nat) : (Builtin.zeroCells (Value.int .u8 0).cells q).toList = List.replicate q (.int .u8 0) := by
  show (Builtin.zeroCells #[Value.int .u8 0] q).toList = _
  unfold Builtin.zeroCells
  simp
  refine List.eq_replicate_iff.2 ⟨by simp, fun b hb => ?_⟩
  obtain ⟨i, _, rfl⟩ := List.mem_map.1 hb
  simp [Nat.mod_one]
theorem run_clear {w0 w : World} {L : List It} (H : Sep w0 w L) (i : Nat) {g : Nat} {l : List Value} (hi : L[i]? = some (.cells g 115 l)) (r q cp : Nat) (hr : l.length = r + (q + 1)) :
    ∃ w', (∀ ty, (Builtin.clear_ #[75] ty #[.slice (some ⟨g, r, none⟩) (q + 1) cp]).run Try.prog w = .ok (.tuple #[]) w') ∧ Sep w0 w' (L.set i (.cells g 115 (l.take r ++ List.replicate (q + 1) (.int .u8 0)))) := by
  have hB : w.heap[g]? = some (.cells l.toArray 115 (0, 0)) := H.all i _ hi
  have h1 := run_storeCells_at (P := Try.prog) g r 115 (List.replicate (q + 1) (.int .u8 0)) 0 l.toArray w hB (by simp; omega) (fun v hv => by rw [List.eq_of_mem_replicate hv]; rfl)
  rw [List.length_replicate, Nat.add_zero, List.drop_of_length_le (by simp; omega), List.append_nil] at h1
  refine ⟨_, fun ty => ?_, H.whole i hi (l.take r ++ List.replicate (q + 1) (.int .u8 0))⟩
  unfold Builtin.clear_
  simp [run_underlying Try.underlying75, Sem.run_bind, Result.andThen, zeroCells_u8, h1]
theorem find_filter {bl : List (Nat × Nat)} {P : Nat → Bool} (h : PK bl P) (n : Nat) : hcut (hB bl) n = hB (bl.filter fun p => decide (16 * p.1 < n)) := by
  funext x
  unfold hcut hB
  rw [List.find?_filter]
  by_cases hx : x * 16 ≥ (n : Int)
  · rw [if_pos hx, List.find?_eq_none.2 (fun p _ e => by
      have e2 := of_decide_eq_true e
      have e3 := of_decide_eq_true e2.1
      have e4 := of_decide_eq_true e2.2
      omega)]
    rfl
  · rw [if_neg hx]
    congr 2
    funext p
    rw [Bool.eq_iff_iff]
    simp only [decide_eq_true_eq]
    exact ⟨fun e => ⟨by omega, e⟩, fun e => e.2⟩
theorem PK.cut {bl : List (Nat × Nat)} {s : Sf} (h : PK bl s.P) (n : Nat) : PK (bl.filter fun p => decide (16 * p.1 < n)) (s.cut n).P := by
  refine ⟨h.nd.sublist (List.filter_sublist.map _), fun k => ?_, fun k hk => ?_⟩
  · show (s.P k && decide (16 * k < n)) = true ↔ _
    rw [Bool.and_eq_true, decide_eq_true_eq, h.mem, List.mem_map, List.mem_map]
    constructor
    · rintro ⟨⟨p, hp, rfl⟩, h2⟩
      exact ⟨p, List.mem_filter.2 ⟨hp, decide_eq_true h2⟩, rfl⟩
    · rintro ⟨p, hp, rfl⟩
      obtain ⟨h1, h2⟩ := List.mem_filter.1 hp
      exact ⟨⟨p, h1, rfl⟩, of_decide_eq_true h2⟩
  · have : (s.P k && decide (16 * k < n)) = true := hk
    rw [Bool.and_eq_true] at this
    exact h.lt k this.1
theorem hB_some {bl : List (Nat × Nat)} (x : Int) : (hB bl x).isSome = true ↔ x ∈ bl.map fun p => (p.1 : Int) := by
  unfold hB
  rw [Option.isSome_map, List.find?_isSome, List.mem_map]
  constructor
  · rintro ⟨p, hp, e⟩
    exact ⟨p, hp, of_decide_eq_true e⟩
  · rintro ⟨p, hp, e⟩
    exact ⟨p, hp, decide_eq_true e⟩
theorem map_count {w0 w : World} {L : List It} (H : Sep w0 w L) (i : Nat) {g n : Nat} {bl : List (Nat × Nat)} (hi : L[i]? = some (.map Try.prog 3 (Value.int .i64) pE g n (hB bl))) (hnd : (bl.map (·.1)).Nodup) : n = bl.length := by
  obtain ⟨es, clock, hb, M⟩ := H.all i _ hi
  obtain ⟨ks, h1, h2, _, h4⟩ := M.keyList kintL
  have hn2 : (bl.map fun p => (p.1 : Int)).Nodup := by
    have e : (bl.map fun p => (p.1 : Int)) = (bl.map (·.1)).map fun k : Nat => (k : Int) := by rw [List.map_map]; rfl
    rw [e]
    exact List.pairwise_map.2 (hnd.imp (fun {a b} hab e2 => hab (by omega)))
  have hp := (List.perm_ext_iff_of_nodup h1 hn2).2 fun x => (h4 x).trans (hB_some x)
  have := hp.length_eq
  rw [List.length_map] at this
  omega
end Fl
end Go.Proofs.Ytfljbiobiobamaa
