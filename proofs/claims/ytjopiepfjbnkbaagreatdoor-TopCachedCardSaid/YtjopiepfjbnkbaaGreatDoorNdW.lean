/-
  Walks of nand.Right and of the reference's DRight. Conditions: none.
-/
import Derived.Test.YtjopiepfjbnkbaaGreatDoorNdM
import Derived.Test.YtjopiepfjbnkbaaGreatDoorBase
namespace Go.Proofs.YtjopiepfjbnkbaaGreatDoor
open Go.RowKit
set_option linter.unusedVariables false

/-- the elements of an array from k on, as a slice -/
theorem arr_from {P : Program} {t e : TypeId} {N C : Nat} (hu : P.underlying t = some (.array N e)) (hC : ∀ w, (sizeOf e).run P w = .ok C w) (g off k : Nat) (hk : k ≤ N) :
    ∃ A', (∀ w, (Instr.sliceAt t (.pointer (some ⟨g, off, none⟩)) (some (.int .i64 (k : Int))) none none).run P w = .ok (.slice (some A') (N - k) (N - k)) w) ∧ (k < N → A' = ⟨g, off + k * C, none⟩) := by
  have he : P.elem t = e := by unfold Program.elem; rw [hu]
  have hn : P.arrayLen t = N := by unfold Program.arrayLen; rw [hu]
  have ht : P.underlying t = some (.array (P.arrayLen t) (P.elem t)) := by rw [he, hn]; exact hu
  refine ⟨if N = k then ⟨g, off, none⟩ else (⟨g, off, none⟩ : Addr).add (k * C), fun w => ?_, fun h => ?_⟩
  · rw [run_sliceAt_array_l w t ⟨g, off, none⟩ ht .i64 (k : Int) (by omega) (by rw [hn]; omega), he, hC]
    simp [Result.andThen, slicedAt, hn]
  · rw [if_neg (by omega)]
    unfold Addr.add
    by_cases h0 : k * C = 0 <;> simp [h0]

namespace Nd

def B.cells (x : B) : List Value := [.int .i64 x.a, .int .i64 x.b, .int .i64 x.c, .int .i64 x.d, .int .i64 x.done, .int .i64 x.wear]
theorem B.len : ∀ x : B, x.cells.length = 6 := fun _ => rfl
theorem B.cell_at (x : B) {p : Nat} (hp : p < 4) : x.cells[p]? = some (.int .i64 (x.at p)) := by
  match p, hp with
  | 0, _ => rfl
  | 1, _ => rfl
  | 2, _ => rfl
  | 3, _ => rfl
theorem B.facts {w wr : World} {b off Bd k : Nat} {l : List B} {x : B} (hb : b < Bd) (hB : Below Bd w wr) (hc : ∀ (i j : Nat) (x : B) (u : Value), l[i]? = some x → x.cells[j]? = some u → w.cell? ⟨b, off + (i * 6 + j), none⟩ = some u)
    (hx : l[k]? = some x) : wr.cell? ⟨b, off + k * 6, none⟩ = some (.int .i64 x.a) ∧ wr.cell? ⟨b, off + k * 6 + 1, none⟩ = some (.int .i64 x.b) ∧ wr.cell? ⟨b, off + k * 6 + 2, none⟩ = some (.int .i64 x.c) ∧ wr.cell? ⟨b, off + k * 6 + 3, none⟩ = some (.int .i64 x.d) ∧ wr.cell? ⟨b, off + k * 6 + 4, none⟩ = some (.int .i64 x.done) ∧ wr.cell? ⟨b, off + k * 6 + 5, none⟩ = some (.int .i64 x.wear) :=
  ⟨(hB.cell hb).trans (hc k 0 x _ hx rfl), (hB.cell hb).trans (hc k 1 x _ hx rfl), (hB.cell hb).trans (hc k 2 x _ hx rfl), (hB.cell hb).trans (hc k 3 x _ hx rfl), (hB.cell hb).trans (hc k 4 x _ hx rfl), (hB.cell hb).trans (hc k 5 x _ hx rfl)⟩
theorem block_info : (Tryz.prog.info? 95).map (fun i => (i.zero, i.size, i.bytes)) = some (some (.agg #[.int .i64 0, .int .i64 0, .int .i64 0, .int .i64 0, .int .i64 0, .int .i64 0]), 6, 48) := by kernel_rfl
theorem int_info : (Tryz.prog.info? 3).map (fun i => (i.zero, i.size, i.bytes)) = some (some (.int .i64 0), 1, 8) := by kernel_rfl
/-- a Bool tells whether p holds -/
def Tell (b : Bool) (p : Prop) : Prop := b = true ↔ p
theorem bool_no {b : Bool} {p : Prop} (h : b = true ↔ p) (hp : ¬ p) : b = false := by
  cases b with
  | false => rfl
  | true => exact absurd (h.1 rfl) hp

set_option maxRecDepth 100000 in
set_option maxHeartbeats 3200000 in
theorem right_any (A : Option Addr) (n c : Nat) (l : List B) (b0 : Bool) (w : World) (hr : Rd w w.heap.size 6 A n (l.flatMap B.cells)) (hl : l.length = n) (hn : n ≤ 9223372036854775807) (hb : b0 = true ↔ Rt l) :
    Calls Tryz.prog 132 #[.slice A n c] w (Ret w (.bool b0)) := by
  obtain ⟨ii, hii, j0, j1, j2⟩ := info_parts int_info
  have HR := Lib.hid hr
  have HL := Lib.hid hl
  have HBB := Lib.hid hb
  clear hr hl hb
  by_cases h8 : n = 8
  · subst h8
    go_enter Tryz.func132, Tryz.ntmps132
    go_wp2
    go_loopg [12] 8 (fun g i wr => ∃ k : Nat, k ≤ 8 ∧ g = 8 - k ∧ i = .int .i64 k ∧ Hid (∀ j x, j < k → l[j]? = some x → RtB x) ∧ Sep w wr [])
    case atStart => exact ⟨0, Nat.zero_le _, rfl, rfl, Lib.hid (fun j x h => by omega), Sep.nil_ w⟩
    case round =>
      obtain ⟨k, hk, rfl, rfl, HI, hs⟩ := hrel
      have HS := Lib.hid hs
      clear hs
      by_cases hlt : k < 8
      · obtain ⟨b, off, rfl, hbb, hc⟩ := HR.out.at_ B.len (by omega)
        obtain ⟨x, hx⟩ : ∃ x, l[k]? = some x := ⟨_, List.getElem?_eq_getElem (by rw [HL.out]; exact hlt)⟩
        obtain ⟨q0, q1, q2, q3, q4, q5⟩ := B.facts hbb HS.out.below hc hx
        have hno : ¬ RtB x → b0 = false := fun h => bool_no HBB.out fun hR => h (hR.2 x (List.mem_of_getElem? hx))
        have hyes : RtB x → Hid (∀ j y, j < k + 1 → l[j]? = some y → RtB y) := fun h => Lib.hid (fun j y hj hy => by
          by_cases hjk : j = k
          · subst hjk; rw [hx] at hy; cases hy; exact h
          · exact HI.out j y (by omega) hy)
        clear hc hx
        obtain ⟨xa, xb, xc, xd, dn, wr'⟩ := x
        simp only at q0 q1 q2 q3 q4 q5
        have HS1 : Hid (Sep w (wr.alloc (.cells #[.int .i64 xa, .int .i64 xb, .int .i64 xc, .int .i64 xd, .int .i64 dn, .int .i64 wr'] 95)) [.cells wr.heap.size 95 (⟨xa, xb, xc, xd, dn, wr'⟩ : B).cells]) := Lib.hid (HS.out.new 95 (⟨xa, xb, xc, xd, dn, wr'⟩ : B).cells)
        have i0 : (0 : Int) ≤ (k : Int) := by omega
        have i1 : (k : Int) < 8 := by omega
        by_cases h1 : dn < 0
        · obtain rfl : b0 = false := hno fun h => by have := h.d0; simp at this; omega
          clear hno hyes
          go_wp2
          go_ret
          exact Ret.mk rfl HS1.out.below
        by_cases h2 : 4 < dn
        · obtain rfl : b0 = false := hno fun h => by have := h.d4; simp at this; omega
          clear hno hyes
          go_wp2
          go_ret
          exact Ret.mk rfl HS1.out.below
        by_cases h3 : wr' < 0
        · obtain rfl : b0 = false := hno fun h => by have := h.w0; simp at this; omega
          clear hno hyes
          go_wp2
          go_ret
          exact Ret.mk rfl HS1.out.below
        by_cases h4 : 1048576 < wr'
        · obtain rfl : b0 = false := hno fun h => by have := h.w1; simp at this; omega
          clear hno hyes
          go_wp2
          go_ret
          exact Ret.mk rfl HS1.out.below
        obtain ⟨d, rfl⟩ := Int.eq_ofNat_of_zero_le (show 0 ≤ dn by omega)
        obtain ⟨A', hsl, hA'⟩ := arr_from (P := Tryz.prog) Tryz.underlying93 (size_of_info hii j1) wr.heap.size 0 d (by omega)
        have HA : Hid (d < 4 → A' = ⟨wr.heap.size, d, none⟩) := Lib.hid (fun h => by simpa using hA' h)
        have HNO := Lib.hid hno
        have HYES := Lib.hid hyes
        have h4d : (d : Int) ≤ 4 := by omega
        clear hA' hno hyes
        go_wp2
        generalize wr.alloc (.cells #[.int .i64 xa, .int .i64 xb, .int .i64 xc, .int .i64 xd, .int .i64 (d : Int), .int .i64 wr'] 95) = wo at HS1 ⊢
        generalize wr.heap.size = gb at HS1 HA hsl ⊢
        clear HS q0 q1 q2 q3 q4 q5 hsl
        go_loopg [39] (4 - d) (fun g i wr => ∃ m : Nat, m ≤ 4 - d ∧ g = 4 - d - m ∧ i = .int .i64 m ∧ Hid (∀ p : Nat, p < d + m → d ≤ p → (⟨xa, xb, xc, xd, (d : Int), wr'⟩ : B).at p = 0) ∧ Sep w wr [.cells gb 95 (⟨xa, xb, xc, xd, (d : Int), wr'⟩ : B).cells])
        case atStart => exact ⟨0, Nat.zero_le _, rfl, rfl, Lib.hid (fun p h h' => by omega), HS1.out⟩
        case round =>
          clear HS1 wo
          obtain ⟨m, hm, rfl, rfl, HZ, hs⟩ := hrel
          have HS := Lib.hid hs
          clear hs
          by_cases hlt2 : m < 4 - d
          · obtain rfl := HA.out (by omega)
            have e0 := HS.out.cell 0 rfl (B.cell_at _ (show d + m < 4 by omega))
            obtain ⟨v, hv⟩ : ∃ v, v = (⟨xa, xb, xc, xd, (d : Int), wr'⟩ : B).at (d + m) := ⟨_, rfl⟩
            rw [← hv] at e0
            have HV := Lib.hid hv
            have j0 : (0 : Int) ≤ (m : Int) := by omega
            have j1 : (m : Int) < ((4 - d : Nat) : Int) := by omega
            clear hv
            cases hz : (v != 0) with
            | true =>
              obtain rfl : b0 = false := HNO.out fun h => by
                have h1 := h.z (d + m) (by omega) (by show (d : Int) ≤ _; omega)
                rw [← HV.out] at h1
                subst h1
                simp at hz
              go_wp2
              go_ret
              exact Ret.mk rfl HS.out.below
            | false =>
              have HN : Hid (∀ p : Nat, p < d + (m + 1) → d ≤ p → (⟨xa, xb, xc, xd, (d : Int), wr'⟩ : B).at p = 0) := Lib.hid (fun p h1 h2 => by
                by_cases hp : p = d + m
                · subst hp
                  rw [← HV.out]
                  simpa using hz
                · exact HZ.out p (by omega) h2)
              go_wp2
              go_roundg (4 - d - (m + 1))
              case measure => omega
              case rel => exact ⟨m + 1, by omega, rfl, by go_num, HN, HS.out⟩
          · obtain rfl : m = 4 - d := by omega
            have HN := HYES.out ⟨by simp, h4d, by simp only; omega, by simp only; omega, fun p h1 h2 => HZ.out p (by omega) (by simp only at h2; omega)⟩
            go_wp2
            go_roundg (8 - (k + 1))
            case measure => omega
            case rel => exact ⟨k + 1, by omega, rfl, by go_num, HN, HS.out.pick [] (by decide) (by simp)⟩
      · obtain rfl : k = 8 := by omega
        obtain rfl : b0 = true := HBB.out.2 ⟨HL.out, fun x hx => by
          obtain ⟨j, hj, rfl⟩ := List.getElem_of_mem hx
          exact HI.out j _ (by rw [← HL.out]; exact hj) (List.getElem?_eq_getElem hj)⟩
        go_wp2
        go_ret
        exact Ret.mk rfl HS.out.below
  · obtain rfl : b0 = false := bool_no HBB.out fun h => h8 (by rw [← HL.out]; exact h.1)
    have ht : ((n : Int) != 8) = true := by simp; omega
    go_enter Tryz.func132, Tryz.ntmps132
    go_wp2
    go_ret
    exact Ret.mk rfl (Below.refl _ _)
end Nd
end Go.Proofs.YtjopiepfjbnkbaaGreatDoor
