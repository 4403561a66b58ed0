/-
  Walks of both Good functions. Conditions: none beyond each theorem's own premises.
-/
import Derived.Test.YtgidkaidljiddaaDoorDrG
namespace Go.Proofs.YtgidkaidljiddaaDoor
open Go.RowKit Go.Shelf
set_option linter.unusedVariables false
namespace Dr

theorem bytes_made (s : ByteArray) (w : World) : ∃ (c : Nat) (w1 : World), (convert 9 57 (.string s)).run Tryd.prog w = .ok (.slice (some ⟨w.heap.size, 0, none⟩) s.size c) w1 ∧ Below w.heap.size w w1 ∧ w.heap.size < w1.heap.size ∧ ∀ i, i < s.size → w1.cell? ⟨w.heap.size, i, none⟩ = some (.int .u8 (bAt s i : Int)) := by
  refine ⟨_, _, run_bytes_of_string w 9 57 5 s Tryd.underlying9 Tryd.underlying57 Tryd.underlying5, ((Below.refl _ _).drew).alloc (Nat.le_refl _) _, (by show w.heap.size < (w.heap.push _).size; simp), fun i hi => ?_⟩
  have hh := heap_alloc_new w.drew (.cells (bytesRow s (grownCap w s.size 0 5)) 5 ((bytesRow s (grownCap w s.size 0 5)).size, (bytesRow s (grownCap w s.size 0 5)).size + 1))
  have hh2 : (w.drew.alloc (.cells (bytesRow s (grownCap w s.size 0 5)) 5 ((bytesRow s (grownCap w s.size 0 5)).size, (bytesRow s (grownCap w s.size 0 5)).size + 1))).heap[w.heap.size]? = some (.cells (bytesRow s (grownCap w s.size 0 5)) 5 ((bytesRow s (grownCap w s.size 0 5)).size, (bytesRow s (grownCap w s.size 0 5)).size + 1)) := hh
  rw [cell_of_row _ _ i _ _ _ hh2, bytesRow_at s _ i hi]
  have e : s.get! i = s.data[i]'hi := by simp [ByteArray.get!, getElem!_pos, hi]
  unfold bAt
  rw [e]
/-- the first k bytes may stand in a name -/
def Upb (s : ByteArray) (k : Nat) : Prop := ∀ j, j < k → badB (s.get! j) = false
theorem Upb.good {s : ByteArray} : Upb s s.size ↔ ∀ b ∈ s.data.toList, b ≠ 0 ∧ b ≠ 47 := by
  constructor
  · intro h b hb
    obtain ⟨j, hj⟩ := List.mem_iff_getElem?.1 hb
    have hjl := (List.getElem?_eq_some_iff.1 hj).1
    rw [← Lib.size_eq] at hjl
    rw [data_at s j hjl] at hj
    cases hj
    have h1 := h j hjl
    exact ⟨fun e => by rw [(badB_iff _).2 (.inl e)] at h1; exact (by cases h1), fun e => by rw [(badB_iff _).2 (.inr e)] at h1; cases h1⟩
  · intro h j hj
    have h1 := h _ (List.mem_of_getElem? (data_at s j hj))
    cases hb : badB (s.get! j) with
    | false => rfl
    | true =>
      rcases (badB_iff _).1 hb with e | e
      · exact absurd e h1.1
      · exact absurd e h1.2
theorem Upb.next {s : ByteArray} {k : Nat} : Upb s (k + 1) ↔ (Upb s k ∧ bAt s k ≠ 0 ∧ bAt s k ≠ 47) := by
  have hk : badB (s.get! k) = false ↔ (bAt s k ≠ 0 ∧ bAt s k ≠ 47) := by
    unfold bAt
    constructor
    · intro h
      exact ⟨fun e => by rw [(badB_iff _).2 (.inl (UInt8.toNat_inj.1 (by rw [e]; rfl)))] at h; exact (by cases h), fun e => by rw [(badB_iff _).2 (.inr (UInt8.toNat_inj.1 (by rw [e]; rfl)))] at h; cases h⟩
    · rintro ⟨h1, h2⟩
      cases hb : badB (s.get! k) with
      | false => rfl
      | true =>
        rcases (badB_iff _).1 hb with e | e
        · exact absurd (by rw [e]; rfl) h1
        · exact absurd (by rw [e]; rfl) h2
  rw [← hk]
  constructor
  · intro h
    exact ⟨fun j hj => h j (by omega), h k (by omega)⟩
  · rintro ⟨h1, h2⟩ j hj
    by_cases e : j = k
    · subst e; exact h2
    · exact h1 j (by omega)

set_option maxRecDepth 100000 in
set_option maxHeartbeats 3200000 in
theorem ogood_any (s : ByteArray) (b : Bool) (w : World) (hs : s.size ≤ 9223372036854775807) (hb : b = true ↔ GoodB s) : Calls Tryd.prog 16 #[.string s] w (Ret w (.bool b)) := by
  have HG : Hid (b = true ↔ ((1 ≤ s.size ∧ s.size ≤ 12 ∧ s.toList ≠ [46] ∧ s.toList ≠ [46, 46]) ∧ Upb s s.size)) := Lib.hid (by
    rw [hb, Upb.good, ByteArray.toList_eq]
    unfold GoodB
    exact ⟨fun ⟨h1, h2, h3, h4, h5⟩ => ⟨⟨h1, h2, h4, h5⟩, h3⟩, fun ⟨⟨h1, h2, h4, h5⟩, h3⟩ => ⟨h1, h2, h3, h4, h5⟩⟩)
  obtain ⟨c, w1, hcv, hb1, hlt1, hcell⟩ := bytes_made s w
  have B1 := Lib.hid hb1
  have HC := Lib.hid hcell
  clear hb hb1 hcell
  obtain ⟨n, hn⟩ : ∃ n, n = s.size := ⟨_, rfl⟩
  have HNN := Lib.hid hn
  generalize w.heap.size = gb at hcv hlt1 HC
  by_cases h1 : 1 ≤ s.size
  · have k1 : (s.size : Int) ≥ 1 := by omega
    by_cases h2 : s.size ≤ 12
    · have k2 : (s.size : Int) ≤ 12 := by omega
      by_cases g1 : s.toList = [46]
      · have e1 : (s.toList == [46]) = true := by simpa using g1
        have HO : Hid (false = true ↔ (1 ≤ s.size ∧ s.size ≤ 12 ∧ s.toList ≠ [46] ∧ s.toList ≠ [46, 46])) := Lib.hid ⟨fun h => (by cases h), fun h => absurd g1 h.2.2.1⟩
        clear g1
        go_enter Tryd.func16, Tryd.ntmps16
        go_wp2
        clear hcv
        go_loopg [3, 25] n (fun g v i wr => ∃ (k : Nat) (o : Bool), k ≤ n ∧ g = n - k ∧ v = .bool o ∧ i = .int .i64 k ∧ Hid (o = true ↔ ((1 ≤ s.size ∧ s.size ≤ 12 ∧ s.toList ≠ [46] ∧ s.toList ≠ [46, 46]) ∧ Upb s k)) ∧ Below w1.heap.size w1 wr)
        case atStart => exact ⟨0, false, Nat.zero_le _, rfl, rfl, rfl, Lib.hid (by have h0 : Upb s 0 := (fun j hj => by omega); have h := HO.out; simp only [h0, and_true]; simpa using h), Below.refl _ _⟩
        case round =>
          obtain ⟨k, o, hk, rfl, rfl, rfl, HI, hbb⟩ := hrel
          have HBB := Lib.hid hbb
          clear hbb
          have hns := HNN.out
          by_cases hlt : k < n
          · have d0 : wr.cell? ⟨gb, k, none⟩ = some (.int .u8 (bAt s k : Int)) := (HBB.out.cell hlt1).trans (HC.out k (by omega))
            have i0 : (0 : Int) ≤ (k : Int) := by omega
            have i1 : (k : Int) < (s.size : Int) := by omega
            have hup := @Upb.next s k
            obtain ⟨x, hx⟩ : ∃ x, x = bAt s k := ⟨_, rfl⟩
            rw [← hx] at d0 hup
            have HUP := Lib.hid hup
            clear hns hup hx
            cases o with
            | false =>
              have HN : Hid (false = true ↔ ((1 ≤ s.size ∧ s.size ≤ 12 ∧ s.toList ≠ [46] ∧ s.toList ≠ [46, 46]) ∧ Upb s (k + 1))) := Lib.hid ⟨fun h => (by cases h), fun h => by rw [HUP.out] at h; have := HI.out.2 ⟨h.1, h.2.1⟩; cases this⟩
              go_wp2
              go_roundg (n - (k + 1))
              case measure => omega
              case rel => exact ⟨k + 1, false, by omega, rfl, rfl, by go_num, Lib.hid (by simpa using HN.out), HBB.out⟩
            | true =>
              by_cases x0 : x = 0
              · subst x0
                have HN : Hid (false = true ↔ ((1 ≤ s.size ∧ s.size ≤ 12 ∧ s.toList ≠ [46] ∧ s.toList ≠ [46, 46]) ∧ Upb s (k + 1))) := Lib.hid ⟨fun h => (by cases h), fun h => by rw [HUP.out] at h; exact absurd rfl h.2.2.1⟩
                go_wp2
                go_roundg (n - (k + 1))
                case measure => omega
                case rel => exact ⟨k + 1, false, by omega, rfl, rfl, by go_num, Lib.hid (by simpa using HN.out), HBB.out⟩
              · have z0 : ((x : Int) != 0) = true := by simp; omega
                by_cases x1 : x = 47
                · subst x1
                  have HN : Hid (false = true ↔ ((1 ≤ s.size ∧ s.size ≤ 12 ∧ s.toList ≠ [46] ∧ s.toList ≠ [46, 46]) ∧ Upb s (k + 1))) := Lib.hid ⟨fun h => (by cases h), fun h => by rw [HUP.out] at h; exact absurd rfl h.2.2.2⟩
                  clear z0
                  go_wp2
                  go_roundg (n - (k + 1))
                  case measure => omega
                  case rel => exact ⟨k + 1, false, by omega, rfl, rfl, by go_num, Lib.hid (by simpa using HN.out), HBB.out⟩
                · have z1 : ((x : Int) != 47) = true := by simp; omega
                  have HN : Hid (true = true ↔ ((1 ≤ s.size ∧ s.size ≤ 12 ∧ s.toList ≠ [46] ∧ s.toList ≠ [46, 46]) ∧ Upb s (k + 1))) := Lib.hid ⟨fun _ => by have h := HI.out.1 rfl; rw [HUP.out]; exact ⟨h.1, h.2, x0, x1⟩, fun _ => rfl⟩
                  go_wp2
                  go_roundg (n - (k + 1))
                  case measure => omega
                  case rel => exact ⟨k + 1, true, by omega, rfl, rfl, by go_num, Lib.hid (by simpa using HN.out), HBB.out⟩
          · obtain rfl : k = n := by omega
            have HE : Hid (o = b) := Lib.hid (by
              have h := HI.out
              rw [hns] at h
              exact Bool.eq_iff_iff.2 (h.trans HG.out.symm))
            clear hns
            go_wp2
            go_ret
            exact Ret.mk (bool_eq HE.out) (B1.out.trans (HBB.out.mono B1.out.size))
      · have e1 : (s.toList == [46]) = false := by simpa using g1
        by_cases g2 : s.toList = [46, 46]
        · have e2 : (s.toList == [46, 46]) = true := by simpa using g2
          have HO : Hid (false = true ↔ (1 ≤ s.size ∧ s.size ≤ 12 ∧ s.toList ≠ [46] ∧ s.toList ≠ [46, 46])) := Lib.hid ⟨fun h => (by cases h), fun h => absurd g2 h.2.2.2⟩
          clear g1 g2
          go_enter Tryd.func16, Tryd.ntmps16
          go_wp2
          clear hcv
          go_loopg [3, 25] n (fun g v i wr => ∃ (k : Nat) (o : Bool), k ≤ n ∧ g = n - k ∧ v = .bool o ∧ i = .int .i64 k ∧ Hid (o = true ↔ ((1 ≤ s.size ∧ s.size ≤ 12 ∧ s.toList ≠ [46] ∧ s.toList ≠ [46, 46]) ∧ Upb s k)) ∧ Below w1.heap.size w1 wr)
          case atStart => exact ⟨0, false, Nat.zero_le _, rfl, rfl, rfl, Lib.hid (by have h0 : Upb s 0 := (fun j hj => by omega); have h := HO.out; simp only [h0, and_true]; simpa using h), Below.refl _ _⟩
          case round =>
            obtain ⟨k, o, hk, rfl, rfl, rfl, HI, hbb⟩ := hrel
            have HBB := Lib.hid hbb
            clear hbb
            have hns := HNN.out
            by_cases hlt : k < n
            · have d0 : wr.cell? ⟨gb, k, none⟩ = some (.int .u8 (bAt s k : Int)) := (HBB.out.cell hlt1).trans (HC.out k (by omega))
              have i0 : (0 : Int) ≤ (k : Int) := by omega
              have i1 : (k : Int) < (s.size : Int) := by omega
              have hup := @Upb.next s k
              obtain ⟨x, hx⟩ : ∃ x, x = bAt s k := ⟨_, rfl⟩
              rw [← hx] at d0 hup
              have HUP := Lib.hid hup
              clear hns hup hx
              cases o with
              | false =>
                have HN : Hid (false = true ↔ ((1 ≤ s.size ∧ s.size ≤ 12 ∧ s.toList ≠ [46] ∧ s.toList ≠ [46, 46]) ∧ Upb s (k + 1))) := Lib.hid ⟨fun h => (by cases h), fun h => by rw [HUP.out] at h; have := HI.out.2 ⟨h.1, h.2.1⟩; cases this⟩
                go_wp2
                go_roundg (n - (k + 1))
                case measure => omega
                case rel => exact ⟨k + 1, false, by omega, rfl, rfl, by go_num, Lib.hid (by simpa using HN.out), HBB.out⟩
              | true =>
                by_cases x0 : x = 0
                · subst x0
                  have HN : Hid (false = true ↔ ((1 ≤ s.size ∧ s.size ≤ 12 ∧ s.toList ≠ [46] ∧ s.toList ≠ [46, 46]) ∧ Upb s (k + 1))) := Lib.hid ⟨fun h => (by cases h), fun h => by rw [HUP.out] at h; exact absurd rfl h.2.2.1⟩
                  go_wp2
                  go_roundg (n - (k + 1))
                  case measure => omega
                  case rel => exact ⟨k + 1, false, by omega, rfl, rfl, by go_num, Lib.hid (by simpa using HN.out), HBB.out⟩
                · have z0 : ((x : Int) != 0) = true := by simp; omega
                  by_cases x1 : x = 47
                  · subst x1
                    have HN : Hid (false = true ↔ ((1 ≤ s.size ∧ s.size ≤ 12 ∧ s.toList ≠ [46] ∧ s.toList ≠ [46, 46]) ∧ Upb s (k + 1))) := Lib.hid ⟨fun h => (by cases h), fun h => by rw [HUP.out] at h; exact absurd rfl h.2.2.2⟩
                    clear z0
                    go_wp2
                    go_roundg (n - (k + 1))
                    case measure => omega
                    case rel => exact ⟨k + 1, false, by omega, rfl, rfl, by go_num, Lib.hid (by simpa using HN.out), HBB.out⟩
                  · have z1 : ((x : Int) != 47) = true := by simp; omega
                    have HN : Hid (true = true ↔ ((1 ≤ s.size ∧ s.size ≤ 12 ∧ s.toList ≠ [46] ∧ s.toList ≠ [46, 46]) ∧ Upb s (k + 1))) := Lib.hid ⟨fun _ => by have h := HI.out.1 rfl; rw [HUP.out]; exact ⟨h.1, h.2, x0, x1⟩, fun _ => rfl⟩
                    go_wp2
                    go_roundg (n - (k + 1))
                    case measure => omega
                    case rel => exact ⟨k + 1, true, by omega, rfl, rfl, by go_num, Lib.hid (by simpa using HN.out), HBB.out⟩
            · obtain rfl : k = n := by omega
              have HE : Hid (o = b) := Lib.hid (by
                have h := HI.out
                rw [hns] at h
                exact Bool.eq_iff_iff.2 (h.trans HG.out.symm))
              clear hns
              go_wp2
              go_ret
              exact Ret.mk (bool_eq HE.out) (B1.out.trans (HBB.out.mono B1.out.size))
        · have e2 : (s.toList == [46, 46]) = false := by simpa using g2
          have HO : Hid (true = true ↔ (1 ≤ s.size ∧ s.size ≤ 12 ∧ s.toList ≠ [46] ∧ s.toList ≠ [46, 46])) := Lib.hid ⟨fun _ => ⟨h1, h2, g1, g2⟩, fun _ => rfl⟩
          clear g1 g2
          go_enter Tryd.func16, Tryd.ntmps16
          go_wp2
          clear hcv
          go_loopg [3, 25] n (fun g v i wr => ∃ (k : Nat) (o : Bool), k ≤ n ∧ g = n - k ∧ v = .bool o ∧ i = .int .i64 k ∧ Hid (o = true ↔ ((1 ≤ s.size ∧ s.size ≤ 12 ∧ s.toList ≠ [46] ∧ s.toList ≠ [46, 46]) ∧ Upb s k)) ∧ Below w1.heap.size w1 wr)
          case atStart => exact ⟨0, true, Nat.zero_le _, rfl, rfl, rfl, Lib.hid (by have h0 : Upb s 0 := (fun j hj => by omega); have h := HO.out; simp only [h0, and_true]; simpa using h), Below.refl _ _⟩
          case round =>
            obtain ⟨k, o, hk, rfl, rfl, rfl, HI, hbb⟩ := hrel
            have HBB := Lib.hid hbb
            clear hbb
            have hns := HNN.out
            by_cases hlt : k < n
            · have d0 : wr.cell? ⟨gb, k, none⟩ = some (.int .u8 (bAt s k : Int)) := (HBB.out.cell hlt1).trans (HC.out k (by omega))
              have i0 : (0 : Int) ≤ (k : Int) := by omega
              have i1 : (k : Int) < (s.size : Int) := by omega
              have hup := @Upb.next s k
              obtain ⟨x, hx⟩ : ∃ x, x = bAt s k := ⟨_, rfl⟩
              rw [← hx] at d0 hup
              have HUP := Lib.hid hup
              clear hns hup hx
              cases o with
              | false =>
                have HN : Hid (false = true ↔ ((1 ≤ s.size ∧ s.size ≤ 12 ∧ s.toList ≠ [46] ∧ s.toList ≠ [46, 46]) ∧ Upb s (k + 1))) := Lib.hid ⟨fun h => (by cases h), fun h => by rw [HUP.out] at h; have := HI.out.2 ⟨h.1, h.2.1⟩; cases this⟩
                go_wp2
                go_roundg (n - (k + 1))
                case measure => omega
                case rel => exact ⟨k + 1, false, by omega, rfl, rfl, by go_num, Lib.hid (by simpa using HN.out), HBB.out⟩
              | true =>
                by_cases x0 : x = 0
                · subst x0
                  have HN : Hid (false = true ↔ ((1 ≤ s.size ∧ s.size ≤ 12 ∧ s.toList ≠ [46] ∧ s.toList ≠ [46, 46]) ∧ Upb s (k + 1))) := Lib.hid ⟨fun h => (by cases h), fun h => by rw [HUP.out] at h; exact absurd rfl h.2.2.1⟩
                  go_wp2
                  go_roundg (n - (k + 1))
                  case measure => omega
                  case rel => exact ⟨k + 1, false, by omega, rfl, rfl, by go_num, Lib.hid (by simpa using HN.out), HBB.out⟩
                · have z0 : ((x : Int) != 0) = true := by simp; omega
                  by_cases x1 : x = 47
                  · subst x1
                    have HN : Hid (false = true ↔ ((1 ≤ s.size ∧ s.size ≤ 12 ∧ s.toList ≠ [46] ∧ s.toList ≠ [46, 46]) ∧ Upb s (k + 1))) := Lib.hid ⟨fun h => (by cases h), fun h => by rw [HUP.out] at h; exact absurd rfl h.2.2.2⟩
                    clear z0
                    go_wp2
                    go_roundg (n - (k + 1))
                    case measure => omega
                    case rel => exact ⟨k + 1, false, by omega, rfl, rfl, by go_num, Lib.hid (by simpa using HN.out), HBB.out⟩
                  · have z1 : ((x : Int) != 47) = true := by simp; omega
                    have HN : Hid (true = true ↔ ((1 ≤ s.size ∧ s.size ≤ 12 ∧ s.toList ≠ [46] ∧ s.toList ≠ [46, 46]) ∧ Upb s (k + 1))) := Lib.hid ⟨fun _ => by have h := HI.out.1 rfl; rw [HUP.out]; exact ⟨h.1, h.2, x0, x1⟩, fun _ => rfl⟩
                    go_wp2
                    go_roundg (n - (k + 1))
                    case measure => omega
                    case rel => exact ⟨k + 1, true, by omega, rfl, rfl, by go_num, Lib.hid (by simpa using HN.out), HBB.out⟩
            · obtain rfl : k = n := by omega
              have HE : Hid (o = b) := Lib.hid (by
                have h := HI.out
                rw [hns] at h
                exact Bool.eq_iff_iff.2 (h.trans HG.out.symm))
              clear hns
              go_wp2
              go_ret
              exact Ret.mk (bool_eq HE.out) (B1.out.trans (HBB.out.mono B1.out.size))
    · have k2 : ¬ (s.size : Int) ≤ 12 := by omega
      have HO : Hid (false = true ↔ (1 ≤ s.size ∧ s.size ≤ 12 ∧ s.toList ≠ [46] ∧ s.toList ≠ [46, 46])) := Lib.hid ⟨fun h => (by cases h), fun h => absurd h.2.1 h2⟩
      go_enter Tryd.func16, Tryd.ntmps16
      go_wp2
      clear hcv
      go_loopg [3, 25] n (fun g v i wr => ∃ (k : Nat) (o : Bool), k ≤ n ∧ g = n - k ∧ v = .bool o ∧ i = .int .i64 k ∧ Hid (o = true ↔ ((1 ≤ s.size ∧ s.size ≤ 12 ∧ s.toList ≠ [46] ∧ s.toList ≠ [46, 46]) ∧ Upb s k)) ∧ Below w1.heap.size w1 wr)
      case atStart => exact ⟨0, false, Nat.zero_le _, rfl, rfl, rfl, Lib.hid (by have h0 : Upb s 0 := (fun j hj => by omega); have h := HO.out; simp only [h0, and_true]; simpa using h), Below.refl _ _⟩
      case round =>
        obtain ⟨k, o, hk, rfl, rfl, rfl, HI, hbb⟩ := hrel
        have HBB := Lib.hid hbb
        clear hbb
        have hns := HNN.out
        by_cases hlt : k < n
        · have d0 : wr.cell? ⟨gb, k, none⟩ = some (.int .u8 (bAt s k : Int)) := (HBB.out.cell hlt1).trans (HC.out k (by omega))
          have i0 : (0 : Int) ≤ (k : Int) := by omega
          have i1 : (k : Int) < (s.size : Int) := by omega
          have hup := @Upb.next s k
          obtain ⟨x, hx⟩ : ∃ x, x = bAt s k := ⟨_, rfl⟩
          rw [← hx] at d0 hup
          have HUP := Lib.hid hup
          clear hns hup hx
          cases o with
          | false =>
            have HN : Hid (false = true ↔ ((1 ≤ s.size ∧ s.size ≤ 12 ∧ s.toList ≠ [46] ∧ s.toList ≠ [46, 46]) ∧ Upb s (k + 1))) := Lib.hid ⟨fun h => (by cases h), fun h => by rw [HUP.out] at h; have := HI.out.2 ⟨h.1, h.2.1⟩; cases this⟩
            go_wp2
            go_roundg (n - (k + 1))
            case measure => omega
            case rel => exact ⟨k + 1, false, by omega, rfl, rfl, by go_num, Lib.hid (by simpa using HN.out), HBB.out⟩
          | true =>
            by_cases x0 : x = 0
            · subst x0
              have HN : Hid (false = true ↔ ((1 ≤ s.size ∧ s.size ≤ 12 ∧ s.toList ≠ [46] ∧ s.toList ≠ [46, 46]) ∧ Upb s (k + 1))) := Lib.hid ⟨fun h => (by cases h), fun h => by rw [HUP.out] at h; exact absurd rfl h.2.2.1⟩
              go_wp2
              go_roundg (n - (k + 1))
              case measure => omega
              case rel => exact ⟨k + 1, false, by omega, rfl, rfl, by go_num, Lib.hid (by simpa using HN.out), HBB.out⟩
            · have z0 : ((x : Int) != 0) = true := by simp; omega
              by_cases x1 : x = 47
              · subst x1
                have HN : Hid (false = true ↔ ((1 ≤ s.size ∧ s.size ≤ 12 ∧ s.toList ≠ [46] ∧ s.toList ≠ [46, 46]) ∧ Upb s (k + 1))) := Lib.hid ⟨fun h => (by cases h), fun h => by rw [HUP.out] at h; exact absurd rfl h.2.2.2⟩
                clear z0
                go_wp2
                go_roundg (n - (k + 1))
                case measure => omega
                case rel => exact ⟨k + 1, false, by omega, rfl, rfl, by go_num, Lib.hid (by simpa using HN.out), HBB.out⟩
              · have z1 : ((x : Int) != 47) = true := by simp; omega
                have HN : Hid (true = true ↔ ((1 ≤ s.size ∧ s.size ≤ 12 ∧ s.toList ≠ [46] ∧ s.toList ≠ [46, 46]) ∧ Upb s (k + 1))) := Lib.hid ⟨fun _ => by have h := HI.out.1 rfl; rw [HUP.out]; exact ⟨h.1, h.2, x0, x1⟩, fun _ => rfl⟩
                go_wp2
                go_roundg (n - (k + 1))
                case measure => omega
                case rel => exact ⟨k + 1, true, by omega, rfl, rfl, by go_num, Lib.hid (by simpa using HN.out), HBB.out⟩
        · obtain rfl : k = n := by omega
          have HE : Hid (o = b) := Lib.hid (by
            have h := HI.out
            rw [hns] at h
            exact Bool.eq_iff_iff.2 (h.trans HG.out.symm))
          clear hns
          go_wp2
          go_ret
          exact Ret.mk (bool_eq HE.out) (B1.out.trans (HBB.out.mono B1.out.size))
  · have k1 : ¬ (s.size : Int) ≥ 1 := by omega
    have HO : Hid (false = true ↔ (1 ≤ s.size ∧ s.size ≤ 12 ∧ s.toList ≠ [46] ∧ s.toList ≠ [46, 46])) := Lib.hid ⟨fun h => (by cases h), fun h => absurd h.1 h1⟩
    go_enter Tryd.func16, Tryd.ntmps16
    go_wp2
    clear hcv
    go_loopg [3, 25] n (fun g v i wr => ∃ (k : Nat) (o : Bool), k ≤ n ∧ g = n - k ∧ v = .bool o ∧ i = .int .i64 k ∧ Hid (o = true ↔ ((1 ≤ s.size ∧ s.size ≤ 12 ∧ s.toList ≠ [46] ∧ s.toList ≠ [46, 46]) ∧ Upb s k)) ∧ Below w1.heap.size w1 wr)
    case atStart => exact ⟨0, false, Nat.zero_le _, rfl, rfl, rfl, Lib.hid (by have h0 : Upb s 0 := (fun j hj => by omega); have h := HO.out; simp only [h0, and_true]; simpa using h), Below.refl _ _⟩
    case round =>
      obtain ⟨k, o, hk, rfl, rfl, rfl, HI, hbb⟩ := hrel
      have HBB := Lib.hid hbb
      clear hbb
      have hns := HNN.out
      by_cases hlt : k < n
      · have d0 : wr.cell? ⟨gb, k, none⟩ = some (.int .u8 (bAt s k : Int)) := (HBB.out.cell hlt1).trans (HC.out k (by omega))
        have i0 : (0 : Int) ≤ (k : Int) := by omega
        have i1 : (k : Int) < (s.size : Int) := by omega
        have hup := @Upb.next s k
        obtain ⟨x, hx⟩ : ∃ x, x = bAt s k := ⟨_, rfl⟩
        rw [← hx] at d0 hup
        have HUP := Lib.hid hup
        clear hns hup hx
        cases o with
        | false =>
          have HN : Hid (false = true ↔ ((1 ≤ s.size ∧ s.size ≤ 12 ∧ s.toList ≠ [46] ∧ s.toList ≠ [46, 46]) ∧ Upb s (k + 1))) := Lib.hid ⟨fun h => (by cases h), fun h => by rw [HUP.out] at h; have := HI.out.2 ⟨h.1, h.2.1⟩; cases this⟩
          go_wp2
          go_roundg (n - (k + 1))
          case measure => omega
          case rel => exact ⟨k + 1, false, by omega, rfl, rfl, by go_num, Lib.hid (by simpa using HN.out), HBB.out⟩
        | true =>
          by_cases x0 : x = 0
          · subst x0
            have HN : Hid (false = true ↔ ((1 ≤ s.size ∧ s.size ≤ 12 ∧ s.toList ≠ [46] ∧ s.toList ≠ [46, 46]) ∧ Upb s (k + 1))) := Lib.hid ⟨fun h => (by cases h), fun h => by rw [HUP.out] at h; exact absurd rfl h.2.2.1⟩
            go_wp2
            go_roundg (n - (k + 1))
            case measure => omega
            case rel => exact ⟨k + 1, false, by omega, rfl, rfl, by go_num, Lib.hid (by simpa using HN.out), HBB.out⟩
          · have z0 : ((x : Int) != 0) = true := by simp; omega
            by_cases x1 : x = 47
            · subst x1
              have HN : Hid (false = true ↔ ((1 ≤ s.size ∧ s.size ≤ 12 ∧ s.toList ≠ [46] ∧ s.toList ≠ [46, 46]) ∧ Upb s (k + 1))) := Lib.hid ⟨fun h => (by cases h), fun h => by rw [HUP.out] at h; exact absurd rfl h.2.2.2⟩
              clear z0
              go_wp2
              go_roundg (n - (k + 1))
              case measure => omega
              case rel => exact ⟨k + 1, false, by omega, rfl, rfl, by go_num, Lib.hid (by simpa using HN.out), HBB.out⟩
            · have z1 : ((x : Int) != 47) = true := by simp; omega
              have HN : Hid (true = true ↔ ((1 ≤ s.size ∧ s.size ≤ 12 ∧ s.toList ≠ [46] ∧ s.toList ≠ [46, 46]) ∧ Upb s (k + 1))) := Lib.hid ⟨fun _ => by have h := HI.out.1 rfl; rw [HUP.out]; exact ⟨h.1, h.2, x0, x1⟩, fun _ => rfl⟩
              go_wp2
              go_roundg (n - (k + 1))
              case measure => omega
              case rel => exact ⟨k + 1, true, by omega, rfl, rfl, by go_num, Lib.hid (by simpa using HN.out), HBB.out⟩
      · obtain rfl : k = n := by omega
        have HE : Hid (o = b) := Lib.hid (by
          have h := HI.out
          rw [hns] at h
          exact Bool.eq_iff_iff.2 (h.trans HG.out.symm))
        clear hns
        go_wp2
        go_ret
        exact Ret.mk (bool_eq HE.out) (B1.out.trans (HBB.out.mono B1.out.size))
end Dr
end Go.Proofs.YtgidkaidljiddaaDoor
