/-
  Walks of the reference's yword and YBytes. Conditions: none beyond each theorem's own premises.
-/
import Derived.Test.YtccpkkopniadiaaGreatDoorBnB
import Derived.BigRegion
namespace Go.Proofs.YtccpkkopniadiaaGreatDoor
open Go.RowKit
set_option linter.unusedVariables false
namespace Bn

theorem all_step (x : By) (i : Nat) (b : UInt8) (h : x[i]? = some b) : (x.take (i + 1)).all wch = ((x.take i).all wch && wch b) := by
  rw [List.take_add_one, h, List.all_append]
  simp

set_option maxRecDepth 100000 in
set_option maxHeartbeats 1600000 in
theorem yword_any (x : By) (S : ByteArray) (hS : bs x = S) (hl : x.length ≤ 9223372036854775806) (w : World) : Calls Tryz.prog 80 #[.string S] w (Ret w (.bool (wd x))) := by
  obtain ⟨cb, w1, hcv, hb1, hlt1, hcell⟩ := bytes_of x S hS w
  obtain ⟨N, hN⟩ : ∃ N, x.length = N := ⟨_, rfl⟩
  have hsz : (S.size : Int) = (N : Int) := by rw [← hS, bs_size, hN]
  obtain ⟨ok0, hok0⟩ : ∃ ok0 : Bool, (decide (1 ≤ N) && decide (N ≤ 12)) = ok0 := ⟨_, rfl⟩
  have B1 := Lib.hid hb1
  have HC := Lib.hid hcell
  have HN := Lib.hid hN
  have HE : Hid (wd x = (ok0 && x.all wch)) := Lib.hid (by unfold wd; rw [hN, hok0])
  rw [hN] at hcv hl
  have HOK := Lib.hid hok0
  clear hb1 hcell hN hS hok0
  generalize w.heap.size = gb at hcv hlt1 HC
  have hz : (N = 0 ∧ ok0 = false) ∨ (0 < N ∧ N < 13 ∧ ok0 = true) ∨ (0 < N ∧ ¬ N < 13 ∧ ok0 = false) := by
    have h := HOK.out
    rcases Nat.eq_zero_or_pos N with h0 | h0
    · subst h0; exact .inl ⟨rfl, by rw [← h]; rfl⟩
    · by_cases h1 : N < 13
      · exact .inr (.inl ⟨h0, h1, by rw [← h, decide_eq_true (by omega), decide_eq_true (by omega)]; rfl⟩)
      · exact .inr (.inr ⟨h0, h1, by rw [← h, decide_eq_true (show 1 ≤ N by omega), decide_eq_false (by omega)]; rfl⟩)
  rcases hz with ⟨h0, h1⟩ | ⟨h0, h2, h1⟩ | ⟨h0, h2, h1⟩
  · rw [h1] at HE
    have k0 : ¬ (0 : Int) < (N : Int) := by omega
    clear h1 HOK h0
    go_enter Tryz.func80, Tryz.ntmps80
    go_wp2
    clear k0
    go_loopg [3, 17] N (fun g q i wr => ∃ (k : Nat) (ok : Bool), k ≤ N ∧ g = N - k ∧ i = .int .i64 k ∧ q = .bool ok ∧ Hid (ok = (false && (x.take k).all wch)) ∧ Below w1.heap.size w1 wr)
    case atStart => exact ⟨0, _, Nat.zero_le _, rfl, rfl, rfl, Lib.hid (by simp), Below.refl _ _⟩
    case round =>
      obtain ⟨k, ok, hk, rfl, rfl, rfl, HQ, hB⟩ := hrel
      have HB := Lib.hid hB
      clear hB
      by_cases hlt : k < N
      · obtain ⟨b, hb⟩ : ∃ b, x[k]? = some b := ⟨_, List.getElem?_eq_getElem (by rw [HN.out]; exact hlt)⟩
        have d1 : wr.cell? ⟨gb, k, none⟩ = some (.int .u8 (b.toNat : Int)) := (HB.out.cell (p := ⟨gb, k, none⟩) hlt1).trans (HC.out k b hb)
        have HNX : Hid ((false && (x.take (k + 1)).all wch) = (ok && wch b)) := Lib.hid (by rw [all_step x k b hb, HQ.out, Bool.and_assoc])
        have i0 : (0 : Int) ≤ (k : Int) := by omega
        have i1 : (k : Int) < (N : Int) := by omega
        obtain ⟨c, hc⟩ : ∃ c, b.toNat = c := ⟨_, rfl⟩
        obtain ⟨v, hv⟩ : ∃ v, wch b = v := ⟨_, rfl⟩
        have HV : Hid (v = ((decide (97 ≤ c) && decide (c ≤ 122)) || (decide (48 ≤ c) && decide (c ≤ 57)))) := Lib.hid (by rw [← hv, ← hc]; rfl)
        rw [hc] at d1
        rw [hv] at HNX
        clear hb hc hv
        cases ok with
        | false =>
          go_wp2
          go_roundg (N - (k + 1))
          case measure => omega
          case rel => exact ⟨k + 1, false, by omega, rfl, by go_num, rfl, Lib.hid (by rw [HNX.out]; rfl), HB.out⟩
        | true =>
          by_cases h97 : 97 ≤ c
          · have m1 : (97 : Int) ≤ (c : Int) := by omega
            by_cases h122 : c ≤ 122
            · have m2 : (c : Int) ≤ 122 := by omega
              obtain rfl : v = true := by rw [HV.out, decide_eq_true h97, decide_eq_true h122]; (try rfl)
              clear h97 h122 HV
              go_wp2
              go_roundg (N - (k + 1))
              case measure => omega
              case rel => exact ⟨k + 1, true, by omega, rfl, by go_num, rfl, Lib.hid (by rw [HNX.out]; rfl), HB.out⟩
            · have m2 : ¬ (c : Int) ≤ 122 := by omega
              have m3 : (48 : Int) ≤ (c : Int) := by omega
              have m4 : ¬ (c : Int) ≤ 57 := by omega
              obtain rfl : v = false := by rw [HV.out, decide_eq_false h122, decide_eq_false (show ¬ c ≤ 57 by omega)]; (try simp)
              clear h97 h122 HV
              go_wp2
              go_roundg (N - (k + 1))
              case measure => omega
              case rel => exact ⟨k + 1, false, by omega, rfl, by go_num, rfl, Lib.hid (by rw [HNX.out]; rfl), HB.out⟩
          · have m1 : ¬ (97 : Int) ≤ (c : Int) := by omega
            by_cases h48 : 48 ≤ c
            · have m3 : (48 : Int) ≤ (c : Int) := by omega
              by_cases h57 : c ≤ 57
              · have m4 : (c : Int) ≤ 57 := by omega
                obtain rfl : v = true := by rw [HV.out, decide_eq_true h48, decide_eq_true h57]; (try simp)
                clear h97 h48 h57 HV
                go_wp2
                go_roundg (N - (k + 1))
                case measure => omega
                case rel => exact ⟨k + 1, true, by omega, rfl, by go_num, rfl, Lib.hid (by rw [HNX.out]; rfl), HB.out⟩
              · have m4 : ¬ (c : Int) ≤ 57 := by omega
                obtain rfl : v = false := by rw [HV.out, decide_eq_false h97, decide_eq_false h57]; (try simp)
                clear h97 h48 h57 HV
                go_wp2
                go_roundg (N - (k + 1))
                case measure => omega
                case rel => exact ⟨k + 1, false, by omega, rfl, by go_num, rfl, Lib.hid (by rw [HNX.out]; rfl), HB.out⟩
            · have m3 : ¬ (48 : Int) ≤ (c : Int) := by omega
              obtain rfl : v = false := by rw [HV.out, decide_eq_false h97, decide_eq_false h48]; (try simp)
              clear h97 h48 HV
              go_wp2
              go_roundg (N - (k + 1))
              case measure => omega
              case rel => exact ⟨k + 1, false, by omega, rfl, by go_num, rfl, Lib.hid (by rw [HNX.out]; rfl), HB.out⟩
      · obtain rfl : k = N := by omega
        have HF : Hid (ok = wd x) := Lib.hid (by rw [HQ.out, HE.out, List.take_of_length_le (by rw [HN.out]; omega)])
        go_wp2
        go_ret
        exact Ret.mk (by rw [← HF.out]; rfl) (B1.out.trans (HB.out.mono B1.out.size))
  · rw [h1] at HE
    have k0 : (0 : Int) < (N : Int) := by omega
    have k1 : (N : Int) < 13 := by omega
    clear h1 HOK
    go_enter Tryz.func80, Tryz.ntmps80
    go_wp2
    clear k0
    go_loopg [3, 17] N (fun g q i wr => ∃ (k : Nat) (ok : Bool), k ≤ N ∧ g = N - k ∧ i = .int .i64 k ∧ q = .bool ok ∧ Hid (ok = (true && (x.take k).all wch)) ∧ Below w1.heap.size w1 wr)
    case atStart => exact ⟨0, _, Nat.zero_le _, rfl, rfl, rfl, Lib.hid (by simp), Below.refl _ _⟩
    case round =>
      obtain ⟨k, ok, hk, rfl, rfl, rfl, HQ, hB⟩ := hrel
      have HB := Lib.hid hB
      clear hB
      by_cases hlt : k < N
      · obtain ⟨b, hb⟩ : ∃ b, x[k]? = some b := ⟨_, List.getElem?_eq_getElem (by rw [HN.out]; exact hlt)⟩
        have d1 : wr.cell? ⟨gb, k, none⟩ = some (.int .u8 (b.toNat : Int)) := (HB.out.cell (p := ⟨gb, k, none⟩) hlt1).trans (HC.out k b hb)
        have HNX : Hid ((true && (x.take (k + 1)).all wch) = (ok && wch b)) := Lib.hid (by rw [all_step x k b hb, HQ.out, Bool.and_assoc])
        have i0 : (0 : Int) ≤ (k : Int) := by omega
        have i1 : (k : Int) < (N : Int) := by omega
        obtain ⟨c, hc⟩ : ∃ c, b.toNat = c := ⟨_, rfl⟩
        obtain ⟨v, hv⟩ : ∃ v, wch b = v := ⟨_, rfl⟩
        have HV : Hid (v = ((decide (97 ≤ c) && decide (c ≤ 122)) || (decide (48 ≤ c) && decide (c ≤ 57)))) := Lib.hid (by rw [← hv, ← hc]; rfl)
        rw [hc] at d1
        rw [hv] at HNX
        clear hb hc hv
        cases ok with
        | false =>
          go_wp2
          go_roundg (N - (k + 1))
          case measure => omega
          case rel => exact ⟨k + 1, false, by omega, rfl, by go_num, rfl, Lib.hid (by rw [HNX.out]; rfl), HB.out⟩
        | true =>
          by_cases h97 : 97 ≤ c
          · have m1 : (97 : Int) ≤ (c : Int) := by omega
            by_cases h122 : c ≤ 122
            · have m2 : (c : Int) ≤ 122 := by omega
              obtain rfl : v = true := by rw [HV.out, decide_eq_true h97, decide_eq_true h122]; (try rfl)
              clear h97 h122 HV
              go_wp2
              go_roundg (N - (k + 1))
              case measure => omega
              case rel => exact ⟨k + 1, true, by omega, rfl, by go_num, rfl, Lib.hid (by rw [HNX.out]; rfl), HB.out⟩
            · have m2 : ¬ (c : Int) ≤ 122 := by omega
              have m3 : (48 : Int) ≤ (c : Int) := by omega
              have m4 : ¬ (c : Int) ≤ 57 := by omega
              obtain rfl : v = false := by rw [HV.out, decide_eq_false h122, decide_eq_false (show ¬ c ≤ 57 by omega)]; (try simp)
              clear h97 h122 HV
              go_wp2
              go_roundg (N - (k + 1))
              case measure => omega
              case rel => exact ⟨k + 1, false, by omega, rfl, by go_num, rfl, Lib.hid (by rw [HNX.out]; rfl), HB.out⟩
          · have m1 : ¬ (97 : Int) ≤ (c : Int) := by omega
            by_cases h48 : 48 ≤ c
            · have m3 : (48 : Int) ≤ (c : Int) := by omega
              by_cases h57 : c ≤ 57
              · have m4 : (c : Int) ≤ 57 := by omega
                obtain rfl : v = true := by rw [HV.out, decide_eq_true h48, decide_eq_true h57]; (try simp)
                clear h97 h48 h57 HV
                go_wp2
                go_roundg (N - (k + 1))
                case measure => omega
                case rel => exact ⟨k + 1, true, by omega, rfl, by go_num, rfl, Lib.hid (by rw [HNX.out]; rfl), HB.out⟩
              · have m4 : ¬ (c : Int) ≤ 57 := by omega
                obtain rfl : v = false := by rw [HV.out, decide_eq_false h97, decide_eq_false h57]; (try simp)
                clear h97 h48 h57 HV
                go_wp2
                go_roundg (N - (k + 1))
                case measure => omega
                case rel => exact ⟨k + 1, false, by omega, rfl, by go_num, rfl, Lib.hid (by rw [HNX.out]; rfl), HB.out⟩
            · have m3 : ¬ (48 : Int) ≤ (c : Int) := by omega
              obtain rfl : v = false := by rw [HV.out, decide_eq_false h97, decide_eq_false h48]; (try simp)
              clear h97 h48 HV
              go_wp2
              go_roundg (N - (k + 1))
              case measure => omega
              case rel => exact ⟨k + 1, false, by omega, rfl, by go_num, rfl, Lib.hid (by rw [HNX.out]; rfl), HB.out⟩
      · obtain rfl : k = N := by omega
        have HF : Hid (ok = wd x) := Lib.hid (by rw [HQ.out, HE.out, List.take_of_length_le (by rw [HN.out]; omega)])
        go_wp2
        go_ret
        exact Ret.mk (by rw [← HF.out]; rfl) (B1.out.trans (HB.out.mono B1.out.size))
  · rw [h1] at HE
    have k0 : (0 : Int) < (N : Int) := by omega
    have k1 : ¬ (N : Int) < 13 := by omega
    clear h1 HOK
    go_enter Tryz.func80, Tryz.ntmps80
    go_wp2
    clear k0
    go_loopg [3, 17] N (fun g q i wr => ∃ (k : Nat) (ok : Bool), k ≤ N ∧ g = N - k ∧ i = .int .i64 k ∧ q = .bool ok ∧ Hid (ok = (false && (x.take k).all wch)) ∧ Below w1.heap.size w1 wr)
    case atStart => exact ⟨0, _, Nat.zero_le _, rfl, rfl, rfl, Lib.hid (by simp), Below.refl _ _⟩
    case round =>
      obtain ⟨k, ok, hk, rfl, rfl, rfl, HQ, hB⟩ := hrel
      have HB := Lib.hid hB
      clear hB
      by_cases hlt : k < N
      · obtain ⟨b, hb⟩ : ∃ b, x[k]? = some b := ⟨_, List.getElem?_eq_getElem (by rw [HN.out]; exact hlt)⟩
        have d1 : wr.cell? ⟨gb, k, none⟩ = some (.int .u8 (b.toNat : Int)) := (HB.out.cell (p := ⟨gb, k, none⟩) hlt1).trans (HC.out k b hb)
        have HNX : Hid ((false && (x.take (k + 1)).all wch) = (ok && wch b)) := Lib.hid (by rw [all_step x k b hb, HQ.out, Bool.and_assoc])
        have i0 : (0 : Int) ≤ (k : Int) := by omega
        have i1 : (k : Int) < (N : Int) := by omega
        obtain ⟨c, hc⟩ : ∃ c, b.toNat = c := ⟨_, rfl⟩
        obtain ⟨v, hv⟩ : ∃ v, wch b = v := ⟨_, rfl⟩
        have HV : Hid (v = ((decide (97 ≤ c) && decide (c ≤ 122)) || (decide (48 ≤ c) && decide (c ≤ 57)))) := Lib.hid (by rw [← hv, ← hc]; rfl)
        rw [hc] at d1
        rw [hv] at HNX
        clear hb hc hv
        cases ok with
        | false =>
          go_wp2
          go_roundg (N - (k + 1))
          case measure => omega
          case rel => exact ⟨k + 1, false, by omega, rfl, by go_num, rfl, Lib.hid (by rw [HNX.out]; rfl), HB.out⟩
        | true =>
          by_cases h97 : 97 ≤ c
          · have m1 : (97 : Int) ≤ (c : Int) := by omega
            by_cases h122 : c ≤ 122
            · have m2 : (c : Int) ≤ 122 := by omega
              obtain rfl : v = true := by rw [HV.out, decide_eq_true h97, decide_eq_true h122]; (try rfl)
              clear h97 h122 HV
              go_wp2
              go_roundg (N - (k + 1))
              case measure => omega
              case rel => exact ⟨k + 1, true, by omega, rfl, by go_num, rfl, Lib.hid (by rw [HNX.out]; rfl), HB.out⟩
            · have m2 : ¬ (c : Int) ≤ 122 := by omega
              have m3 : (48 : Int) ≤ (c : Int) := by omega
              have m4 : ¬ (c : Int) ≤ 57 := by omega
              obtain rfl : v = false := by rw [HV.out, decide_eq_false h122, decide_eq_false (show ¬ c ≤ 57 by omega)]; (try simp)
              clear h97 h122 HV
              go_wp2
              go_roundg (N - (k + 1))
              case measure => omega
              case rel => exact ⟨k + 1, false, by omega, rfl, by go_num, rfl, Lib.hid (by rw [HNX.out]; rfl), HB.out⟩
          · have m1 : ¬ (97 : Int) ≤ (c : Int) := by omega
            by_cases h48 : 48 ≤ c
            · have m3 : (48 : Int) ≤ (c : Int) := by omega
              by_cases h57 : c ≤ 57
              · have m4 : (c : Int) ≤ 57 := by omega
                obtain rfl : v = true := by rw [HV.out, decide_eq_true h48, decide_eq_true h57]; (try simp)
                clear h97 h48 h57 HV
                go_wp2
                go_roundg (N - (k + 1))
                case measure => omega
                case rel => exact ⟨k + 1, true, by omega, rfl, by go_num, rfl, Lib.hid (by rw [HNX.out]; rfl), HB.out⟩
              · have m4 : ¬ (c : Int) ≤ 57 := by omega
                obtain rfl : v = false := by rw [HV.out, decide_eq_false h97, decide_eq_false h57]; (try simp)
                clear h97 h48 h57 HV
                go_wp2
                go_roundg (N - (k + 1))
                case measure => omega
                case rel => exact ⟨k + 1, false, by omega, rfl, by go_num, rfl, Lib.hid (by rw [HNX.out]; rfl), HB.out⟩
            · have m3 : ¬ (48 : Int) ≤ (c : Int) := by omega
              obtain rfl : v = false := by rw [HV.out, decide_eq_false h97, decide_eq_false h48]; (try simp)
              clear h97 h48 HV
              go_wp2
              go_roundg (N - (k + 1))
              case measure => omega
              case rel => exact ⟨k + 1, false, by omega, rfl, by go_num, rfl, Lib.hid (by rw [HNX.out]; rfl), HB.out⟩
      · obtain rfl : k = N := by omega
        have HF : Hid (ok = wd x) := Lib.hid (by rw [HQ.out, HE.out, List.take_of_length_le (by rw [HN.out]; omega)])
        go_wp2
        go_ret
        exact Ret.mk (by rw [← HF.out]; rfl) (B1.out.trans (HB.out.mono B1.out.size))

theorem enc_step (x : By) (i : Nat) (b : UInt8) (h : x[i]? = some b) : Lib.Hx.encode (x.take (i + 1)) = Lib.Hx.encode (x.take i) ++ [Lib.Hx.digit (b.toNat / 16), Lib.Hx.digit (b.toNat % 16)] := by
  rw [List.take_add_one, h]
  simp [Lib.Hx.encode]
theorem enc_nil (x : By) (h : Lib.Hx.encode x = []) : x = [] := by
  have := Lib.Hx.encode_length x
  rw [h] at this
  exact List.eq_nil_of_length_eq_zero (by simp at this; omega)
theorem hexC_lt {d : Nat} (h : d < 16) : hexC d < 103 := by unfold hexC; split <;> omega
theorem wrap_u8 {e : Nat} (h : e < 256) : IntKind.u8.wrap (e : Int) = (e : Int) := by
  simp [IntKind.wrap, IntKind.bits, IntKind.signed]
  omega
theorem wrap_i32 {e : Nat} (h : e < 256) : IntKind.i32.wrap (e : Int) = (e : Int) := by
  simp [IntKind.wrap, IntKind.bits, IntKind.signed]
  omega

set_option maxRecDepth 100000 in
set_option maxHeartbeats 1600000 in
theorem ybytes_any (x : By) (S : ByteArray) (hS : bs x = S) (hl : x.length ≤ 67108865) (w : World) : Calls Tryz.prog 23 #[.string S] w (Ret w (.string (bs (hx x)))) := by
  obtain ⟨cb, w1, hcv, hb1, hlt1, hcell⟩ := bytes_of x S hS w
  obtain ⟨N, hN⟩ : ∃ N, x.length = N := ⟨_, rfl⟩
  have B1 := Lib.hid hb1
  have HC := Lib.hid hcell
  have HN := Lib.hid hN
  rw [hN] at hcv hl
  clear hb1 hcell hN hS
  generalize w.heap.size = gb at hcv hlt1 HC
  go_enter Tryz.func23, Tryz.ntmps23
  go_wp2
  go_loopg [3, 11] N (fun g q i wr => ∃ (k : Nat), k ≤ N ∧ g = N - k ∧ i = .int .i64 k ∧ q = .string (bs (Lib.Hx.encode (x.take k))) ∧ Below w1.heap.size w1 wr)
  case atStart => exact ⟨0, Nat.zero_le _, rfl, rfl, rfl, Below.refl _ _⟩
  case round =>
    obtain ⟨k, hk, rfl, rfl, rfl, hB⟩ := hrel
    have HB := Lib.hid hB
    clear hB
    by_cases hlt : k < N
    · obtain ⟨b, hb⟩ : ∃ b, x[k]? = some b := ⟨_, List.getElem?_eq_getElem (by rw [HN.out]; exact hlt)⟩
      have d1 : wr.cell? ⟨gb, k, none⟩ = some (.int .u8 (b.toNat : Int)) := (HB.out.cell (p := ⟨gb, k, none⟩) hlt1).trans (HC.out k b hb)
      have HNX := Lib.hid (enc_step x k b hb)
      have i0 : (0 : Int) ≤ (k : Int) := by omega
      have i1 : (k : Int) < (N : Int) := by omega
      obtain ⟨c, hc⟩ : ∃ c, b.toNat = c := ⟨_, rfl⟩
      have hc2 : c < 256 := by rw [← hc]; exact b.toNat_lt
      rw [hc] at d1 HNX
      obtain ⟨p, hp⟩ : ∃ p, c / 16 = p := ⟨_, rfl⟩
      obtain ⟨q, hq⟩ : ∃ q, c % 16 = q := ⟨_, rfl⟩
      rw [hp, hq] at HNX
      have hp16 : p < 16 := by omega
      have hq16 : q < 16 := by omega
      have v1 : (c : Int) / 16 = (p : Int) := by omega
      have v2 : (c : Int) % 16 = (q : Int) := by omega
      have v3 := wrap_u8 (show p < 256 by omega)
      have v4 := wrap_u8 (show q < 256 by omega)
      obtain ⟨E, hE⟩ : ∃ E, Lib.Hx.encode (x.take k) = E := ⟨_, rfl⟩
      have hEl : E.length ≤ 134217730 := by
        rw [← hE, Lib.Hx.encode_length, List.length_take]
        omega
      have HB2 := Lib.hid (HB.out.trans ((Below.refl wr.heap.size wr).alloc (Nat.le_refl _) (.cells #[.int .u8 (p : Int), .int .u8 (q : Int)] 5) |>.mono HB.out.size))
      have HBL := Lib.hid (Blk.new wr 5 [.int .u8 (p : Int), .int .u8 (q : Int)])
      rw [hE] at HNX ⊢
      clear hb hc hp hq hE
      go_wp2
      clear d1 v1 v2 v3 v4
      generalize wr.alloc (.cells #[.int .u8 (p : Int), .int .u8 (q : Int)] 5) = wo at HB2 HBL ⊢
      generalize wr.heap.size = gx at HBL ⊢
      have hbx := HBL.out.lt
      go_loopg [3, 21] 2 (fun g s i wl => ∃ (j : Nat), j ≤ 2 ∧ g = 2 - j ∧ i = .int .i64 j ∧ s = .string (bs (E ++ ([Lib.Hx.digit p, Lib.Hx.digit q].take j))) ∧ Below wo.heap.size wo wl)
      case atStart => exact ⟨0, by omega, rfl, rfl, by simp, Below.refl _ _⟩
      case round =>
        obtain ⟨j, hj, rfl, rfl, rfl, hC⟩ := hrel
        have HD := Lib.hid hC
        clear hC
        by_cases hlj : j < 2
        · obtain ⟨d, hd, hd16, hdt⟩ : ∃ d : Nat, wr.cell? ⟨gx, j, none⟩ = some (.int .u8 (d : Int)) ∧ d < 16 ∧ [Lib.Hx.digit p, Lib.Hx.digit q].take (j + 1) = [Lib.Hx.digit p, Lib.Hx.digit q].take j ++ [Lib.Hx.digit d] := by
            rcases (by omega : j = 0 ∨ j = 1) with rfl | rfl
            · exact ⟨p, (HD.out.cell (p := ⟨gx, 0, none⟩) hbx).trans (HBL.out.cell (k := 0) rfl), hp16, rfl⟩
            · exact ⟨q, (HD.out.cell (p := ⟨gx, 1, none⟩) hbx).trans (HBL.out.cell (k := 1) rfl), hq16, rfl⟩
          have HT : Hid (bs (E ++ ([Lib.Hx.digit p, Lib.Hx.digit q].take j)) ++ bs [Lib.Hx.digit d] = bs (E ++ ([Lib.Hx.digit p, Lib.Hx.digit q].take (j + 1)))) := Lib.hid (by rw [bs_cat, hdt, List.append_assoc])
          have r1 := fun W => rune_one d hd16 W
          have z1 : (bs (E ++ ([Lib.Hx.digit p, Lib.Hx.digit q].take j))).size + (bs [Lib.Hx.digit d]).size ≤ 9223372036854775807 := by
            rw [bs_size, bs_size]
            simp
            omega
          have hlt3 := hexC_lt hd16
          obtain ⟨e, he⟩ : ∃ e, hexC d = e := ⟨_, rfl⟩
          have HEE := Lib.hid he
          rw [he] at r1 hlt3
          have v5 := wrap_u8 (show e < 256 by omega)
          have v6 := wrap_i32 (show e < 256 by omega)
          have i2 : (0 : Int) ≤ (j : Int) := by omega
          have i3 : (j : Int) < 2 := by omega
          clear hdt he
          generalize bs (E ++ ([Lib.Hx.digit p, Lib.Hx.digit q].take j)) = S1 at HT z1 ⊢
          by_cases hd10 : d < 10
          · have i4 : (d : Int) < 10 := by omega
            have v7 : (48 : Int) + (d : Int) = (e : Int) := by have := HEE.out; unfold hexC at this; rw [if_pos hd10] at this; omega
            go_wp2
            go_roundg (2 - (j + 1))
            case measure => omega
            case rel => exact ⟨j + 1, by omega, rfl, by go_num, by rw [HT.out], HD.out⟩
          · have i4 : ¬ (d : Int) < 10 := by omega
            obtain ⟨f, hf⟩ : ∃ f : Nat, f = 97 + d := ⟨_, rfl⟩
            have v7 : (97 : Int) + (d : Int) = (f : Int) := by omega
            have v8 : (f : Int) - 10 = (e : Int) := by have := HEE.out; unfold hexC at this; rw [if_neg hd10] at this; omega
            have v9 := wrap_u8 (show f < 256 by omega)
            clear hf
            go_wp2
            go_roundg (2 - (j + 1))
            case measure => omega
            case rel => exact ⟨j + 1, by omega, rfl, by go_num, by rw [HT.out], HD.out⟩
        · obtain rfl : j = 2 := by omega
          have HT : Hid (bs (E ++ ([Lib.Hx.digit p, Lib.Hx.digit q].take 2)) = bs (Lib.Hx.encode (x.take (k + 1)))) := Lib.hid (by rw [HNX.out]; rfl)
          go_wp2
          go_roundg (N - (k + 1))
          case measure => omega
          case rel => exact ⟨k + 1, by omega, rfl, by go_num, by rw [HT.out], HB2.out.trans (HD.out.mono HB2.out.size)⟩
    · obtain rfl : k = N := by omega
      have htk : x.take k = x := List.take_of_length_le (by rw [HN.out]; omega)
      rw [htk]
      by_cases he : x = []
      · have z1 : (bs (Lib.Hx.encode x)).toList.isEmpty = true := by rw [bs_toList, he]; rfl
        have HX : Hid (bs (hx x) = ⟨#[45]⟩) := Lib.hid (by unfold hx; rw [if_pos he]; rfl)
        clear he
        go_wp2
        go_ret
        exact Ret.mk (by rw [HX.out]; rfl) (B1.out.trans (HB.out.mono B1.out.size))
      · have z1 : (bs (Lib.Hx.encode x)).toList.isEmpty = false := by
          rw [bs_toList]
          cases h : Lib.Hx.encode x with
          | nil => exact absurd (enc_nil x h) he
          | cons _ _ => rfl
        have HX : Hid (bs (hx x) = bs (Lib.Hx.encode x)) := Lib.hid (by unfold hx; rw [if_neg he])
        clear he
        go_wp2
        go_ret
        exact Ret.mk (by rw [HX.out]; rfl) (B1.out.trans (HB.out.mono B1.out.size))
end Bn
end Go.Proofs.YtccpkkopniadiaaGreatDoor
