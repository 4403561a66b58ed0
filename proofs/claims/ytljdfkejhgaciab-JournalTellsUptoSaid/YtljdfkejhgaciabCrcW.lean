/-
  Walks of crc.Sum and of the reference's BSum.
-/
import Derived.Test.YtljdfkejhgaciabStr
import Derived.Test.YtljdfkejhgaciabCrcM
import Derived.IntWalk
import Derived.Test.YtljdfkejhgaciabBits
namespace Go.Proofs.Ytljdfkejhgaciab
open Go.RowKit
namespace Crc

theorem drop_at {α : Type} {l : List α} {k : Nat} {x : α} (h : l[k]? = some x) : l.drop k = x :: l.drop (k + 1) := by
  obtain ⟨hk, rfl⟩ := List.getElem?_eq_some_iff.1 h
  exact List.drop_eq_getElem_cons hk

set_option maxHeartbeats 800000 in
theorem sum_any (s : Nat) (A : Option Addr) (n c : Nat) (l : List Nat) (w : World) (hs : s < 65536) (hr : Rd w w.heap.size 1 A n (l.flatMap bcell)) (hl : l.length = n) (hn : n ≤ 9223372036854775807) (hb : ∀ x ∈ l, x < 256) :
    Calls Try.prog 13 #[.int .u16 (s : Int), .slice A n c] w (Ret w (.int .u16 (sumS s l : Int))) := by
  have HR := Lib.hid hr
  have HL := Lib.hid hl
  have HB := Lib.hid hb
  clear hr hl hb
  go_enter Try.func13, Try.ntmps13
  go_wp2
  go_loopg [0, 10] n (fun g v i wr => ∃ k x : Nat, k ≤ n ∧ g = n - k ∧ i = .int .i64 k ∧ v = .int .u16 (x : Int) ∧ x < 65536 ∧ Hid (sumS s l = sumS x (l.drop k)) ∧ Below w.heap.size w wr)
  case atStart => exact ⟨0, s, Nat.zero_le _, rfl, rfl, rfl, hs, Lib.hid rfl, Below.refl _ _⟩
  case round =>
    obtain ⟨k, x, hk, rfl, rfl, rfl, hx, HM, hB⟩ := hrel
    by_cases hlt : k < n
    · have hn0 : 0 < n := by omega
      obtain ⟨b, off, rfl, hb, hc⟩ := HR.out.at_ bcell_len hn0
      obtain ⟨y, hy⟩ : ∃ y, l[k]? = some y := ⟨_, List.getElem?_eq_getElem (by rw [HL.out]; exact hlt)⟩
      have c0 : wr.cell? ⟨b, off + k, none⟩ = some (.int .u8 (y : Int)) := (hB.cell hb).trans (by have := hc k 0 y _ hy rfl; simpa using this)
      have hy8 : y < 256 := HB.out y (List.mem_of_getElem? hy)
      have HY := Lib.hid (drop_at hy)
      clear hc hy
      have ex : bits .xor .u16 (x : Int) ((y : Int) * 256) = ((x ^^^ (y * 256) : Nat) : Int) := by
        have := u16_xor_nat x (y * 256) hx (by omega)
        rwa [show ((y * 256 : Nat) : Int) = (y : Int) * 256 by omega] at this
      have hx0 : x ^^^ (y * 256) < 65536 := xor_lt hx (by omega)
      have HZ : Hid (byteS x y = iterS 8 (x ^^^ (y * 256))) := Lib.hid rfl
      generalize x ^^^ (y * 256) = z0 at ex hx0 HZ
      obtain ⟨wo, rfl⟩ : ∃ wo : World, wo = wr := ⟨_, rfl⟩
      go_wp2
      go_loopg [0, 19] 8 (fun g v i wi => ∃ j z : Nat, j ≤ 8 ∧ g = 8 - j ∧ i = .int .i64 j ∧ v = .int .u16 (z : Int) ∧ z < 65536 ∧ Hid (byteS x y = iterS (8 - j) z) ∧ Below w.heap.size w wi)
      case atStart => exact ⟨0, z0, by omega, rfl, rfl, rfl, hx0, HZ, hB⟩
      case round =>
        obtain ⟨j, z, hj, rfl, rfl, rfl, hz, HJ, hBi⟩ := hrel
        clear ex
        by_cases hj8 : j < 8
        · have hst : Hid (byteS x y = iterS (8 - (j + 1)) (stepS z)) := Lib.hid (by rw [HJ.out, show 8 - j = (8 - (j + 1)) + 1 by omega, iterS])
          by_cases ht : z / 32768 = 1
          · have ht' : (((z : Int) / 32768) == 1) = true := by simp; omega
            obtain ⟨q, hq⟩ : ∃ q, q = z * 2 % 65536 := ⟨_, rfl⟩
            have ew : IntKind.u16.wrap ((z : Int) * 2) = (q : Int) := by rw [IntKind.wrap_u16]; omega
            have e2 : bits .xor .u16 (q : Int) 4129 = ((q ^^^ 4129 : Nat) : Int) := u16_xor_nat q 4129 (by omega) (by omega)
            obtain ⟨r, hr⟩ : ∃ r, r = q ^^^ 4129 := ⟨_, rfl⟩
            rw [← hr] at e2
            have e1 : Hid (stepS z = r) := Lib.hid (by rw [stepS, if_pos ht, hr, hq])
            clear ht hq hr
            go_wp2
            go_roundg (8 - (j + 1))
            case measure => omega
            case rel => exact ⟨j + 1, stepS z, by omega, rfl, by go_num, int_eq (by rw [e1.out]), stepS_lt _, hst, hBi⟩
          · have ht' : (((z : Int) / 32768) == 1) = false := by simp; omega
            obtain ⟨q, hq⟩ : ∃ q, q = z * 2 % 65536 := ⟨_, rfl⟩
            have ew : IntKind.u16.wrap ((z : Int) * 2) = (q : Int) := by rw [IntKind.wrap_u16]; omega
            have e1 : Hid (stepS z = q) := Lib.hid (by rw [stepS, if_neg ht, hq])
            clear ht hq
            go_wp2
            go_roundg (8 - (j + 1))
            case measure => omega
            case rel => exact ⟨j + 1, stepS z, by omega, rfl, by go_num, int_eq (by rw [e1.out]), stepS_lt _, hst, hBi⟩
        · obtain rfl : j = 8 := by omega
          have HF : Hid (sumS s l = sumS z (l.drop (k + 1))) := Lib.hid (by rw [HM.out, HY.out, sumS, HJ.out]; rfl)
          go_wp2
          go_roundg (n - (k + 1))
          case measure => omega
          case rel => exact ⟨k + 1, z, by omega, rfl, by go_num, rfl, hz, HF, hBi⟩
    · go_wp2
      go_ret
      exact Ret.mk (int_eq (by rw [HM.out, List.drop_eq_nil_of_le (by rw [HL.out]; omega)]; rfl)) hB

set_option maxHeartbeats 800000 in
theorem bsum_any (s : Nat) (A : Option Addr) (n c : Nat) (l : List Nat) (w : World) (hs : s < 65536) (hr : Rd w w.heap.size 1 A n (l.flatMap bcell)) (hl : l.length = n) (hn : n ≤ 9223372036854775807) (hb : ∀ x ∈ l, x < 256) :
    Calls Try.prog 14 #[.int .u16 (s : Int), .slice A n c] w (Ret w (.int .u16 (sumB s l : Int))) := by
  have HR := Lib.hid hr
  have HL := Lib.hid hl
  have HB := Lib.hid hb
  clear hr hl hb
  go_enter Try.func14, Try.ntmps14
  go_wp2
  go_loopg [5, 15] n (fun g v i wr => ∃ k x : Nat, k ≤ n ∧ g = n - k ∧ i = .int .i64 k ∧ v = .int .i64 (x : Int) ∧ x < 65536 ∧ Hid (sumB s l = sumB x (l.drop k)) ∧ Below w.heap.size w wr)
  case atStart => exact ⟨0, s, Nat.zero_le _, rfl, rfl, rfl, hs, Lib.hid rfl, Below.refl _ _⟩
  case round =>
    obtain ⟨k, x, hk, rfl, rfl, rfl, hx, HM, hB⟩ := hrel
    by_cases hlt : k < n
    · have hn0 : 0 < n := by omega
      obtain ⟨b, off, rfl, hb, hc⟩ := HR.out.at_ bcell_len hn0
      obtain ⟨y, hy⟩ : ∃ y, l[k]? = some y := ⟨_, List.getElem?_eq_getElem (by rw [HL.out]; exact hlt)⟩
      have c0 : wr.cell? ⟨b, off + k, none⟩ = some (.int .u8 (y : Int)) := (hB.cell hb).trans (by have := hc k 0 y _ hy rfl; simpa using this)
      have hy8 : y < 256 := HB.out y (List.mem_of_getElem? hy)
      have HY := Lib.hid (drop_at hy)
      clear hc hy
      obtain ⟨wo, rfl⟩ : ∃ wo : World, wo = wr := ⟨_, rfl⟩
      go_wp2
      go_loopg [5, 8] 8 (fun g v i wi => g ≤ 8 ∧ i = .int .i64 ((g : Int) - 1) ∧ ∃ z : Nat, v = .int .i64 (z : Int) ∧ z < 65536 ∧ Hid (byteB x y = iterB y g z) ∧ Below w.heap.size w wi)
      case atStart => exact ⟨by omega, rfl, x, rfl, hx, Lib.hid rfl, hB⟩
      case round =>
        obtain ⟨hj, rfl, z, rfl, hz, HJ, hBi⟩ := hrel
        by_cases hj0 : 0 < gk
        · obtain ⟨bt, hbt⟩ : ∃ bt, bt = y / 2 ^ (gk - 1) % 2 := ⟨_, rfl⟩
          have eb : bits .and .i64 ((y : Int) / 2 ^ (gk - 1)) 1 = (bt : Int) := by rw [i64_and1, hbt]; push_cast; rfl
          have hst : Hid (byteB x y = iterB y (gk - 1) (stepB z bt)) := Lib.hid (by
            rw [HJ.out, hbt]
            obtain ⟨j, rfl⟩ : ∃ j, gk = j + 1 := ⟨gk - 1, by omega⟩
            rw [iterB]
            rfl)
          clear hbt
          by_cases ht : z / 32768 = bt
          · have ht' : (((z : Int) / 32768) != (bt : Int)) = false := by simp; omega
            have e1 : Hid (((stepB z bt : Nat) : Int) = (z : Int) * 2 % 65536) := Lib.hid (by rw [stepB, if_neg (by omega)]; omega)
            clear ht
            go_wp2
            go_roundg (gk - 1)
            case measure => omega
            case rel => exact ⟨by omega, int_eq (by omega), stepB z bt, int_eq (by rw [e1.out]), stepB_lt _ _, hst, hBi⟩
          · have ht' : (((z : Int) / 32768) != (bt : Int)) = true := by simp; omega
            obtain ⟨q, hq⟩ : ∃ q, q = z * 2 % 65536 := ⟨_, rfl⟩
            have e2 : bits .xor .i64 ((z : Int) * 2 % 65536) 4129 = ((q ^^^ 4129 : Nat) : Int) := by
              have := i64_xor_nat q 4129 (by omega) (by omega)
              rw [← this, hq]
              congr 1
            obtain ⟨r, hr⟩ : ∃ r, r = q ^^^ 4129 := ⟨_, rfl⟩
            rw [← hr] at e2
            have e1 : Hid (stepB z bt = r) := Lib.hid (by rw [stepB, if_pos ht, hr, hq])
            clear ht hq hr
            go_wp2
            go_roundg (gk - 1)
            case measure => omega
            case rel => exact ⟨by omega, int_eq (by omega), stepB z bt, int_eq (by rw [e1.out]), stepB_lt _ _, hst, hBi⟩
        · obtain rfl : gk = 0 := by omega
          have HF : Hid (sumB s l = sumB z (l.drop (k + 1))) := Lib.hid (by rw [HM.out, HY.out, sumB, HJ.out]; rfl)
          go_wp2
          go_roundg (n - (k + 1))
          case measure => omega
          case rel => exact ⟨k + 1, z, by omega, rfl, by go_num, rfl, hz, HF, hBi⟩
    · go_wp2
      go_ret
      exact Ret.mk (int_eq (by rw [HM.out, List.drop_eq_nil_of_le (by rw [HL.out]; omega)]; rfl)) hB
end Crc
end Go.Proofs.Ytljdfkejhgaciab
