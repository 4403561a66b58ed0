/-
  Walks of the mending, and of the reference's. Conditions: none.
-/
import Derived.Test.YtljdfkejhgaciabEccW2
namespace Go.Proofs.Ytljdfkejhgaciab
open Go.RowKit
namespace Ecc

def mval (r : Nat × Nat × Nat × Nat) : Value := .tuple #[.int .u64 (r.1 : Int), .int .u8 (r.2.1 : Int), .int .i64 (r.2.2.1 : Int), .int .i64 (r.2.2.2 : Int)]
theorem mval_eq {r r' : Nat × Nat × Nat × Nat} (h : r = r') : mval r = mval r' := by rw [h]
theorem shl_small : ∀ q : Nat, q < 8 → ((2 : Int) ^ q) % 256 = ((2 ^ q : Nat) : Int) := by decide
theorem shl_big : ∀ q : Nat, q < 64 → IntKind.u64.wrap ((2 : Int) ^ q) = ((2 ^ q : Nat) : Int) := by decide +kernel
/-- what is yet to be tried: the check bits from i on, and the word's from k on, in either order -/
def bitsC (d c i : Nat) (r : Nat × Nat × Nat × Nat) : Nat × Nat × Nat × Nat := match firstN (fun i => checkN d == c ^^^ 2 ^ i) (8 - i) i with
  | some i => (d, c ^^^ 2 ^ i, 1, 0)
  | none => r
def bitsD (d c k : Nat) (r : Nat × Nat × Nat × Nat) : Nat × Nat × Nat × Nat := match firstN (fun k => checkN (d ^^^ 2 ^ k) == c) (64 - k) k with
  | some k => (d ^^^ 2 ^ k, c, 1, 0)
  | none => r
theorem bitsC_hit {d c i : Nat} {r} (hi : i < 8) (h : checkN d = c ^^^ 2 ^ i) : bitsC d c i r = (d, c ^^^ 2 ^ i, 1, 0) := by
  unfold bitsC
  rw [show 8 - i = (7 - i) + 1 by omega, firstN, if_pos (by simpa using h)]
theorem bitsC_miss {d c i : Nat} {r} (hi : i < 8) (h : checkN d ≠ c ^^^ 2 ^ i) : bitsC d c i r = bitsC d c (i + 1) r := by
  unfold bitsC
  rw [show 8 - i = (7 - i) + 1 by omega, firstN, if_neg (by simpa using h), show 7 - i = 8 - (i + 1) by omega]
theorem bitsC_end {d c : Nat} {r} : bitsC d c 8 r = r := rfl
theorem bitsD_hit {d c i : Nat} {r} (hi : i < 64) (h : checkN (d ^^^ 2 ^ i) = c) : bitsD d c i r = (d ^^^ 2 ^ i, c, 1, 0) := by
  unfold bitsD
  rw [show 64 - i = (63 - i) + 1 by omega, firstN, if_pos (by simpa using h)]
theorem bitsD_miss {d c i : Nat} {r} (hi : i < 64) (h : checkN (d ^^^ 2 ^ i) ≠ c) : bitsD d c i r = bitsD d c (i + 1) r := by
  unfold bitsD
  rw [show 64 - i = (63 - i) + 1 by omega, firstN, if_neg (by simpa using h), show 63 - i = 64 - (i + 1) by omega]
theorem bitsD_end {d c : Nat} {r} : bitsD d c 64 r = r := rfl
theorem mendA_eq (d c : Nat) : mendA d c = if checkN d = c then (d, c, 0, 0) else bitsC d c 0 (bitsD d c 0 (0, 0, 0, 7)) := rfl
theorem mendB_eq (d c : Nat) : mendA d c = if checkN d = c then (d, c, 0, 0) else bitsD d c 0 (bitsC d c 0 (0, 0, 0, 7)) := by rw [mend_eq]; rfl

set_option maxHeartbeats 1000000 in
theorem mend_any (d c : Nat) (hd : d < 18446744073709551616) (hc : c < 256) (w : World) : Calls Try.prog 31 #[.int .u64 (d : Int), .int .u8 (c : Int)] w (Ret w (mval (mendA d c))) := by
  by_cases h0 : checkN d = c
  · have HE : Hid (mendA d c = (d, c, 0, 0)) := Lib.hid (by rw [mendA_eq, if_pos h0])
    have cK := Lib.hid (fun W => check_any d hd W)
    rw [h0] at cK
    clear h0
    go_enter Try.func31, Try.ntmps31
    go_wp2_with fail
    refine (cK.out _).mono ?_; rintro e w1 ⟨rfl, hb1⟩
    go_wp2
    refine bodyPost_ret (v := mval (d, c, 0, 0)) (by simp [results, Try.results31, mval]) rfl ?_
    exact Ret.mk (mval_eq HE.out.symm) hb1
  · have HM := Lib.hid ((mendA_eq d c).trans (if_neg h0))
    have ht : ((checkN d : Int) == (c : Int)) = false := by simp; omega
    go_enter Try.func31, Try.ntmps31
    go_wp2_with fail
    refine (check_any d hd _).mono ?_; rintro e w1 ⟨rfl, hb1⟩
    go_wp2_with fail
    go_loopg [18] 8 (fun g i wr => ∃ k : Nat, k ≤ 8 ∧ g = 8 - k ∧ i = .int .i64 k ∧ Hid (mendA d c = bitsC d c k (bitsD d c 0 (0, 0, 0, 7))) ∧ Below w.heap.size w wr)
    case atStart => exact ⟨0, by omega, rfl, rfl, HM, hb1⟩
    case round =>
      obtain ⟨k, hk, rfl, rfl, HM, hB⟩ := hrel
      by_cases hlt : k < 8
      · have hp : 2 ^ k ≤ 128 := Nat.le_trans (Nat.pow_le_pow_right (by omega) (show k ≤ 7 by omega)) (by decide)
        have e1p := shl_small k hlt
        have e2 := u8_xor_nat c (2 ^ k) hc (by omega)
        have hxl : c ^^^ 2 ^ k < 256 := Nat.xor_lt_two_pow (n := 8) hc (by omega)
        have cK := Lib.hid (fun W => check_any d hd W)
        by_cases hh : checkN d = c ^^^ 2 ^ k
        · have HE : Hid (mendA d c = (d, c ^^^ 2 ^ k, 1, 0)) := Lib.hid (HM.out.trans (bitsC_hit hlt hh))
          rw [hh] at cK
          generalize c ^^^ 2 ^ k = x at e2 hxl HE cK
          generalize 2 ^ k = p at e1p e2 hp
          clear hh HM
          go_wp2_with fail
          refine (cK.out _).mono ?_; rintro e w2 ⟨rfl, hb2⟩
          go_wp2
          refine bodyPost_ret (v := mval (d, x, 1, 0)) (by simp [results, Try.results31, mval]) rfl ?_
          exact Ret.mk (mval_eq HE.out.symm) (hB.trans (hb2.mono hB.size))
        · have HN := Lib.hid (HM.out.trans (bitsC_miss hlt hh))
          have ht : ((checkN d : Int) == ((c ^^^ 2 ^ k : Nat) : Int)) = false := by simp; omega
          generalize c ^^^ 2 ^ k = x at e2 hxl ht
          generalize 2 ^ k = p at e1p e2 hp
          clear hh HM
          go_wp2_with fail
          refine (cK.out _).mono ?_; rintro e w2 ⟨rfl, hb2⟩
          go_wp2
          go_roundg (8 - (k + 1))
          case measure => omega
          case rel => exact ⟨k + 1, by omega, rfl, by go_num, HN, hB.trans (hb2.mono hB.size)⟩
      · obtain rfl : k = 8 := by omega
        have HM := Lib.hid (HM.out.trans bitsC_end)
        clear hlt hk
        obtain ⟨wo, rfl⟩ : ∃ wo : World, wo = wr := ⟨_, rfl⟩
        go_wp2
        go_loopg [32] 64 (fun g i wr => ∃ k : Nat, k ≤ 64 ∧ g = 64 - k ∧ i = .int .i64 k ∧ Hid (mendA d c = bitsD d c k (0, 0, 0, 7)) ∧ Below w.heap.size w wr)
        case atStart => exact ⟨0, by omega, rfl, rfl, HM, hB⟩
        case round =>
          obtain ⟨k, hk, rfl, rfl, HM, hB⟩ := hrel
          by_cases hlt : k < 64
          · have hp : 2 ^ k < 18446744073709551616 := Nat.lt_of_lt_of_le (Nat.pow_lt_pow_right (by omega) hlt) (by decide)
            have e1p := shl_big k hlt
            have e2 := u64_xor_nat d (2 ^ k) hd hp
            have hxl : d ^^^ 2 ^ k < 18446744073709551616 := Nat.xor_lt_two_pow (n := 64) hd hp
            have cK := Lib.hid (fun W => check_any (d ^^^ 2 ^ k) hxl W)
            by_cases hh : checkN (d ^^^ 2 ^ k) = c
            · have HE : Hid (mendA d c = (d ^^^ 2 ^ k, c, 1, 0)) := Lib.hid (HM.out.trans (bitsD_hit hlt hh))
              rw [hh] at cK
              generalize d ^^^ 2 ^ k = x at e2 hxl HE cK
              generalize 2 ^ k = p at e1p e2 hp
              clear hh HM
              go_wp2_with fail
              refine (cK.out _).mono ?_; rintro e w2 ⟨rfl, hb2⟩
              go_wp2
              refine bodyPost_ret (v := mval (x, c, 1, 0)) (by simp [results, Try.results31, mval]) rfl ?_
              exact Ret.mk (mval_eq HE.out.symm) (hB.trans (hb2.mono hB.size))
            · have HN := Lib.hid (HM.out.trans (bitsD_miss hlt hh))
              have ht : ((checkN (d ^^^ 2 ^ k) : Int) == (c : Int)) = false := by simp; omega
              generalize checkN (d ^^^ 2 ^ k) = y at cK ht
              generalize d ^^^ 2 ^ k = x at e2 hxl cK
              generalize 2 ^ k = p at e1p e2 hp
              clear hh HM
              go_wp2_with fail
              refine (cK.out _).mono ?_; rintro e w2 ⟨rfl, hb2⟩
              go_wp2
              go_roundg (64 - (k + 1))
              case measure => omega
              case rel => exact ⟨k + 1, by omega, rfl, by go_num, HN, hB.trans (hb2.mono hB.size)⟩
          · obtain rfl : k = 64 := by omega
            have HE := Lib.hid (HM.out.trans bitsD_end)
            clear hlt hk
            go_wp2
            refine bodyPost_ret (v := mval (0, 0, 0, 7)) (by simp [results, Try.results31, mval]) rfl ?_
            exact Ret.mk (mval_eq HE.out.symm) hB

set_option maxHeartbeats 1000000 in
theorem amend_any (d c : Nat) (hd : d < 18446744073709551616) (hc : c < 256) (w : World) : Calls Try.prog 32 #[.int .u64 (d : Int), .int .u8 (c : Int)] w (Ret w (mval (mendA d c))) := by
  by_cases h0 : checkN d = c
  · have HE : Hid (mendA d c = (d, c, 0, 0)) := Lib.hid (by rw [mendB_eq, if_pos h0])
    have cK := Lib.hid (fun W => acheck_any d hd W)
    rw [h0] at cK
    clear h0
    go_enter Try.func32, Try.ntmps32
    go_wp2_with fail
    refine (cK.out _).mono ?_; rintro e w1 ⟨rfl, hb1⟩
    go_wp2
    refine bodyPost_ret (v := mval (d, c, 0, 0)) (by simp [results, Try.results32, mval]) rfl ?_
    exact Ret.mk (mval_eq HE.out.symm) hb1
  · have HM := Lib.hid ((mendB_eq d c).trans (if_neg h0))
    have ht : ((checkN d : Int) == (c : Int)) = false := by simp; omega
    go_enter Try.func32, Try.ntmps32
    go_wp2_with fail
    refine (acheck_any d hd _).mono ?_; rintro e w1 ⟨rfl, hb1⟩
    go_wp2_with fail
    go_loopg [18] 64 (fun g i wr => ∃ k : Nat, k ≤ 64 ∧ g = 64 - k ∧ i = .int .i64 k ∧ Hid (mendA d c = bitsD d c k (bitsC d c 0 (0, 0, 0, 7))) ∧ Below w.heap.size w wr)
    case atStart => exact ⟨0, by omega, rfl, rfl, HM, hb1⟩
    case round =>
      obtain ⟨k, hk, rfl, rfl, HM, hB⟩ := hrel
      by_cases hlt : k < 64
      · have hp : 2 ^ k < 18446744073709551616 := Nat.lt_of_lt_of_le (Nat.pow_lt_pow_right (by omega) hlt) (by decide)
        have e1p := shl_big k hlt
        have e2 := u64_xor_nat d (2 ^ k) hd hp
        have hxl : d ^^^ 2 ^ k < 18446744073709551616 := Nat.xor_lt_two_pow (n := 64) hd hp
        have cK := Lib.hid (fun W => acheck_any (d ^^^ 2 ^ k) hxl W)
        by_cases hh : checkN (d ^^^ 2 ^ k) = c
        · have HE : Hid (mendA d c = (d ^^^ 2 ^ k, c, 1, 0)) := Lib.hid (HM.out.trans (bitsD_hit hlt hh))
          rw [hh] at cK
          generalize d ^^^ 2 ^ k = x at e2 hxl HE cK
          generalize 2 ^ k = p at e1p e2 hp
          clear hh HM
          go_wp2_with fail
          refine (cK.out _).mono ?_; rintro e w2 ⟨rfl, hb2⟩
          go_wp2
          refine bodyPost_ret (v := mval (x, c, 1, 0)) (by simp [results, Try.results32, mval]) rfl ?_
          exact Ret.mk (mval_eq HE.out.symm) (hB.trans (hb2.mono hB.size))
        · have HN := Lib.hid (HM.out.trans (bitsD_miss hlt hh))
          have ht : ((checkN (d ^^^ 2 ^ k) : Int) == (c : Int)) = false := by simp; omega
          generalize checkN (d ^^^ 2 ^ k) = y at cK ht
          generalize d ^^^ 2 ^ k = x at e2 hxl cK
          generalize 2 ^ k = p at e1p e2 hp
          clear hh HM
          go_wp2_with fail
          refine (cK.out _).mono ?_; rintro e w2 ⟨rfl, hb2⟩
          go_wp2
          go_roundg (64 - (k + 1))
          case measure => omega
          case rel => exact ⟨k + 1, by omega, rfl, by go_num, HN, hB.trans (hb2.mono hB.size)⟩
      · obtain rfl : k = 64 := by omega
        have HM := Lib.hid (HM.out.trans bitsD_end)
        clear hlt hk
        obtain ⟨wo, rfl⟩ : ∃ wo : World, wo = wr := ⟨_, rfl⟩
        go_wp2
        go_loopg [32] 8 (fun g i wr => ∃ k : Nat, k ≤ 8 ∧ g = 8 - k ∧ i = .int .i64 k ∧ Hid (mendA d c = bitsC d c k (0, 0, 0, 7)) ∧ Below w.heap.size w wr)
        case atStart => exact ⟨0, by omega, rfl, rfl, HM, hB⟩
        case round =>
          obtain ⟨k, hk, rfl, rfl, HM, hB⟩ := hrel
          by_cases hlt : k < 8
          · have hp : 2 ^ k ≤ 128 := Nat.le_trans (Nat.pow_le_pow_right (by omega) (show k ≤ 7 by omega)) (by decide)
            have e1p := shl_small k hlt
            have e2 := u8_xor_nat c (2 ^ k) hc (by omega)
            have hxl : c ^^^ 2 ^ k < 256 := Nat.xor_lt_two_pow (n := 8) hc (by omega)
            have cK := Lib.hid (fun W => acheck_any d hd W)
            by_cases hh : checkN d = c ^^^ 2 ^ k
            · have HE : Hid (mendA d c = (d, c ^^^ 2 ^ k, 1, 0)) := Lib.hid (HM.out.trans (bitsC_hit hlt hh))
              rw [hh] at cK
              generalize c ^^^ 2 ^ k = x at e2 hxl HE cK
              generalize 2 ^ k = p at e1p e2 hp
              clear hh HM
              go_wp2_with fail
              refine (cK.out _).mono ?_; rintro e w2 ⟨rfl, hb2⟩
              go_wp2
              refine bodyPost_ret (v := mval (d, x, 1, 0)) (by simp [results, Try.results32, mval]) rfl ?_
              exact Ret.mk (mval_eq HE.out.symm) (hB.trans (hb2.mono hB.size))
            · have HN := Lib.hid (HM.out.trans (bitsC_miss hlt hh))
              have ht : ((checkN d : Int) == ((c ^^^ 2 ^ k : Nat) : Int)) = false := by simp; omega
              generalize c ^^^ 2 ^ k = x at e2 hxl ht
              generalize 2 ^ k = p at e1p e2 hp
              clear hh HM
              go_wp2_with fail
              refine (cK.out _).mono ?_; rintro e w2 ⟨rfl, hb2⟩
              go_wp2
              go_roundg (8 - (k + 1))
              case measure => omega
              case rel => exact ⟨k + 1, by omega, rfl, by go_num, HN, hB.trans (hb2.mono hB.size)⟩
          · obtain rfl : k = 8 := by omega
            have HE := Lib.hid (HM.out.trans bitsC_end)
            clear hlt hk
            go_wp2
            refine bodyPost_ret (v := mval (0, 0, 0, 7)) (by simp [results, Try.results32, mval]) rfl ?_
            exact Ret.mk (mval_eq HE.out.symm) hB
end Ecc
end Go.Proofs.Ytljdfkejhgaciab
