/-
  Walks of the mending and of the reference's check. Conditions: none.
-/
import Derived.Test.YtljdfkejhgaciabEccW
namespace Go.Proofs.Ytljdfkejhgaciab
open Go.RowKit
namespace Ecc

def prv (k : Nat) : Nat := nxt k - 1
theorem prv_or (k : Nat) (hk : k < 64) : prv k + 1 = pos k ∨ (prv k + 2 = pos k ∧ (prv k = 3 ∨ prv k = 7 ∨ prv k = 15 ∨ prv k = 31 ∨ prv k = 63)) := by
  have : ∀ k : Fin 64, prv k.val + 1 = pos k.val ∨ (prv k.val + 2 = pos k.val ∧ (prv k.val = 3 ∨ prv k.val = 7 ∨ prv k.val = 15 ∨ prv k.val = 31 ∨ prv k.val = 63)) := by decide +kernel
  exact this ⟨k, hk⟩
theorem prv_next (k : Nat) : prv (k + 1) = pos k := by simp [prv, nxt]
theorem pos_not (k : Nat) (hk : k < 64) : ((pos k : Int) == 4) = false ∧ ((pos k : Int) == 8) = false ∧ ((pos k : Int) == 16) = false ∧ ((pos k : Int) == 32) = false ∧ ((pos k : Int) == 64) = false := by
  have : ∀ k : Fin 64, ((pos k.val : Int) == 4) = false ∧ ((pos k.val : Int) == 8) = false ∧ ((pos k.val : Int) == 16) = false ∧ ((pos k.val : Int) == 32) = false ∧ ((pos k.val : Int) == 64) = false := by decide +kernel
  exact this ⟨k, hk⟩

set_option maxHeartbeats 4000000 in
theorem acheck_any (d : Nat) (hd : d < 18446744073709551616) (w : World) : Calls Try.prog 34 #[.int .u64 (d : Int)] w (Ret w (.int .u8 (checkN d : Int))) := by
  go_enter Try.func34, Try.ntmps34
  go_wp2
  go_loopg [0, 3, 4, 5, 7] 64 (fun g q c o p i wr => ∃ k q' : Nat, k ≤ 64 ∧ g = 64 - k ∧ i = .int .i64 k ∧ q = .int .u64 (q' : Int) ∧ q' < 18446744073709551616 ∧ Hid (q' = d / 2 ^ k) ∧ c = .int .i64 (xorN k d : Int) ∧ o = .int .i64 (onesN k d : Int) ∧ p = .int .i64 (prv k : Int) ∧ wr = w)
  case atStart => exact ⟨0, d, by omega, rfl, rfl, rfl, hd, Lib.hid (by simp), rfl, rfl, rfl, rfl⟩
  case round =>
    obtain ⟨k, q, hk, rfl, rfl, rfl, hq, HQ, rfl, rfl, rfl, rfl⟩ := hrel
    have hx := xorN_lt d k
    have ho := ones_le d k
    by_cases hlt : k < 64
    · obtain ⟨p3, p71, pne⟩ := pos_and k hlt
      have hpn := pos_not k hlt
      have hor := prv_or k hlt
      have HPN : Hid (prv (k + 1) = pos k) := Lib.hid (prv_next k)
      have HQN : Hid (q / 2 = d / 2 ^ (k + 1)) := Lib.hid (by rw [HQ.out, Nat.pow_succ, Nat.div_div_eq_div_mul])
      have HX : Hid (xorN (k + 1) d = if q % 2 = 1 then xorN k d ^^^ pos k else xorN k d) := Lib.hid (by rw [xorN, HQ.out])
      have HO : Hid (onesN (k + 1) d = onesN k d + q % 2) := Lib.hid (by rw [onesN, HQ.out])
      have ex : bits .xor .i64 (xorN k d : Int) (pos k : Int) = ((xorN k d ^^^ pos k : Nat) : Int) := i64_xor_nat _ _ (by omega) (by omega)
      generalize xorN k d = x at hx ex HX ⊢
      generalize onesN k d = o at ho HO ⊢
      generalize prv k = r at hor ⊢
      generalize pos k = p at p3 p71 pne hpn hor HPN HX ex
      have HEX := Lib.hid ex
      have HOR := Lib.hid hor
      have hr : r ≤ 70 := by omega
      clear ex hor pne
      have HMID : ∀ b : Bool, (((q : Int) % 2) == 1) = b → Hid (xorN (k + 1) d = if b then x ^^^ p else x) ∧ Hid (onesN (k + 1) d = if b then o + 1 else o) := by
        intro b hb
        subst hb
        by_cases h : q % 2 = 1
        · have e : (((q : Int) % 2) == 1) = true := by simp; omega
          rw [e]
          exact ⟨Lib.hid (by rw [HX.out, if_pos h, if_pos rfl]), Lib.hid (by rw [HO.out, h, if_pos rfl])⟩
        · have e : (((q : Int) % 2) == 1) = false := by simp; omega
          rw [e]
          exact ⟨Lib.hid (by rw [HX.out, if_neg h]; rfl), Lib.hid (by rw [HO.out, show q % 2 = 0 by omega]; rfl)⟩
      have HM := Lib.hid HMID
      clear HMID HX HO
      obtain ⟨n4, n8, n16, n32, n64⟩ := hpn
      rcases HOR.out with h | ⟨h, h3 | h3 | h3 | h3 | h3⟩
      · have e0 : (r : Int) + 1 = (p : Int) := by omega
        clear HOR h
        cases hb : (((q : Int) % 2) == 1) with
        | true =>
          obtain ⟨HX, HO⟩ := HM.out true hb
          have ex := HEX.out
          clear HM
          obtain ⟨wo, rfl⟩ : ∃ wo : World, wo = wr := ⟨_, rfl⟩
          go_wp2
          go_loopg [5] 1 (fun g p' wi => p' = .int .i64 (p : Int) ∧ wi = wo)
          case atStart => exact ⟨rfl, rfl⟩
          case round =>
            obtain ⟨rfl, rfl⟩ := hrel
            go_wp2
            go_roundg (64 - (k + 1))
            case measure => omega
            case rel => exact ⟨k + 1, q / 2, by omega, rfl, by go_num, by first | rfl | go_num, by omega, HQN, int_eq (by rw [HX.out]; rfl), int_eq (by rw [HO.out]; simp), int_eq (by rw [HPN.out]), rfl⟩
        | false =>
          obtain ⟨HX, HO⟩ := HM.out false hb
          clear HM
          obtain ⟨wo, rfl⟩ : ∃ wo : World, wo = wr := ⟨_, rfl⟩
          go_wp2
          go_loopg [5] 1 (fun g p' wi => p' = .int .i64 (p : Int) ∧ wi = wo)
          case atStart => exact ⟨rfl, rfl⟩
          case round =>
            obtain ⟨rfl, rfl⟩ := hrel
            go_wp2
            go_roundg (64 - (k + 1))
            case measure => omega
            case rel => exact ⟨k + 1, q / 2, by omega, rfl, by go_num, by first | rfl | go_num, by omega, HQN, int_eq (by rw [HX.out]; rfl), int_eq (by rw [HO.out]; rfl), int_eq (by rw [HPN.out]), rfl⟩
      · subst h3
        clear HOR
        cases hb : (((q : Int) % 2) == 1) with
        | true =>
          obtain ⟨HX, HO⟩ := HM.out true hb
          have ex := HEX.out
          clear HM
          obtain ⟨wo, rfl⟩ : ∃ wo : World, wo = wr := ⟨_, rfl⟩
          go_wp2
          go_loopg [5] 1 (fun g p' wi => ((g = 1 ∧ p' = .int .i64 4) ∨ (g = 0 ∧ p' = .int .i64 (p : Int))) ∧ wi = wo)
          case atStart => exact ⟨.inl ⟨rfl, rfl⟩, rfl⟩
          case round =>
            obtain ⟨⟨rfl, rfl⟩ | ⟨rfl, rfl⟩, rfl⟩ := hrel
            · go_wp2
              go_roundg 0
              case measure => omega
              case rel => exact ⟨.inr ⟨rfl, int_eq (by omega)⟩, rfl⟩
            · go_wp2
              go_roundg (64 - (k + 1))
              case measure => omega
              case rel => exact ⟨k + 1, q / 2, by omega, rfl, by go_num, by first | rfl | go_num, by omega, HQN, int_eq (by rw [HX.out]; rfl), int_eq (by rw [HO.out]; simp), int_eq (by rw [HPN.out]), rfl⟩
        | false =>
          obtain ⟨HX, HO⟩ := HM.out false hb
          clear HM
          obtain ⟨wo, rfl⟩ : ∃ wo : World, wo = wr := ⟨_, rfl⟩
          go_wp2
          go_loopg [5] 1 (fun g p' wi => ((g = 1 ∧ p' = .int .i64 4) ∨ (g = 0 ∧ p' = .int .i64 (p : Int))) ∧ wi = wo)
          case atStart => exact ⟨.inl ⟨rfl, rfl⟩, rfl⟩
          case round =>
            obtain ⟨⟨rfl, rfl⟩ | ⟨rfl, rfl⟩, rfl⟩ := hrel
            · go_wp2
              go_roundg 0
              case measure => omega
              case rel => exact ⟨.inr ⟨rfl, int_eq (by omega)⟩, rfl⟩
            · go_wp2
              go_roundg (64 - (k + 1))
              case measure => omega
              case rel => exact ⟨k + 1, q / 2, by omega, rfl, by go_num, by first | rfl | go_num, by omega, HQN, int_eq (by rw [HX.out]; rfl), int_eq (by rw [HO.out]; simp), int_eq (by rw [HPN.out]), rfl⟩
      · subst h3
        clear HOR
        cases hb : (((q : Int) % 2) == 1) with
        | true =>
          obtain ⟨HX, HO⟩ := HM.out true hb
          have ex := HEX.out
          clear HM
          obtain ⟨wo, rfl⟩ : ∃ wo : World, wo = wr := ⟨_, rfl⟩
          go_wp2
          go_loopg [5] 1 (fun g p' wi => ((g = 1 ∧ p' = .int .i64 8) ∨ (g = 0 ∧ p' = .int .i64 (p : Int))) ∧ wi = wo)
          case atStart => exact ⟨.inl ⟨rfl, rfl⟩, rfl⟩
          case round =>
            obtain ⟨⟨rfl, rfl⟩ | ⟨rfl, rfl⟩, rfl⟩ := hrel
            · go_wp2
              go_roundg 0
              case measure => omega
              case rel => exact ⟨.inr ⟨rfl, int_eq (by omega)⟩, rfl⟩
            · go_wp2
              go_roundg (64 - (k + 1))
              case measure => omega
              case rel => exact ⟨k + 1, q / 2, by omega, rfl, by go_num, by first | rfl | go_num, by omega, HQN, int_eq (by rw [HX.out]; rfl), int_eq (by rw [HO.out]; simp), int_eq (by rw [HPN.out]), rfl⟩
        | false =>
          obtain ⟨HX, HO⟩ := HM.out false hb
          clear HM
          obtain ⟨wo, rfl⟩ : ∃ wo : World, wo = wr := ⟨_, rfl⟩
          go_wp2
          go_loopg [5] 1 (fun g p' wi => ((g = 1 ∧ p' = .int .i64 8) ∨ (g = 0 ∧ p' = .int .i64 (p : Int))) ∧ wi = wo)
          case atStart => exact ⟨.inl ⟨rfl, rfl⟩, rfl⟩
          case round =>
            obtain ⟨⟨rfl, rfl⟩ | ⟨rfl, rfl⟩, rfl⟩ := hrel
            · go_wp2
              go_roundg 0
              case measure => omega
              case rel => exact ⟨.inr ⟨rfl, int_eq (by omega)⟩, rfl⟩
            · go_wp2
              go_roundg (64 - (k + 1))
              case measure => omega
              case rel => exact ⟨k + 1, q / 2, by omega, rfl, by go_num, by first | rfl | go_num, by omega, HQN, int_eq (by rw [HX.out]; rfl), int_eq (by rw [HO.out]; simp), int_eq (by rw [HPN.out]), rfl⟩
      · subst h3
        clear HOR
        cases hb : (((q : Int) % 2) == 1) with
        | true =>
          obtain ⟨HX, HO⟩ := HM.out true hb
          have ex := HEX.out
          clear HM
          obtain ⟨wo, rfl⟩ : ∃ wo : World, wo = wr := ⟨_, rfl⟩
          go_wp2
          go_loopg [5] 1 (fun g p' wi => ((g = 1 ∧ p' = .int .i64 16) ∨ (g = 0 ∧ p' = .int .i64 (p : Int))) ∧ wi = wo)
          case atStart => exact ⟨.inl ⟨rfl, rfl⟩, rfl⟩
          case round =>
            obtain ⟨⟨rfl, rfl⟩ | ⟨rfl, rfl⟩, rfl⟩ := hrel
            · go_wp2
              go_roundg 0
              case measure => omega
              case rel => exact ⟨.inr ⟨rfl, int_eq (by omega)⟩, rfl⟩
            · go_wp2
              go_roundg (64 - (k + 1))
              case measure => omega
              case rel => exact ⟨k + 1, q / 2, by omega, rfl, by go_num, by first | rfl | go_num, by omega, HQN, int_eq (by rw [HX.out]; rfl), int_eq (by rw [HO.out]; simp), int_eq (by rw [HPN.out]), rfl⟩
        | false =>
          obtain ⟨HX, HO⟩ := HM.out false hb
          clear HM
          obtain ⟨wo, rfl⟩ : ∃ wo : World, wo = wr := ⟨_, rfl⟩
          go_wp2
          go_loopg [5] 1 (fun g p' wi => ((g = 1 ∧ p' = .int .i64 16) ∨ (g = 0 ∧ p' = .int .i64 (p : Int))) ∧ wi = wo)
          case atStart => exact ⟨.inl ⟨rfl, rfl⟩, rfl⟩
          case round =>
            obtain ⟨⟨rfl, rfl⟩ | ⟨rfl, rfl⟩, rfl⟩ := hrel
            · go_wp2
              go_roundg 0
              case measure => omega
              case rel => exact ⟨.inr ⟨rfl, int_eq (by omega)⟩, rfl⟩
            · go_wp2
              go_roundg (64 - (k + 1))
              case measure => omega
              case rel => exact ⟨k + 1, q / 2, by omega, rfl, by go_num, by first | rfl | go_num, by omega, HQN, int_eq (by rw [HX.out]; rfl), int_eq (by rw [HO.out]; simp), int_eq (by rw [HPN.out]), rfl⟩
      · subst h3
        clear HOR
        cases hb : (((q : Int) % 2) == 1) with
        | true =>
          obtain ⟨HX, HO⟩ := HM.out true hb
          have ex := HEX.out
          clear HM
          obtain ⟨wo, rfl⟩ : ∃ wo : World, wo = wr := ⟨_, rfl⟩
          go_wp2
          go_loopg [5] 1 (fun g p' wi => ((g = 1 ∧ p' = .int .i64 32) ∨ (g = 0 ∧ p' = .int .i64 (p : Int))) ∧ wi = wo)
          case atStart => exact ⟨.inl ⟨rfl, rfl⟩, rfl⟩
          case round =>
            obtain ⟨⟨rfl, rfl⟩ | ⟨rfl, rfl⟩, rfl⟩ := hrel
            · go_wp2
              go_roundg 0
              case measure => omega
              case rel => exact ⟨.inr ⟨rfl, int_eq (by omega)⟩, rfl⟩
            · go_wp2
              go_roundg (64 - (k + 1))
              case measure => omega
              case rel => exact ⟨k + 1, q / 2, by omega, rfl, by go_num, by first | rfl | go_num, by omega, HQN, int_eq (by rw [HX.out]; rfl), int_eq (by rw [HO.out]; simp), int_eq (by rw [HPN.out]), rfl⟩
        | false =>
          obtain ⟨HX, HO⟩ := HM.out false hb
          clear HM
          obtain ⟨wo, rfl⟩ : ∃ wo : World, wo = wr := ⟨_, rfl⟩
          go_wp2
          go_loopg [5] 1 (fun g p' wi => ((g = 1 ∧ p' = .int .i64 32) ∨ (g = 0 ∧ p' = .int .i64 (p : Int))) ∧ wi = wo)
          case atStart => exact ⟨.inl ⟨rfl, rfl⟩, rfl⟩
          case round =>
            obtain ⟨⟨rfl, rfl⟩ | ⟨rfl, rfl⟩, rfl⟩ := hrel
            · go_wp2
              go_roundg 0
              case measure => omega
              case rel => exact ⟨.inr ⟨rfl, int_eq (by omega)⟩, rfl⟩
            · go_wp2
              go_roundg (64 - (k + 1))
              case measure => omega
              case rel => exact ⟨k + 1, q / 2, by omega, rfl, by go_num, by first | rfl | go_num, by omega, HQN, int_eq (by rw [HX.out]; rfl), int_eq (by rw [HO.out]; simp), int_eq (by rw [HPN.out]), rfl⟩
      · subst h3
        clear HOR
        cases hb : (((q : Int) % 2) == 1) with
        | true =>
          obtain ⟨HX, HO⟩ := HM.out true hb
          have ex := HEX.out
          clear HM
          obtain ⟨wo, rfl⟩ : ∃ wo : World, wo = wr := ⟨_, rfl⟩
          go_wp2
          go_loopg [5] 1 (fun g p' wi => ((g = 1 ∧ p' = .int .i64 64) ∨ (g = 0 ∧ p' = .int .i64 (p : Int))) ∧ wi = wo)
          case atStart => exact ⟨.inl ⟨rfl, rfl⟩, rfl⟩
          case round =>
            obtain ⟨⟨rfl, rfl⟩ | ⟨rfl, rfl⟩, rfl⟩ := hrel
            · go_wp2
              go_roundg 0
              case measure => omega
              case rel => exact ⟨.inr ⟨rfl, int_eq (by omega)⟩, rfl⟩
            · go_wp2
              go_roundg (64 - (k + 1))
              case measure => omega
              case rel => exact ⟨k + 1, q / 2, by omega, rfl, by go_num, by first | rfl | go_num, by omega, HQN, int_eq (by rw [HX.out]; rfl), int_eq (by rw [HO.out]; simp), int_eq (by rw [HPN.out]), rfl⟩
        | false =>
          obtain ⟨HX, HO⟩ := HM.out false hb
          clear HM
          obtain ⟨wo, rfl⟩ : ∃ wo : World, wo = wr := ⟨_, rfl⟩
          go_wp2
          go_loopg [5] 1 (fun g p' wi => ((g = 1 ∧ p' = .int .i64 64) ∨ (g = 0 ∧ p' = .int .i64 (p : Int))) ∧ wi = wo)
          case atStart => exact ⟨.inl ⟨rfl, rfl⟩, rfl⟩
          case round =>
            obtain ⟨⟨rfl, rfl⟩ | ⟨rfl, rfl⟩, rfl⟩ := hrel
            · go_wp2
              go_roundg 0
              case measure => omega
              case rel => exact ⟨.inr ⟨rfl, int_eq (by omega)⟩, rfl⟩
            · go_wp2
              go_roundg (64 - (k + 1))
              case measure => omega
              case rel => exact ⟨k + 1, q / 2, by omega, rfl, by go_num, by first | rfl | go_num, by omega, HQN, int_eq (by rw [HX.out]; rfl), int_eq (by rw [HO.out]; simp), int_eq (by rw [HPN.out]), rfl⟩
    · obtain rfl : k = 64 := by omega
      have hpl := pop8_le (xorN 64 d)
      have HC : Hid (checkN d = xorN 64 d + 128 * ((onesN 64 d + pop8 (xorN 64 d)) % 2)) := Lib.hid rfl
      generalize xorN 64 d = x at hx hpl HC ⊢
      generalize onesN 64 d = o at ho HC ⊢
      clear hlt hk HQ
      obtain ⟨wo, rfl⟩ : ∃ wo : World, wo = wr := ⟨_, rfl⟩
      go_wp2
      go_loopg [4, 6] x (fun g o' y wi => ∃ o2 : Nat, g ≤ x ∧ y = .int .i64 (g : Int) ∧ o' = .int .i64 (o2 : Int) ∧ o2 ≤ 200 ∧ Hid (o2 + pop8 g = o + pop8 x) ∧ wi = wo)
      case atStart => exact ⟨o, Nat.le_refl _, rfl, rfl, by omega, Lib.hid rfl, rfl⟩
      case round =>
        obtain ⟨o2, hgx, rfl, rfl, ho2, HP, rfl⟩ := hrel
        by_cases hg : 0 < gk
        · have hh := pop8_half gk (by omega)
          have hle := pop8_le (gk / 2)
          have hle2 := pop8_le x
          have HN : Hid (o2 + gk % 2 + pop8 (gk / 2) = o + pop8 x) := Lib.hid (by have := HP.out; omega)
          have hb : o2 + gk % 2 ≤ 200 := by have := HN.out; omega
          clear hh hle hle2
          go_wp2
          go_roundg (gk / 2)
          case measure => omega
          case rel => exact ⟨o2 + gk % 2, by omega, by first | rfl | go_num, by first | rfl | go_num, hb, HN, rfl⟩
        · obtain rfl : gk = 0 := by omega
          have HE : Hid (checkN d = x + 128 * (o2 % 2)) := Lib.hid (by have := HP.out; rw [HC.out, ← this]; rfl)
          have hw : IntKind.u8.wrap ((x : Int) + 128 * ((o2 : Int) % 2)) = (x : Int) + 128 * ((o2 : Int) % 2) := by rw [IntKind.wrap_u8]; omega
          go_wp2
          go_ret
          exact Ret.mk (int_eq (by rw [HE.out]; push_cast; rfl)) (Below.refl _ _)
end Ecc
end Go.Proofs.Ytljdfkejhgaciab
