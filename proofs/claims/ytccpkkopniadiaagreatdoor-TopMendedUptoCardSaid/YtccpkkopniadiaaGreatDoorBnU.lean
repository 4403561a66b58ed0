/-
  Walk of strconv.ParseUint at base 16, 8 bits, at texts of two bytes. Conditions: none beyond each theorem's own premises.
-/
import Derived.Test.YtccpkkopniadiaaGreatDoorBnB
import Derived.Test.YtccpkkopniadiaaGreatDoorBnG
import Derived.Test.YtccpkkopniadiaaGreatDoorBnY
import Derived.Test.YtccpkkopniadiaaGreatDoorShelfNu
namespace Go.Proofs.YtccpkkopniadiaaGreatDoor
open Go.RowKit Go.Shelf
set_option linter.unusedVariables false
namespace Bn

/-- what a letter of base 16 says -/
def hv (b : Nat) : Option Nat := if 48 ≤ b ∧ b ≤ 57 then some (b - 48) else if 97 ≤ (b ||| 32) ∧ (b ||| 32) ≤ 102 then some ((b ||| 32) - 87) else none
theorem hv_digit : ∀ n : Fin 16, hv (Lib.Hx.digit n.val).toNat = some n.val := by decide +kernel
theorem low_bits : ∀ c : Fin 256, bits .or .u8 (c.val : Int) 32 = ((c.val ||| 32 : Nat) : Int) ∧ c.val ||| 32 < 256 := by decide +kernel
def acc1 (o : Option Nat) (b : UInt8) : Option Nat := o.bind fun n => (hv b.toNat).map fun d => n * 16 + d
def acc (l : By) : Option Nat := l.foldl acc1 (some 0)
theorem acc_none : ∀ l : By, l.foldl acc1 none = none
  | [] => rfl
  | b :: l => acc_none l
theorem acc_step (x : By) (k : Nat) (b : UInt8) (h : x[k]? = some b) : acc (x.take (k + 1)) = acc1 (acc (x.take k)) b := by
  unfold acc
  rw [List.take_add_one, h, List.foldl_append]
  rfl
theorem acc_bad (x : By) (k : Nat) (h : acc (x.take k) = none) : acc x = none := by
  have e : x = x.take k ++ x.drop k := (List.take_append_drop k x).symm
  unfold acc at h ⊢
  rw [e, List.foldl_append, h, acc_none]
theorem acc_two (p q : Nat) (hp : p < 16) (hq : q < 16) : acc [Lib.Hx.digit p, Lib.Hx.digit q] = some (p * 16 + q) := by
  have h1 := hv_digit ⟨p, hp⟩
  have h2 := hv_digit ⟨q, hq⟩
  simp only at h1 h2
  simp [acc, acc1, h1, h2]
theorem wrap_u64 {e : Nat} (h : e < 65536) : IntKind.u64.wrap (e : Int) = (e : Int) := by
  simp [IntKind.wrap, IntKind.bits, IntKind.signed]
  omega

theorem lower_any (c : Nat) (h : c < 256) (w : World) : Calls Tryz.prog 116 #[.int .u8 (c : Int)] w (fun e w' => e = .returned (.int .u8 ((c ||| 32 : Nat) : Int)) ∧ w' = w) := by
  have hl := (low_bits ⟨c, h⟩).1
  simp only at hl
  rw [← hl]
  exact AnyPu.internal_strconv_lower { Tryz.puN with } c w

set_option maxRecDepth 100000 in
set_option maxHeartbeats 3200000 in
theorem ipu_any (x : By) (S : ByteArray) (hS : bs x = S) (hl : x.length = 2) (w : World) : Calls Tryz.prog 78 #[.string S, .int .i64 16, .int .i64 8] w (fun e w' => Below w.heap.size w w' ∧
    ((∃ n : Nat, n < 256 ∧ acc x = some n ∧ e = .returned (.tuple #[.int .u64 n, .nilIface])) ∨ (acc x = none ∧ e = .returned (.tuple #[.int .u64 0, .iface 148 (.int .i64 2)])))) := by
  obtain ⟨cb, w1, hcv, hb1, hlt1, hcell⟩ := bytes_of x S hS w
  have z0 : S.toList.isEmpty = false := by
    rw [← hS, bs_toList]
    cases x with
    | nil => simp at hl
    | cons _ _ => rfl
  have B1 := Lib.hid hb1
  have HC := Lib.hid hcell
  have HL := Lib.hid hl
  rw [hl] at hcv
  clear hb1 hcell hl hS
  obtain ⟨gb, hgb⟩ : ∃ gb, w.heap.size = gb := ⟨_, rfl⟩
  rw [hgb] at hcv hlt1 HC
  clear hgb
  go_enter Tryz.func78, Tryz.ntmps78
  go_wp2
  go_loopg [12, 13, 101] 2 (fun g u s i wr => ∃ (k n : Nat), k ≤ 2 ∧ g = 2 - k ∧ u = .bool false ∧ i = .int .i64 k ∧ s = .int .u64 n ∧ Hid (acc (x.take k) = some n) ∧ Hid (n < 16 ^ k) ∧ Below w1.heap.size w1 wr)
  case atStart => exact ⟨0, 0, by omega, rfl, rfl, rfl, rfl, Lib.hid rfl, Lib.hid (by omega), Below.refl _ _⟩
  case round =>
    obtain ⟨k, n, hk, rfl, rfl, rfl, rfl, HA, HP, hB⟩ := hrel
    have HB := Lib.hid hB
    clear hB
    by_cases hlt : k < 2
    · obtain ⟨b, hb⟩ : ∃ b, x[k]? = some b := ⟨_, List.getElem?_eq_getElem (by rw [HL.out]; exact hlt)⟩
      have d1 : wr.cell? ⟨gb, k, none⟩ = some (.int .u8 (b.toNat : Int)) := (HB.out.cell (p := ⟨gb, k, none⟩) hlt1).trans (HC.out k b hb)
      have HST := Lib.hid (acc_step x k b hb)
      have i0 : (0 : Int) ≤ (k : Int) := by omega
      have i1 : (k : Int) < 2 := by omega
      have hn16 : n < 16 := by
        have h := HP.out
        rcases (by omega : k = 0 ∨ k = 1) with rfl | rfl <;> simp at h <;> omega
      obtain ⟨c, hc⟩ : ∃ c, b.toNat = c := ⟨_, rfl⟩
      have hc2 : c < 256 := by rw [← hc]; exact b.toNat_lt
      have HAC : Hid (acc (x.take (k + 1)) = (hv c).map fun d => n * 16 + d) := Lib.hid (by rw [HST.out, HA.out, ← hc]; rfl)
      rw [hc] at d1
      clear hb hc HST
      have cL := Lib.hid (fun W => lower_any c hc2 W)
      have hl2 := (low_bits ⟨c, hc2⟩).2
      have hbt := (low_bits ⟨c, hc2⟩).1
      simp only at hbt
      obtain ⟨l, hl⟩ : ∃ l, c ||| 32 = l := ⟨_, rfl⟩
      have HLW := Lib.hid hl
      simp only [hl] at cL hl2 hbt
      clear hl
      by_cases hd : ∃ d, hv c = some d
      · obtain ⟨d, hd⟩ := hd
        have hd16 : d < 16 := by
          unfold hv at hd
          have := HLW.out
          split at hd
          · cases hd; omega
          · split at hd
            · cases hd; omega
            · cases hd
        obtain ⟨m, hm⟩ : ∃ m, m = n * 16 := ⟨_, rfl⟩
        obtain ⟨q, hq⟩ : ∃ q, q = m + d := ⟨_, rfl⟩
        have HQ : Hid (acc (x.take (k + 1)) = some q) := Lib.hid (by rw [HAC.out, hd, hq, hm]; rfl)
        have HQ2 : Hid (q < 16 ^ (k + 1)) := Lib.hid (by
          have h := HP.out
          rw [hq, hm, Nat.pow_succ]
          omega)
        have v1 : (n : Int) * 16 = (m : Int) := by omega
        have v2 : (m : Int) + (d : Int) = (q : Int) := by omega
        have v3 := wrap_u64 (show m < 65536 by omega)
        have v4 := wrap_u64 (show q < 65536 by omega)
        have v5 := wrap_u64 (show d < 65536 by omega)
        have v6 := wrap_u8 (show d < 256 by omega)
        have j1 : ¬ (16 : Int) ≤ (d : Int) := by omega
        have j2 : ¬ (1152921504606846976 : Int) ≤ (n : Int) := by omega
        have j3 : ¬ (q : Int) < (m : Int) := by omega
        have j4 : ¬ q < m := by omega
        have j5 : ¬ (255 : Int) < (q : Int) := by omega
        have m95 : ((c : Int) == 95) = false := by
          have : c ≠ 95 := fun e => by rw [e, show hv 95 = none from by decide] at hd; cases hd
          simp
          omega
        clear HAC hm hq
        unfold hv at hd
        split at hd
        · rename_i h
          have m1 : (48 : Int) ≤ (c : Int) := by omega
          have m2 : (c : Int) ≤ 57 := by omega
          have v7 : (c : Int) - 48 = (d : Int) := by cases hd; omega
          clear hd h
          go_wp2
          go_roundg (2 - (k + 1))
          case measure => omega
          case rel => exact ⟨k + 1, q, by omega, rfl, rfl, by go_num, rfl, HQ, HQ2, HB.out⟩
        · rename_i hno
          split at hd
          · rename_i h
            rw [HLW.out] at h hd
            have m3 : (97 : Int) ≤ (l : Int) := by omega
            have m4 : (l : Int) ≤ 122 := by omega
            obtain ⟨e, he⟩ : ∃ e, e = l - 97 := ⟨_, rfl⟩
            have v7 : (l : Int) - 97 = (e : Int) := by omega
            have v8 : (e : Int) + 10 = (d : Int) := by cases hd; omega
            have v9 := wrap_u8 (show e < 256 by omega)
            clear he hd h
            by_cases m1 : 48 ≤ c
            · have m1' : (48 : Int) ≤ (c : Int) := by omega
              have m2 : ¬ (c : Int) ≤ 57 := by omega
              clear m1 hno
              go_wp2
              repeat (refine (cL.out _).mono ?_; rintro en wb ⟨rfl, rfl⟩; go_wp2)
              go_roundg (2 - (k + 1))
              case measure => omega
              case rel => exact ⟨k + 1, q, by omega, rfl, rfl, by go_num, rfl, HQ, HQ2, HB.out⟩
            · have m1' : ¬ (48 : Int) ≤ (c : Int) := by omega
              clear m1 hno
              go_wp2
              repeat (refine (cL.out _).mono ?_; rintro en wb ⟨rfl, rfl⟩; go_wp2)
              go_roundg (2 - (k + 1))
              case measure => omega
              case rel => exact ⟨k + 1, q, by omega, rfl, rfl, by go_num, rfl, HQ, HQ2, HB.out⟩
          · cases hd
      · have hno : hv c = none := by
          cases h : hv c with
          | none => rfl
          | some d => exact absurd ⟨d, h⟩ hd
        have HN : Hid (acc x = none) := Lib.hid (acc_bad x (k + 1) (by rw [HAC.out, hno]; rfl))
        have m95 : ((c : Int) == 95) = true ∨ ((c : Int) == 95) = false := by cases ((c : Int) == 95) <;> simp
        have m1 : ¬ (48 ≤ c ∧ c ≤ 57) := fun h => by
          unfold hv at hno
          rw [if_pos h] at hno
          cases hno
        have m2 : ¬ (97 ≤ l ∧ l ≤ 102) := fun h => by
          unfold hv at hno
          rw [if_neg m1, HLW.out, if_pos h] at hno
          cases hno
        clear hd hno HAC
        have mc : ((48 : Int) ≤ (c : Int) ∧ ¬ (c : Int) ≤ 57) ∨ ¬ (48 : Int) ≤ (c : Int) := by omega
        have ml : ¬ (97 : Int) ≤ (l : Int) ∨ ((97 : Int) ≤ (l : Int) ∧ ¬ (l : Int) ≤ 122) ∨ ((97 : Int) ≤ (l : Int) ∧ (l : Int) ≤ 122 ∧ 103 ≤ l) := by omega
        clear m1 m2
        rcases m95 with m95 | m95 <;> rcases mc with ⟨mc1, mc2⟩ | mc1
        all_goals
          rcases ml with ml1 | ⟨ml1, ml2⟩ | ⟨ml1, ml2, ml3⟩
          · go_wp2
            repeat (refine (cL.out _).mono ?_; rintro en wb ⟨rfl, rfl⟩; go_wp2)
            go_ret2
            exact ⟨B1.out.trans (HB.out.mono B1.out.size), .inr ⟨HN.out, rfl⟩⟩
          · go_wp2
            repeat (refine (cL.out _).mono ?_; rintro en wb ⟨rfl, rfl⟩; go_wp2)
            go_ret2
            exact ⟨B1.out.trans (HB.out.mono B1.out.size), .inr ⟨HN.out, rfl⟩⟩
          · obtain ⟨e, he⟩ : ∃ e, e = l - 97 := ⟨_, rfl⟩
            obtain ⟨d, hd⟩ : ∃ d, d = e + 10 := ⟨_, rfl⟩
            have v7 : (l : Int) - 97 = (e : Int) := by omega
            have v8 : (e : Int) + 10 = (d : Int) := by omega
            have v9 := wrap_u8 (show e < 256 by omega)
            have v6 := wrap_u8 (show d < 256 by omega)
            have j1 : (16 : Int) ≤ (d : Int) := by omega
            clear he hd ml3
            go_wp2
            repeat (refine (cL.out _).mono ?_; rintro en wb ⟨rfl, rfl⟩; go_wp2)
            go_ret2
            exact ⟨B1.out.trans (HB.out.mono B1.out.size), .inr ⟨HN.out, rfl⟩⟩
    · obtain rfl : k = 2 := by omega
      have HF : Hid (acc x = some n) := Lib.hid (by rw [← HA.out, List.take_of_length_le (by rw [HL.out]; omega)])
      have hn : n < 256 := by
        have := HP.out
        omega
      go_wp2
      go_ret2
      exact ⟨B1.out.trans (HB.out.mono B1.out.size), .inl ⟨n, hn, HF.out, rfl⟩⟩

set_option maxRecDepth 100000 in
set_option maxHeartbeats 3200000 in
/-- strconv.ParseUint(x, 16, 8) at two bytes -/
theorem pu16_any (x : By) (hl : x.length = 2) (w : World) (hg : Gl w) : Calls Tryz.prog 58 #[.string (bs x), .int .i64 16, .int .i64 8] w (fun e w' => ∃ (n : Nat) (ev : Value), e = .returned (.tuple #[.int .u64 n, ev]) ∧ Below w.heap.size w w' ∧ n < 256 ∧ ∀ m, acc x = some m → n = m) := by
  have cI := Lib.hid (ipu_any x _ rfl hl w)
  obtain ⟨tp, p, hsy⟩ := hg.syn
  have HS := Lib.hid hsy
  have hsz : (bs x).size ≤ 281474976710656 := by rw [bs_size, hl]; decide
  obtain ⟨S, hS⟩ : ∃ S, bs x = S := ⟨_, rfl⟩
  rw [hS] at cI hsz ⊢
  clear hg hsy hS
  go_enter Tryz.func58, Tryz.ntmps58
  go_wp2_with fail
  refine cI.out.mono ?_; rintro en w1 ⟨hb, ⟨n, hn, ha, rfl⟩ | ⟨ha, rfl⟩⟩
  · have HB := Lib.hid hb
    have HA := Lib.hid ha
    clear hb ha cI
    go_wp2
    go_ret2
    exact ⟨n, _, rfl, HB.out, hn, fun m h => by rw [HA.out] at h; exact Option.some.inj h⟩
  · have HB := Lib.hid hb
    have HA := Lib.hid ha
    have hsy := var_later (g := 3) (by kernel_rfl) HS.out hb
    have hc : w1.cell? ⟨3, 0, none⟩ = some (.iface tp p) := by
      unfold World.var? at hsy
      rw [show (Tryz.prog.globalNamed "strconv.ErrSyntax") = some 3 from by kernel_rfl] at hsy
      simp only [Option.bind_some] at hsy
      split at hsy
      · rename_i cs t lim hh
        rw [cell_of_row _ _ 0 _ _ _ hh]
        cases hsy
        rfl
      · cases hsy
    have cE := Lib.hid (AnyPu.strconv_toError_syntax { Tryz.puN with } ⟨#[80, 97, 114, 115, 101, 85, 105, 110, 116]⟩ S 16 8 (.iface tp p) w1 hsz hc (.inr ⟨tp, p, rfl⟩))
    clear hb ha cI hsy hc
    go_wp2_with fail
    refine cE.out.mono ?_; rintro en w2 ⟨N, rfl, _, _, hb2⟩
    have HB2 := Lib.hid hb2
    clear hb2 cE
    go_wp2
    go_ret2
    exact ⟨0, _, rfl, HB.out.trans (HB2.out.mono HB.out.size), by omega, fun m h => by rw [HA.out] at h; cases h⟩
end Bn
end Go.Proofs.YtccpkkopniadiaaGreatDoor
