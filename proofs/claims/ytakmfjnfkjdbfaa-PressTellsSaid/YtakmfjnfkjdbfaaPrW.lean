/-
  Walks of press.run and the reference's VLong: how long the run at the head is. Conditions: none.
-/
import Derived.Test.YtakmfjnfkjdbfaaPrM
import Derived.Test.YtakmfjnfkjdbfaaSlices
namespace Go.Proofs.Ytakmfjnfkjdbfaa
open Go.RowKit
set_option linter.unusedVariables false
namespace Pr

theorem byte_at {w wr : World} {b off Bd k : Nat} {l : List Nat} {x : Nat} (hb : b < Bd) (hB : Below Bd w wr) (hc : ∀ (i j : Nat) (x : Nat) (u : Value), l[i]? = some x → (bcell x)[j]? = some u → w.cell? ⟨b, off + (i * 1 + j), none⟩ = some u)
    (hx : l[k]? = some x) : wr.cell? ⟨b, off + k, none⟩ = some (.int .u8 (x : Int)) := by
  have := hc k 0 x _ hx rfl
  rw [Nat.mul_one, Nat.add_zero] at this
  exact (hB.cell hb).trans this
set_option maxRecDepth 100000 in
set_option maxHeartbeats 1600000 in
theorem run_any (A : Option Addr) (n c : Nat) (x : Nat) (t : List Nat) (w : World) (hr : Rd w w.heap.size 1 A n ((x :: t).flatMap bcell)) (hl : (x :: t).length = n) (hn : n ≤ 9223372036854775807) :
    Calls Try.prog 42 #[.slice A n c] w (Ret w (.int .i64 (runL (x :: t) : Int))) := by
  obtain ⟨r1, r2, r3, r4⟩ := runL_is x t
  have hn0 : t.length + 1 = n := by simpa using hl
  rw [hn0] at r2 r4
  have hnp : 0 < n := by omega
  obtain ⟨b, off, rfl, hb, hc⟩ := hr.at_ bcell_len (by omega)
  have HC := Lib.hid hc
  have HR3 := Lib.hid r3
  have HR4 := Lib.hid r4
  have HL := Lib.hid hl
  have hx0 : (x :: t)[0]? = some x := rfl
  generalize (x :: t) = l at *
  generalize hrr : runL l = r at *
  clear hr hl hc r3 r4 hrr hn0
  have HX0 := Lib.hid hx0
  clear hx0
  go_enter Try.func42, Try.ntmps42
  go_wp2
  go_loopg [3] (r + 1) (fun q i wr => ∃ (k : Nat), k ≤ r ∧ q = r + 1 - k ∧ i = .int .i64 k ∧ Below w.heap.size w wr)
  case atStart => exact ⟨0, Nat.zero_le _, rfl, rfl, Below.refl _ _⟩
  case round =>
    obtain ⟨k, hk, rfl, rfl, hB⟩ := hrel
    have e0 := byte_at hb hB HC.out HX0.out
    have z0 : ∀ z : LaterOf wr, z.w.cell? ⟨b, off, none⟩ = some (.int .u8 (x : Int)) := fun z => z.cell e0
    have i0 : (0 : Int) ≤ (k : Int) := by omega
    have i9 : (0 : Int) < (n : Int) := by omega
    by_cases hkr : k < r
    · have e1 := byte_at hb hB HC.out (HR3.out k hkr)
      have z1 : ∀ z : LaterOf wr, z.w.cell? ⟨b, off + k, none⟩ = some (.int .u8 (x : Int)) := fun z => z.cell e1
      have i1 : (k : Int) < (n : Int) := by omega
      have i2 : (k : Int) < 128 := by omega
      have i3 : k < 128 := by omega
      have i4 : k < n := by omega
      clear e0 e1
      go_wp2
      refine wp_region_later (by kernel_rfl) (by kernel_rfl) ?_
      repeat (go_big_quiet_step (fail))
      refine wpQuiet_nil ?_; intro x1 hw'; obtain ⟨xq, hw''⟩ := hw'; obtain ⟨xw0, h1⟩ := xq; change x1 = xw0 at hw''; subst hw''
      go_wp2
      go_roundg (r + 1 - (k + 1))
      case measure => omega
      case rel => exact ⟨k + 1, by omega, rfl, by go_num, hB.trans (h1.mono hB.size)⟩
    · obtain rfl : k = r := by omega
      clear e0
      by_cases hkn : k < n
      · have i1 : (k : Int) < (n : Int) := by omega
        by_cases hk8 : k < 128
        · have i2 : (k : Int) < 128 := by omega
          obtain ⟨y, hy, hne⟩ : ∃ y, l[k]? = some y ∧ y ≠ x := by
            rcases HR4.out with h | h | h
            · omega
            · omega
            · exact h
          have e1 := byte_at hb hB HC.out hy
          have z1 : ∀ z : LaterOf wr, z.w.cell? ⟨b, off + k, none⟩ = some (.int .u8 (y : Int)) := fun z => z.cell e1
          have n1 : ((y : Int) == (x : Int)) = false := by simp; omega
          have n2 : ¬ (y : Int) = (x : Int) := by omega
          clear e1 hy
          go_wp2
          refine wp_region_later (by kernel_rfl) (by kernel_rfl) ?_
          repeat (go_big_quiet_step (fail))
          refine wpQuiet_nil ?_; intro x1 hw'; obtain ⟨xq, hw''⟩ := hw'; obtain ⟨xw0, h1⟩ := xq; change x1 = xw0 at hw''; subst hw''
          go_wp2
          go_ret
          exact Ret.mk rfl (hB.trans (h1.mono hB.size))
        · obtain rfl : k = 128 := by omega
          have i5 : (128 : Int) < (n : Int) := by omega
          clear i1
          go_wp2
          refine wp_region_later (by kernel_rfl) (by kernel_rfl) ?_
          repeat (go_big_quiet_step (fail))
          refine wpQuiet_nil ?_; intro x1 hw'; obtain ⟨xq, hw''⟩ := hw'; obtain ⟨xw0, h1⟩ := xq; change x1 = xw0 at hw''; subst hw''
          go_wp2
          go_ret
          exact Ret.mk rfl (hB.trans (h1.mono hB.size))
      · have i1 : ¬ (k : Int) < (n : Int) := by omega
        go_wp2
        refine wp_region_later (by kernel_rfl) (by kernel_rfl) ?_
        repeat (go_big_quiet_step (fail))
        refine wpQuiet_nil ?_; intro x1 hw'; obtain ⟨xq, hw''⟩ := hw'; obtain ⟨xw0, h1⟩ := xq; change x1 = xw0 at hw''; subst hw''
        go_wp2
        go_ret
        exact Ret.mk rfl (hB.trans (h1.mono hB.size))

set_option maxRecDepth 100000 in
set_option maxHeartbeats 1600000 in
theorem vlong_any (A : Option Addr) (n c a : Nat) (x : Nat) (t L : List Nat) (w : World) (hr : Rd w w.heap.size 1 A n (L.flatMap bcell)) (hl : L.length = n) (hn : n ≤ 4096) (hd : L.drop a = x :: t) :
    Calls Try.prog 44 #[.slice A n c, .int .i64 (a : Int)] w (Ret w (.int .i64 (runL (x :: t) : Int))) := by
  obtain ⟨r1, r2, r3, r4⟩ := runL_is x t
  have hlen := congrArg List.length hd
  simp at hlen
  rw [hl] at hlen
  have hn0 : t.length + 1 = n - a := by omega
  have han : a < n := by omega
  rw [hn0] at r2 r4
  obtain ⟨b, off, rfl, hb, hc⟩ := hr.at_ bcell_len (by omega)
  have HC := Lib.hid hc
  have HAT : Hid (∀ i : Nat, (x :: t)[i]? = L[a + i]?) := Lib.hid (fun i => by rw [← hd, List.getElem?_drop])
  have HR3 := Lib.hid r3
  have HR4 := Lib.hid r4
  have HX0 : Hid (L[a]? = some x) := Lib.hid (by have := HAT.out 0; simpa using this.symm)
  generalize (x :: t) = l at *
  generalize hrr : runL l = r at *
  clear hr hl hc r3 r4 hrr hn0 hd hlen
  go_enter Try.func44, Try.ntmps44
  go_wp2
  go_loopg [5] (r + 1) (fun q i wr => ∃ (k : Nat), k ≤ r ∧ q = r + 1 - k ∧ i = .int .i64 k ∧ Below w.heap.size w wr)
  case atStart => exact ⟨0, Nat.zero_le _, rfl, rfl, Below.refl _ _⟩
  case round =>
    obtain ⟨k, hk, rfl, rfl, hB⟩ := hrel
    have e0 := byte_at hb hB HC.out HX0.out
    have z0 : ∀ z : LaterOf wr, z.w.cell? ⟨b, off + a, none⟩ = some (.int .u8 (x : Int)) := fun z => z.cell e0
    obtain ⟨p, HP⟩ : ∃ p, Hid (p = a + k) := ⟨_, Lib.hid rfl⟩
    have kp : (a : Int) + (k : Int) = (p : Int) := by rw [HP.out]; omega
    have i0 : (0 : Int) ≤ (p : Int) := by omega
    have i8 : (0 : Int) ≤ (a : Int) := by omega
    have i9 : (a : Int) < (n : Int) := by omega
    have hb4 : p ≤ 9000 := by have := HP.out; omega
    by_cases hkr : k < r
    · have e1 := byte_at hb hB HC.out (show L[p]? = some x by rw [HP.out, ← HAT.out]; exact HR3.out k hkr)
      have z1 : ∀ z : LaterOf wr, z.w.cell? ⟨b, off + p, none⟩ = some (.int .u8 (x : Int)) := fun z => z.cell e1
      have i1 : (p : Int) < (n : Int) := by have := HP.out; omega
      have i2 : (k : Int) < 128 := by omega
      have i3 : k < 128 := by omega
      have i4 : p < n := by omega
      clear e0 e1
      go_wp2
      refine wp_region_later (by kernel_rfl) (by kernel_rfl) ?_
      repeat (go_big_quiet_step (fail))
      refine wpQuiet_nil ?_; intro x1 hw'; obtain ⟨xq, hw''⟩ := hw'; obtain ⟨xw0, h1⟩ := xq; change x1 = xw0 at hw''; subst hw''
      go_wp2
      go_roundg (r + 1 - (k + 1))
      case measure => omega
      case rel => exact ⟨k + 1, by omega, rfl, by go_num, hB.trans (h1.mono hB.size)⟩
    · obtain rfl : k = r := by omega
      clear e0
      by_cases hkn : p < n
      · have i1 : (p : Int) < (n : Int) := by omega
        by_cases hk8 : k < 128
        · have i2 : (k : Int) < 128 := by omega
          obtain ⟨y, hy, hne⟩ : ∃ y, l[k]? = some y ∧ y ≠ x := by
            have := HP.out
            rcases HR4.out with h | h | h
            · omega
            · omega
            · exact h
          have e1 := byte_at hb hB HC.out (show L[p]? = some y by rw [HP.out, ← HAT.out]; exact hy)
          have z1 : ∀ z : LaterOf wr, z.w.cell? ⟨b, off + p, none⟩ = some (.int .u8 (y : Int)) := fun z => z.cell e1
          have n1 : ((y : Int) == (x : Int)) = false := by simp; omega
          have n2 : ¬ (y : Int) = (x : Int) := by omega
          clear e1 hy
          go_wp2
          refine wp_region_later (by kernel_rfl) (by kernel_rfl) ?_
          repeat (go_big_quiet_step (fail))
          refine wpQuiet_nil ?_; intro x1 hw'; obtain ⟨xq, hw''⟩ := hw'; obtain ⟨xw0, h1⟩ := xq; change x1 = xw0 at hw''; subst hw''
          go_wp2
          go_ret
          exact Ret.mk rfl (hB.trans (h1.mono hB.size))
        · obtain rfl : k = 128 := by omega
          have kq : (a : Int) + 128 = (p : Int) := by rw [HP.out]; omega
          clear kp
          go_wp2
          refine wp_region_later (by kernel_rfl) (by kernel_rfl) ?_
          repeat (go_big_quiet_step (fail))
          refine wpQuiet_nil ?_; intro x1 hw'; obtain ⟨xq, hw''⟩ := hw'; obtain ⟨xw0, h1⟩ := xq; change x1 = xw0 at hw''; subst hw''
          go_wp2
          go_ret
          exact Ret.mk rfl (hB.trans (h1.mono hB.size))
      · have i1 : ¬ (p : Int) < (n : Int) := by omega
        go_wp2
        refine wp_region_later (by kernel_rfl) (by kernel_rfl) ?_
        repeat (go_big_quiet_step (fail))
        refine wpQuiet_nil ?_; intro x1 hw'; obtain ⟨xq, hw''⟩ := hw'; obtain ⟨xw0, h1⟩ := xq; change x1 = xw0 at hw''; subst hw''
        go_wp2
        go_ret
        exact Ret.mk rfl (hB.trans (h1.mono hB.size))
end Pr
end Go.Proofs.Ytakmfjnfkjdbfaa
