/-
  Walks of fsck.Right and the reference's URight, UCount, USame. Conditions: none beyond each theorem's own premises.
-/
import Derived.Test.YtlgknolcknlinaaFsM
import Derived.Test.YtlgknolcknlinaaSep
namespace Go.Proofs.Ytlgknolcknlinaa
open Go.RowKit
set_option linter.unusedVariables false
namespace Fs

structure Cm where
  file : Int
  A : Option Addr
  n : Nat
  c : Nat
  bs : List Int
def Cm.cells (x : Cm) : List Value := [.int .i64 x.file, .slice x.A x.n x.c]
theorem Cm.len : ∀ x : Cm, x.cells.length = 2 := fun _ => rfl
def Cm.p (x : Cm) : Int × List Int := (x.file, x.bs)
def Cm.ok (w : World) (x : Cm) : Prop := Rd w w.heap.size 1 x.A x.n (x.bs.flatMap icell) ∧ x.bs.length = x.n ∧ x.n ≤ maxLen
theorem Cm.ok.later {w w' : World} {x : Cm} (h : x.ok w) (hb : Below w.heap.size w w') : x.ok w' := ⟨h.1.later hb, h.2⟩
theorem Cm.facts {w wr : World} {b off Bd k : Nat} {l : List Cm} {x : Cm} (hb : b < Bd) (hB : Below Bd w wr) (hc : ∀ (i j : Nat) (x : Cm) (u : Value), l[i]? = some x → x.cells[j]? = some u → w.cell? ⟨b, off + (i * 2 + j), none⟩ = some u)
    (hx : l[k]? = some x) : wr.cell? ⟨b, off + k * 2, none⟩ = some (.int .i64 x.file) ∧ wr.cell? ⟨b, off + k * 2 + 1, none⟩ = some (.slice x.A x.n x.c) :=
  ⟨(hB.cell hb).trans (hc k 0 x _ hx rfl), (hB.cell hb).trans (hc k 1 x _ hx rfl)⟩
theorem ifact {w wr : World} {b off Bd k : Nat} {l : List Int} {x : Int} (hb : b < Bd) (hB : Below Bd w wr) (hc : ∀ (i j : Nat) (x : Int) (u : Value), l[i]? = some x → (icell x)[j]? = some u → w.cell? ⟨b, off + (i * 1 + j), none⟩ = some u)
    (hx : l[k]? = some x) : wr.cell? ⟨b, off + k, none⟩ = some (.int .i64 x) := by
  have := hc k 0 x _ hx rfl
  rw [Nat.mul_one] at this
  exact (hB.cell hb).trans this
/-- a list of claims that can be read -/
structure CL (w : World) (A : Option Addr) (n : Nat) (l : List Cm) : Prop where
  rd : Rd w w.heap.size 2 A n (l.flatMap Cm.cells)
  len : l.length = n
  ok : ∀ x ∈ l, x.ok w
theorem CL.later {w w' : World} {A : Option Addr} {n : Nat} {l : List Cm} (h : CL w A n l) (hb : Below w.heap.size w w') : CL w' A n l := ⟨h.rd.later hb, h.len, fun x hx => (h.ok x hx).later hb⟩

set_option maxHeartbeats 800000 in
theorem same_any (A A' : Option Addr) (n c c' : Nat) (l : List Int) (w : World) (hr : Rd w w.heap.size 1 A n (l.flatMap icell)) (hr' : Rd w w.heap.size 1 A' n (l.flatMap icell)) (hl : l.length = n) (hn : n ≤ 9223372036854775807) :
    Calls Try.prog 12 #[.slice A n c, .slice A' n c'] w (Ret w (.bool true)) := by
  have HR := Lib.hid hr
  have HR' := Lib.hid hr'
  have HL := Lib.hid hl
  clear hr hr' hl
  go_enter Try.func12, Try.ntmps12
  go_wp2
  go_loopg [13] n (fun g i wr => ∃ k : Nat, k ≤ n ∧ g = n - k ∧ i = .int .i64 k ∧ Below w.heap.size w wr)
  case atStart => exact ⟨0, Nat.zero_le _, rfl, rfl, Below.refl _ _⟩
  case round =>
    obtain ⟨k, hk, rfl, rfl, hB⟩ := hrel
    by_cases hlt : k < n
    · obtain ⟨b, off, rfl, hb, hc⟩ := HR.out.at_ icell_len (by omega)
      obtain ⟨b', off', rfl, hb', hc'⟩ := HR'.out.at_ icell_len (by omega)
      obtain ⟨y, hy⟩ : ∃ y, l[k]? = some y := ⟨_, List.getElem?_eq_getElem (by rw [HL.out]; exact hlt)⟩
      have d1 : ∀ z : LaterOf wr, z.w.cell? ⟨b, off + k, none⟩ = some (.int .i64 y) := fun z => z.cell ((hB.cell hb).trans (by have := hc k 0 y _ hy rfl; simpa using this))
      have d2 : ∀ z : LaterOf wr, z.w.cell? ⟨b', off' + k, none⟩ = some (.int .i64 y) := fun z => z.cell ((hB.cell hb').trans (by have := hc' k 0 y _ hy rfl; simpa using this))
      clear hc hc' hy
      have i0 : (0 : Int) ≤ (k : Int) := by omega
      have i1 : (k : Int) < (n : Int) := by omega
      go_upto_region 6 with (fail)
      refine wp_region_later (by kernel_rfl) (by kernel_rfl) ?_
      repeat (go_big_quiet_step (fail))
      refine wpQuiet_nil ?_; intro xw hw'; obtain ⟨xq, hw''⟩ := hw'; obtain ⟨xw0, xh⟩ := xq; change xw = xw0 at hw''; subst hw''
      go_wp2
      go_roundg (n - (k + 1))
      case measure => omega
      case rel => exact ⟨k + 1, by omega, rfl, by go_num, hB.trans (xh.mono hB.size)⟩
    · go_wp2
      go_ret
      exact Ret.mk rfl hB

def okB (z : Int) (n : Nat) : Bool := (decide (0 ≤ z) && decide (z ≤ 4096)) && decide (n ≤ 400)
theorem okB_lo {z : Int} {n : Nat} (h : ¬ 0 ≤ z) : okB z n = false := by simp [okB, h]
theorem okB_hi {z : Int} {n : Nat} (h : ¬ z ≤ 4096) : okB z n = false := by simp [okB, h]
theorem okB_many {z : Int} {n : Nat} (h : ¬ n ≤ 400) : okB z n = false := by simp [okB, h]
theorem okB_yes {z : Int} {n : Nat} (h : 0 ≤ z) (h1 : z ≤ 4096) (h2 : n ≤ 400) : okB z n = true := by simp [okB, h, h1, h2]

set_option maxHeartbeats 800000 in
theorem right_any (z : Int) (A A' : Option Addr) (m c' n c : Nat) (ms : List Int) (w : World) (hr : Rd w w.heap.size 1 A n (ms.flatMap icell)) (hl : ms.length = n) (hn : n ≤ 9223372036854775807) :
    Calls Try.prog 5 #[.int .i64 z, .slice A' m c', .slice A n c] w (Ret w (.bool (okB z m && rightF z (-1) ms))) := by
  have HR := Lib.hid hr
  have HL := Lib.hid hl
  clear hr hl
  by_cases h0 : 0 ≤ z
  case neg =>
    rw [okB_lo h0]
    have h0' : z < 0 := by omega
    go_enter Try.func5, Try.ntmps5
    go_wp2
    go_ret
    exact Ret.mk rfl (by repeat (first | with_reducible refine Below.setCell ?_ (by first | (simp; done) | (simp; omega)) _ | with_reducible assumption | with_reducible exact Below.refl _ _ | with_reducible refine Below.alloc ?_ (by first | omega | (simp; done) | (simp; omega)) _ | with_reducible refine Below.drew ?_))
  by_cases h1 : z ≤ 4096
  case neg =>
    rw [okB_hi h1]
    have h0' : ¬ z < 0 := by omega
    have h1' : z > 4096 := by omega
    go_enter Try.func5, Try.ntmps5
    go_wp2
    go_ret
    exact Ret.mk rfl (by repeat (first | with_reducible refine Below.setCell ?_ (by first | (simp; done) | (simp; omega)) _ | with_reducible assumption | with_reducible exact Below.refl _ _ | with_reducible refine Below.alloc ?_ (by first | omega | (simp; done) | (simp; omega)) _ | with_reducible refine Below.drew ?_))
  have h0' : ¬ z < 0 := by omega
  have h1' : ¬ z > 4096 := by omega
  by_cases h2 : m ≤ 400
  case neg =>
    rw [okB_many h2]
    have h2' : (m : Int) > 400 := by omega
    go_enter Try.func5, Try.ntmps5
    go_wp2
    go_ret
    exact Ret.mk rfl (by repeat (first | with_reducible refine Below.setCell ?_ (by first | (simp; done) | (simp; omega)) _ | with_reducible assumption | with_reducible exact Below.refl _ _ | with_reducible refine Below.alloc ?_ (by first | omega | (simp; done) | (simp; omega)) _ | with_reducible refine Below.drew ?_))
  have h2' : ¬ (m : Int) > 400 := by omega
  rw [okB_yes h0 h1 h2, Bool.true_and]
  go_enter Try.func5, Try.ntmps5
  go_wp2
  go_loopg [7, 23] n (fun g v i wr => ∃ (k : Nat) (last : Int), k ≤ n ∧ g = n - k ∧ v = .int .i64 last ∧ i = .int .i64 k ∧ Hid (rightF z (-1) ms = rightF z last (ms.drop k)) ∧ Below w.heap.size w wr)
  case atStart => exact ⟨0, -1, Nat.zero_le _, rfl, rfl, rfl, Lib.hid rfl, Below.refl _ _⟩
  case round =>
    obtain ⟨k, last, hk, rfl, rfl, rfl, HF, hB⟩ := hrel
    by_cases hlt : k < n
    · obtain ⟨b, off, rfl, hb, hc⟩ := HR.out.at_ icell_len (by omega)
      obtain ⟨y, hy⟩ : ∃ y, ms[k]? = some y := ⟨_, List.getElem?_eq_getElem (by rw [HL.out]; exact hlt)⟩
      have c0 := ifact hb hB hc hy
      have HS := Lib.hid (rightF_step (z := z) (last := last) hy)
      clear hc hy
      by_cases ha : y ≤ last
      · go_wp2
        go_ret
        exact Ret.mk (bool_eq (by rw [HF.out, HS.out, decide_eq_false (by omega)]; rfl)) (by repeat (first | with_reducible refine Below.setCell ?_ (by first | (simp; done) | (simp; omega)) _ | with_reducible assumption | with_reducible exact Below.refl _ _ | with_reducible refine Below.alloc ?_ (by first | omega | (simp; done) | (simp; omega)) _ | with_reducible refine Below.drew ?_))
      · by_cases hz : y ≥ z
        · go_wp2
          go_ret
          exact Ret.mk (bool_eq (by rw [HF.out, HS.out, decide_eq_false (p := y < z) (by omega), Bool.and_false]; rfl)) (by repeat (first | with_reducible refine Below.setCell ?_ (by first | (simp; done) | (simp; omega)) _ | with_reducible assumption | with_reducible exact Below.refl _ _ | with_reducible refine Below.alloc ?_ (by first | omega | (simp; done) | (simp; omega)) _ | with_reducible refine Below.drew ?_))
        · have HN : Hid (rightF z (-1) ms = rightF z y (ms.drop (k + 1))) := Lib.hid (by rw [HF.out, HS.out, decide_eq_true (show last < y by omega), decide_eq_true (show y < z by omega)]; rfl)
          clear HF HS
          go_wp2
          go_roundg (n - (k + 1))
          case measure => omega
          case rel => exact ⟨k + 1, y, by omega, rfl, rfl, by go_num, HN, hB⟩
    · have HE : rightF z (-1) ms = true := by rw [HF.out, show k = ms.length by rw [HL.out]; omega, rightF_end]
      clear HF
      have HE2 := Lib.hid HE
      clear HE
      go_wp2
      go_ret
      exact Ret.mk (bool_eq HE2.out.symm) (by repeat (first | with_reducible refine Below.setCell ?_ (by first | (simp; done) | (simp; omega)) _ | with_reducible assumption | with_reducible exact Below.refl _ _ | with_reducible refine Below.alloc ?_ (by first | omega | (simp; done) | (simp; omega)) _ | with_reducible refine Below.drew ?_))

theorem uright_walk_eq {z : Int} {ok : Bool} {last y : Int} {l : List Int} {k : Nat} (hy : l[k]? = some y) : (ok && rightF z last (l.drop k)) = (((ok && decide (last < y)) && decide (y < z)) && rightF z y (l.drop (k + 1))) := by
  rw [rightF_step hy, Bool.and_assoc, Bool.and_assoc, Bool.and_assoc]

set_option maxHeartbeats 1600000 in
theorem uright_any (z : Int) (A A' : Option Addr) (m c' n c : Nat) (ms : List Int) (w : World) (hr : Rd w w.heap.size 1 A n (ms.flatMap icell)) (hl : ms.length = n) (hn : n ≤ 9223372036854775807) :
    Calls Try.prog 6 #[.int .i64 z, .slice A' m c', .slice A n c] w (Ret w (.bool (okB z m && rightF z (-1) ms))) := by
  have HR := Lib.hid hr
  have HL := Lib.hid hl
  clear hr hl
  by_cases h0 : 0 ≤ z
  case neg =>
    rw [okB_lo h0]
    have h0' : ¬ z ≥ 0 := by omega
    go_enter Try.func6, Try.ntmps6
    go_wp2
    go_loopg [7, 8, 24] n (fun g o v i wr => ∃ (k : Nat) (ok : Bool) (last : Int), k ≤ n ∧ g = n - k ∧ o = .bool ok ∧ v = .int .i64 last ∧ i = .int .i64 k ∧ Hid ((false && rightF z (-1) ms) = (ok && rightF z last (ms.drop k))) ∧ Below w.heap.size w wr)
    case atStart => exact ⟨0, false, -1, Nat.zero_le _, rfl, rfl, rfl, rfl, Lib.hid rfl, Below.refl _ _⟩
    case round =>
      obtain ⟨k, ok, last, hk, rfl, rfl, rfl, rfl, HF, hB⟩ := hrel
      by_cases hlt : k < n
      · obtain ⟨b, off, rfl, hb, hc⟩ := HR.out.at_ icell_len (by omega)
        obtain ⟨y, hy⟩ : ∃ y, ms[k]? = some y := ⟨_, List.getElem?_eq_getElem (by rw [HL.out]; exact hlt)⟩
        have c0 := ifact hb hB hc hy
        have HS := Lib.hid (uright_walk_eq (z := z) (ok := ok) (last := last) hy)
        clear hc hy
        cases ok with
        | false =>
          have HN : Hid ((false && rightF z (-1) ms) = (false && rightF z y (ms.drop (k + 1)))) := Lib.hid (by rw [HF.out, HS.out]; rfl)
          clear HF HS
          go_wp2
          go_roundg (n - (k + 1))
          case measure => omega
          case rel => exact ⟨k + 1, false, y, by omega, rfl, rfl, rfl, by go_num, HN, hB⟩
        | true =>
          by_cases ha : y > last
          · by_cases hz : y < z
            · have HN : Hid ((false && rightF z (-1) ms) = (true && rightF z y (ms.drop (k + 1)))) := Lib.hid (by rw [HF.out, HS.out, decide_eq_true (show last < y by omega), decide_eq_true (show y < z by omega)]; rfl)
              clear HF HS
              go_wp2
              go_roundg (n - (k + 1))
              case measure => omega
              case rel => exact ⟨k + 1, true, y, by omega, rfl, rfl, rfl, by go_num, HN, hB⟩
            · have HN : Hid ((false && rightF z (-1) ms) = (false && rightF z y (ms.drop (k + 1)))) := Lib.hid (by rw [HF.out, HS.out, decide_eq_true (show last < y by omega), decide_eq_false (p := y < z) (by omega)]; rfl)
              clear HF HS
              go_wp2
              go_roundg (n - (k + 1))
              case measure => omega
              case rel => exact ⟨k + 1, false, y, by omega, rfl, rfl, rfl, by go_num, HN, hB⟩
          · have HN : Hid ((false && rightF z (-1) ms) = (false && rightF z y (ms.drop (k + 1)))) := Lib.hid (by rw [HF.out, HS.out, decide_eq_false (p := last < y) (by omega)]; rfl)
            clear HF HS
            go_wp2
            go_roundg (n - (k + 1))
            case measure => omega
            case rel => exact ⟨k + 1, false, y, by omega, rfl, rfl, rfl, by go_num, HN, hB⟩
      · have HE : (false && rightF z (-1) ms) = ok := by rw [HF.out, show k = ms.length by rw [HL.out]; omega, rightF_end, Bool.and_true]
        clear HF
        have HE2 := Lib.hid HE
        clear HE
        go_wp2
        go_ret
        exact Ret.mk (bool_eq HE2.out.symm) (by repeat (first | with_reducible refine Below.setCell ?_ (by first | (simp; done) | (simp; omega)) _ | with_reducible assumption | with_reducible exact Below.refl _ _ | with_reducible refine Below.alloc ?_ (by first | omega | (simp; done) | (simp; omega)) _ | with_reducible refine Below.drew ?_))
  have h0' : z ≥ 0 := by omega
  by_cases h1 : z ≤ 4096
  case neg =>
    rw [okB_hi h1]
    go_enter Try.func6, Try.ntmps6
    go_wp2
    go_loopg [7, 8, 24] n (fun g o v i wr => ∃ (k : Nat) (ok : Bool) (last : Int), k ≤ n ∧ g = n - k ∧ o = .bool ok ∧ v = .int .i64 last ∧ i = .int .i64 k ∧ Hid ((false && rightF z (-1) ms) = (ok && rightF z last (ms.drop k))) ∧ Below w.heap.size w wr)
    case atStart => exact ⟨0, false, -1, Nat.zero_le _, rfl, rfl, rfl, rfl, Lib.hid rfl, Below.refl _ _⟩
    case round =>
      obtain ⟨k, ok, last, hk, rfl, rfl, rfl, rfl, HF, hB⟩ := hrel
      by_cases hlt : k < n
      · obtain ⟨b, off, rfl, hb, hc⟩ := HR.out.at_ icell_len (by omega)
        obtain ⟨y, hy⟩ : ∃ y, ms[k]? = some y := ⟨_, List.getElem?_eq_getElem (by rw [HL.out]; exact hlt)⟩
        have c0 := ifact hb hB hc hy
        have HS := Lib.hid (uright_walk_eq (z := z) (ok := ok) (last := last) hy)
        clear hc hy
        cases ok with
        | false =>
          have HN : Hid ((false && rightF z (-1) ms) = (false && rightF z y (ms.drop (k + 1)))) := Lib.hid (by rw [HF.out, HS.out]; rfl)
          clear HF HS
          go_wp2
          go_roundg (n - (k + 1))
          case measure => omega
          case rel => exact ⟨k + 1, false, y, by omega, rfl, rfl, rfl, by go_num, HN, hB⟩
        | true =>
          by_cases ha : y > last
          · by_cases hz : y < z
            · have HN : Hid ((false && rightF z (-1) ms) = (true && rightF z y (ms.drop (k + 1)))) := Lib.hid (by rw [HF.out, HS.out, decide_eq_true (show last < y by omega), decide_eq_true (show y < z by omega)]; rfl)
              clear HF HS
              go_wp2
              go_roundg (n - (k + 1))
              case measure => omega
              case rel => exact ⟨k + 1, true, y, by omega, rfl, rfl, rfl, by go_num, HN, hB⟩
            · have HN : Hid ((false && rightF z (-1) ms) = (false && rightF z y (ms.drop (k + 1)))) := Lib.hid (by rw [HF.out, HS.out, decide_eq_true (show last < y by omega), decide_eq_false (p := y < z) (by omega)]; rfl)
              clear HF HS
              go_wp2
              go_roundg (n - (k + 1))
              case measure => omega
              case rel => exact ⟨k + 1, false, y, by omega, rfl, rfl, rfl, by go_num, HN, hB⟩
          · have HN : Hid ((false && rightF z (-1) ms) = (false && rightF z y (ms.drop (k + 1)))) := Lib.hid (by rw [HF.out, HS.out, decide_eq_false (p := last < y) (by omega)]; rfl)
            clear HF HS
            go_wp2
            go_roundg (n - (k + 1))
            case measure => omega
            case rel => exact ⟨k + 1, false, y, by omega, rfl, rfl, rfl, by go_num, HN, hB⟩
      · have HE : (false && rightF z (-1) ms) = ok := by rw [HF.out, show k = ms.length by rw [HL.out]; omega, rightF_end, Bool.and_true]
        clear HF
        have HE2 := Lib.hid HE
        clear HE
        go_wp2
        go_ret
        exact Ret.mk (bool_eq HE2.out.symm) (by repeat (first | with_reducible refine Below.setCell ?_ (by first | (simp; done) | (simp; omega)) _ | with_reducible assumption | with_reducible exact Below.refl _ _ | with_reducible refine Below.alloc ?_ (by first | omega | (simp; done) | (simp; omega)) _ | with_reducible refine Below.drew ?_))
  by_cases h2 : m ≤ 400
  case neg =>
    rw [okB_many h2]
    have h2' : ¬ (m : Int) ≤ 400 := by omega
    go_enter Try.func6, Try.ntmps6
    go_wp2
    go_loopg [7, 8, 24] n (fun g o v i wr => ∃ (k : Nat) (ok : Bool) (last : Int), k ≤ n ∧ g = n - k ∧ o = .bool ok ∧ v = .int .i64 last ∧ i = .int .i64 k ∧ Hid ((false && rightF z (-1) ms) = (ok && rightF z last (ms.drop k))) ∧ Below w.heap.size w wr)
    case atStart => exact ⟨0, false, -1, Nat.zero_le _, rfl, rfl, rfl, rfl, Lib.hid rfl, Below.refl _ _⟩
    case round =>
      obtain ⟨k, ok, last, hk, rfl, rfl, rfl, rfl, HF, hB⟩ := hrel
      by_cases hlt : k < n
      · obtain ⟨b, off, rfl, hb, hc⟩ := HR.out.at_ icell_len (by omega)
        obtain ⟨y, hy⟩ : ∃ y, ms[k]? = some y := ⟨_, List.getElem?_eq_getElem (by rw [HL.out]; exact hlt)⟩
        have c0 := ifact hb hB hc hy
        have HS := Lib.hid (uright_walk_eq (z := z) (ok := ok) (last := last) hy)
        clear hc hy
        cases ok with
        | false =>
          have HN : Hid ((false && rightF z (-1) ms) = (false && rightF z y (ms.drop (k + 1)))) := Lib.hid (by rw [HF.out, HS.out]; rfl)
          clear HF HS
          go_wp2
          go_roundg (n - (k + 1))
          case measure => omega
          case rel => exact ⟨k + 1, false, y, by omega, rfl, rfl, rfl, by go_num, HN, hB⟩
        | true =>
          by_cases ha : y > last
          · by_cases hz : y < z
            · have HN : Hid ((false && rightF z (-1) ms) = (true && rightF z y (ms.drop (k + 1)))) := Lib.hid (by rw [HF.out, HS.out, decide_eq_true (show last < y by omega), decide_eq_true (show y < z by omega)]; rfl)
              clear HF HS
              go_wp2
              go_roundg (n - (k + 1))
              case measure => omega
              case rel => exact ⟨k + 1, true, y, by omega, rfl, rfl, rfl, by go_num, HN, hB⟩
            · have HN : Hid ((false && rightF z (-1) ms) = (false && rightF z y (ms.drop (k + 1)))) := Lib.hid (by rw [HF.out, HS.out, decide_eq_true (show last < y by omega), decide_eq_false (p := y < z) (by omega)]; rfl)
              clear HF HS
              go_wp2
              go_roundg (n - (k + 1))
              case measure => omega
              case rel => exact ⟨k + 1, false, y, by omega, rfl, rfl, rfl, by go_num, HN, hB⟩
          · have HN : Hid ((false && rightF z (-1) ms) = (false && rightF z y (ms.drop (k + 1)))) := Lib.hid (by rw [HF.out, HS.out, decide_eq_false (p := last < y) (by omega)]; rfl)
            clear HF HS
            go_wp2
            go_roundg (n - (k + 1))
            case measure => omega
            case rel => exact ⟨k + 1, false, y, by omega, rfl, rfl, rfl, by go_num, HN, hB⟩
      · have HE : (false && rightF z (-1) ms) = ok := by rw [HF.out, show k = ms.length by rw [HL.out]; omega, rightF_end, Bool.and_true]
        clear HF
        have HE2 := Lib.hid HE
        clear HE
        go_wp2
        go_ret
        exact Ret.mk (bool_eq HE2.out.symm) (by repeat (first | with_reducible refine Below.setCell ?_ (by first | (simp; done) | (simp; omega)) _ | with_reducible assumption | with_reducible exact Below.refl _ _ | with_reducible refine Below.alloc ?_ (by first | omega | (simp; done) | (simp; omega)) _ | with_reducible refine Below.drew ?_))
  have h2' : (m : Int) ≤ 400 := by omega
  rw [okB_yes h0 h1 h2]
  go_enter Try.func6, Try.ntmps6
  go_wp2
  go_loopg [7, 8, 24] n (fun g o v i wr => ∃ (k : Nat) (ok : Bool) (last : Int), k ≤ n ∧ g = n - k ∧ o = .bool ok ∧ v = .int .i64 last ∧ i = .int .i64 k ∧ Hid ((true && rightF z (-1) ms) = (ok && rightF z last (ms.drop k))) ∧ Below w.heap.size w wr)
  case atStart => exact ⟨0, true, -1, Nat.zero_le _, rfl, rfl, rfl, rfl, Lib.hid rfl, Below.refl _ _⟩
  case round =>
    obtain ⟨k, ok, last, hk, rfl, rfl, rfl, rfl, HF, hB⟩ := hrel
    by_cases hlt : k < n
    · obtain ⟨b, off, rfl, hb, hc⟩ := HR.out.at_ icell_len (by omega)
      obtain ⟨y, hy⟩ : ∃ y, ms[k]? = some y := ⟨_, List.getElem?_eq_getElem (by rw [HL.out]; exact hlt)⟩
      have c0 := ifact hb hB hc hy
      have HS := Lib.hid (uright_walk_eq (z := z) (ok := ok) (last := last) hy)
      clear hc hy
      cases ok with
      | false =>
        have HN : Hid ((true && rightF z (-1) ms) = (false && rightF z y (ms.drop (k + 1)))) := Lib.hid (by rw [HF.out, HS.out]; rfl)
        clear HF HS
        go_wp2
        go_roundg (n - (k + 1))
        case measure => omega
        case rel => exact ⟨k + 1, false, y, by omega, rfl, rfl, rfl, by go_num, HN, hB⟩
      | true =>
        by_cases ha : y > last
        · by_cases hz : y < z
          · have HN : Hid ((true && rightF z (-1) ms) = (true && rightF z y (ms.drop (k + 1)))) := Lib.hid (by rw [HF.out, HS.out, decide_eq_true (show last < y by omega), decide_eq_true (show y < z by omega)]; rfl)
            clear HF HS
            go_wp2
            go_roundg (n - (k + 1))
            case measure => omega
            case rel => exact ⟨k + 1, true, y, by omega, rfl, rfl, rfl, by go_num, HN, hB⟩
          · have HN : Hid ((true && rightF z (-1) ms) = (false && rightF z y (ms.drop (k + 1)))) := Lib.hid (by rw [HF.out, HS.out, decide_eq_true (show last < y by omega), decide_eq_false (p := y < z) (by omega)]; rfl)
            clear HF HS
            go_wp2
            go_roundg (n - (k + 1))
            case measure => omega
            case rel => exact ⟨k + 1, false, y, by omega, rfl, rfl, rfl, by go_num, HN, hB⟩
        · have HN : Hid ((true && rightF z (-1) ms) = (false && rightF z y (ms.drop (k + 1)))) := Lib.hid (by rw [HF.out, HS.out, decide_eq_false (p := last < y) (by omega)]; rfl)
          clear HF HS
          go_wp2
          go_roundg (n - (k + 1))
          case measure => omega
          case rel => exact ⟨k + 1, false, y, by omega, rfl, rfl, rfl, by go_num, HN, hB⟩
    · have HE : (true && rightF z (-1) ms) = ok := by rw [HF.out, show k = ms.length by rw [HL.out]; omega, rightF_end, Bool.and_true]
      clear HF
      have HE2 := Lib.hid HE
      clear HE
      go_wp2
      go_ret
      exact Ret.mk (bool_eq HE2.out.symm) (by repeat (first | with_reducible refine Below.setCell ?_ (by first | (simp; done) | (simp; omega)) _ | with_reducible assumption | with_reducible exact Below.refl _ _ | with_reducible refine Below.alloc ?_ (by first | omega | (simp; done) | (simp; omega)) _ | with_reducible refine Below.drew ?_))

/-- the claims from k on -/
def cntFrom (l : List Cm) (k : Nat) (b : Int) : Nat := cnt ((l.drop k).map Cm.p) b
theorem cntFrom_step {l : List Cm} {k : Nat} {x : Cm} (h : l[k]? = some x) (b : Int) : cntFrom l k b = x.bs.count b + cntFrom l (k + 1) b := by
  obtain ⟨hl, e⟩ := List.getElem?_eq_some_iff.1 h
  unfold cntFrom cnt flat
  rw [List.drop_eq_getElem_cons hl, e, List.map_cons, List.flatMap_cons, List.count_append]
  rfl
theorem cntFrom_end (l : List Cm) (b : Int) : cntFrom l l.length b = 0 := by unfold cntFrom cnt flat; rw [List.drop_length]; rfl
theorem count_step {l : List Int} {k : Nat} {x : Int} (h : l[k]? = some x) (b : Int) : (l.drop k).count b = (if x = b then 1 else 0) + (l.drop (k + 1)).count b := by
  obtain ⟨hl, e⟩ := List.getElem?_eq_some_iff.1 h
  rw [List.drop_eq_getElem_cons hl, e, List.count_cons]
  by_cases hx : x = b
  · subst hx; simp; omega
  · simp [hx]

set_option maxHeartbeats 1600000 in
theorem count_any (A : Option Addr) (n c : Nat) (l : List Cm) (v : Int) (w : World) (hr : CL w A n l) (hn : n ≤ 9223372036854775807) (hT : cnt (l.map Cm.p) v ≤ 4611686018427387904) :
    Calls Try.prog 14 #[.slice A n c, .int .i64 v] w (Ret w (.int .i64 (cnt (l.map Cm.p) v : Nat))) := by
  have HR := Lib.hid hr
  clear hr
  obtain ⟨T, hTe⟩ : ∃ T, T = cnt (l.map Cm.p) v := ⟨_, rfl⟩
  rw [← hTe] at hT ⊢
  have HT := Lib.hid hTe
  clear hTe
  go_enter Try.func14, Try.ntmps14
  go_wp2
  go_loopg [5, 12] n (fun g u i wr => ∃ (k s : Nat), k ≤ n ∧ g = n - k ∧ u = .int .i64 (s : Int) ∧ i = .int .i64 k ∧ Hid (s + cntFrom l k v = T) ∧ Below w.heap.size w wr)
  case atStart => exact ⟨0, 0, Nat.zero_le _, rfl, rfl, rfl, Lib.hid (by rw [HT.out, cntFrom, List.drop_zero, Nat.zero_add]), Below.refl _ _⟩
  case round =>
    obtain ⟨k, s, hk, rfl, rfl, rfl, HS, hB⟩ := hrel
    by_cases hlt : k < n
    · obtain ⟨b, off, rfl, hb, hc⟩ := HR.out.rd.at_ Cm.len (by omega)
      obtain ⟨x, hx⟩ : ∃ x, l[k]? = some x := ⟨_, List.getElem?_eq_getElem (by rw [HR.out.len]; exact hlt)⟩
      obtain ⟨c0, c1⟩ := Cm.facts hb hB hc hx
      have HS2 : Hid (s + (x.bs.count v + cntFrom l (k + 1) v) = T) := Lib.hid (by rw [← cntFrom_step hx]; exact HS.out)
      have HQ := Lib.hid (HR.out.ok x (List.mem_of_getElem? hx))
      have HB := Lib.hid hB
      clear hc hx HS hB
      obtain ⟨f, Ax, nx, cx, bs⟩ := x
      simp only at c0 c1 HS2
      go_upto_region 5 with (fail)
      have HC : Hid (Below w.heap.size w (wr.alloc (.cells #[.int .i64 f, .slice Ax nx cx] 36)) ∧ (wr.alloc (.cells #[.int .i64 f, .slice Ax nx cx] 36)).cell? ⟨wr.heap.size, 1, none⟩ = some (.slice Ax nx cx)) := Lib.hid ⟨HB.out.alloc HB.out.size _, (Blk.new wr 36 [.int .i64 f, .slice Ax nx cx]).cell rfl⟩
      generalize wr.alloc (.cells #[.int .i64 f, .slice Ax nx cx] 36) = wo at HC ⊢
      generalize wr.heap.size = gb at HC ⊢
      have hB0 := HC.out.1
      have d1 := HC.out.2
      clear c0 c1 HB HC
      obtain ⟨q1, q2, q3⟩ := HQ.out
      simp only at q1 q2 q3
      have HQ1 := Lib.hid q1
      have HQ2 := Lib.hid q2
      simp only [maxLen] at q3
      clear q1 q2 HQ
      go_wp2
      clear d1
      go_loopg [5, 19] nx (fun g u i wr => ∃ (j s : Nat), j ≤ nx ∧ g = nx - j ∧ u = .int .i64 (s : Int) ∧ i = .int .i64 j ∧ Hid (s + ((bs.drop j).count v + cntFrom l (k + 1) v) = T) ∧ Below w.heap.size w wr)
      case atStart => exact ⟨0, s, Nat.zero_le _, rfl, rfl, rfl, HS2, hB0⟩
      case round =>
        clear HS2 hB0
        obtain ⟨j, s, hj, rfl, rfl, rfl, HS, hB⟩ := hrel
        by_cases hlt2 : j < nx
        · obtain ⟨b2, off2, rfl, hb2, hc2⟩ := HQ1.out.at_ icell_len (by omega)
          obtain ⟨y, hy⟩ : ∃ y, bs[j]? = some y := ⟨_, List.getElem?_eq_getElem (by rw [HQ2.out]; exact hlt2)⟩
          have e0 := ifact hb2 hB hc2 hy
          have HS2 : Hid (s + ((if y = v then 1 else 0) + (bs.drop (j + 1)).count v + cntFrom l (k + 1) v) = T) := Lib.hid (by rw [← count_step hy]; exact HS.out)
          clear hc2 hy HS
          by_cases hyv : y = v
          · have hyv' : (y == v) = true := by simpa using hyv
            have hs1 : s + 1 ≤ T := by have := HS2.out; rw [if_pos hyv] at this; omega
            have HS3 : Hid (s + 1 + ((bs.drop (j + 1)).count v + cntFrom l (k + 1) v) = T) := Lib.hid (by have := HS2.out; rw [if_pos hyv] at this; omega)
            clear HS2 hyv
            go_wp2
            go_roundg (nx - (j + 1))
            case measure => omega
            case rel => exact ⟨j + 1, s + 1, by omega, rfl, by go_num, by go_num, HS3, hB⟩
          · have hyv' : (y == v) = false := by simpa using hyv
            have HS3 : Hid (s + ((bs.drop (j + 1)).count v + cntFrom l (k + 1) v) = T) := Lib.hid (by have := HS2.out; rw [if_neg hyv] at this; omega)
            clear HS2 hyv
            go_wp2
            go_roundg (nx - (j + 1))
            case measure => omega
            case rel => exact ⟨j + 1, s, by omega, rfl, rfl, by go_num, HS3, hB⟩
        · have HS3 : Hid (s + cntFrom l (k + 1) v = T) := Lib.hid (by have := HS.out; rw [List.drop_of_length_le (by rw [HQ2.out]; omega), List.count_nil] at this; omega)
          clear HS
          go_wp2
          go_roundg (n - (k + 1))
          case measure => omega
          case rel => exact ⟨k + 1, s, by omega, rfl, rfl, by go_num, HS3, hB⟩
    · have hs : s = T := by have := HS.out; rw [show k = l.length by rw [HR.out.len]; omega, cntFrom_end] at this; omega
      subst hs
      clear HS HT
      go_wp2
      go_ret
      exact Ret.mk rfl (by repeat (first | with_reducible refine Below.setCell ?_ (by first | (simp; done) | (simp; omega)) _ | with_reducible assumption | with_reducible exact Below.refl _ _ | with_reducible refine Below.alloc ?_ (by first | omega | (simp; done) | (simp; omega)) _ | with_reducible refine Below.drew ?_))

end Fs
end Go.Proofs.Ytlgknolcknlinaa
