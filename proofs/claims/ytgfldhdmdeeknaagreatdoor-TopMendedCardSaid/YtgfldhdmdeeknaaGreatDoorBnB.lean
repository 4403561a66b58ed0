/-
  Texts as lists of bytes: []byte(s), string([]byte{b}), string(rune). Conditions: none beyond each theorem's own premises.
-/
import Derived.Test.YtgfldhdmdeeknaaGreatDoorBnM
import Derived.Test.YtgfldhdmdeeknaaGreatDoorBase
import Derived.Test.YtgfldhdmdeeknaaGreatDoorStrB
namespace Go.Proofs.YtgfldhdmdeeknaaGreatDoor
open Go.RowKit
set_option linter.unusedVariables false
namespace Bn

/-- the string of these bytes -/
def bs (x : By) : ByteArray := ⟨x.toArray⟩
theorem bs_data (x : By) : (bs x).data.toList = x := by simp [bs]
theorem bs_size (x : By) : (bs x).size = x.length := by simp [bs, ByteArray.size]
theorem bs_of (s : ByteArray) : bs s.data.toList = s := by simp [bs]
theorem bs_toList (x : By) : (bs x).toList = x := by rw [ByteArray.toList_eq]; exact bs_data x
theorem bs_inj {x y : By} (h : bs x = bs y) : x = y := by rw [← bs_data x, ← bs_data y, h]
theorem bs_ext (s : ByteArray) (x : By) (i j : Nat) (h : (s.data.toList.take j).drop i = x) : s.extract i j = bs x := by
  apply ByteArray.ext
  apply Array.ext'
  rw [ByteArray.data_extract]
  simp [bs, ← h, List.drop_take]
theorem bs_cat (x y : By) : bs x ++ bs y = bs (x ++ y) := by
  apply ByteArray.ext
  apply Array.ext'
  simp [bs]
theorem bs_ne {x y : By} (h : x ≠ y) : ((bs x).toList == (bs y).toList) = false := by
  rw [bs_toList, bs_toList]
  simp [h]
theorem size_data (s : ByteArray) : s.data.toList.length = s.size := by rw [Array.length_toList]; rfl

theorem bytes_of (x : By) (S : ByteArray) (hS : bs x = S) (w : World) : ∃ (c : Nat) (w1 : World), (convert 9 22 (.string S)).run Tryz.prog w = .ok (.slice (some ⟨w.heap.size, 0, none⟩) x.length c) w1 ∧ Below w.heap.size w w1 ∧ w.heap.size < w1.heap.size ∧ ∀ (i : Nat) (b : UInt8), x[i]? = some b → w1.cell? ⟨w.heap.size, i, none⟩ = some (.int .u8 (b.toNat : Int)) := by
  subst hS
  have hrun := run_bytes_of_string w 9 22 5 (bs x) Tryz.underlying9 Tryz.underlying22 Tryz.underlying5
  rw [bs_size] at hrun
  refine ⟨_, _, hrun, ((Below.refl _ _).drew).alloc (Nat.le_refl _) _, (by show w.heap.size < (w.heap.push _).size; simp), fun i b hb => ?_⟩
  obtain ⟨hi0, hib⟩ := List.getElem?_eq_some_iff.1 hb
  have hi : i < (bs x).size := by rw [bs_size]; exact hi0
  have hh := heap_alloc_new w.drew (.cells (bytesRow (bs x) (grownCap w x.length 0 5)) 5 ((bytesRow (bs x) (grownCap w x.length 0 5)).size, (bytesRow (bs x) (grownCap w x.length 0 5)).size + 1))
  have hh2 : (w.drew.alloc (.cells (bytesRow (bs x) (grownCap w x.length 0 5)) 5 ((bytesRow (bs x) (grownCap w x.length 0 5)).size, (bytesRow (bs x) (grownCap w x.length 0 5)).size + 1))).heap[w.heap.size]? = some (.cells (bytesRow (bs x) (grownCap w x.length 0 5)) 5 ((bytesRow (bs x) (grownCap w x.length 0 5)).size, (bytesRow (bs x) (grownCap w x.length 0 5)).size + 1)) := hh
  rw [cell_of_row _ _ i _ _ _ hh2, bytesRow_at (bs x) _ i hi]
  have e : (bs x).data[i]'hi = b := by
    rw [← hib]
    simp [bs]
  rw [e]
theorem one_byte (b : UInt8) (w : World) : (convert 22 9 (.slice (some ⟨w.heap.size, 0, none⟩) 1 1)).run Tryz.prog (w.alloc (.cells #[.int .u8 (b.toNat : Int)] 5)) = .ok (.string (bs [b])) (w.alloc (.cells #[.int .u8 (b.toNat : Int)] 5)) := by
  have hr := Rd.of_own (own_new w 5 #[.int .u8 (b.toNat : Int)] 1 1 rfl (by simp [maxLen]) (Nat.le_refl _))
  have h := run_str_rd (c := 1) (l := [b.toNat]) 22 9 5 Tryz.underlying22 Tryz.underlying5 Tryz.underlying9 hr (by
    intro x hx
    rw [List.mem_singleton.1 hx]
    exact b.toNat_lt)
  rw [h]
  have e : strOf [b.toNat] = bs [b] := by simp [strOf, bs]
  rw [e]
/-- the letter of a half of a byte -/
def hexC (d : Nat) : Nat := if d < 10 then 48 + d else 87 + d
theorem rune_one (d : Nat) (h : d < 16) (w : World) : (convert 21 9 (.int .i32 (hexC d : Int))).run Tryz.prog w = .ok (.string (bs [Lib.Hx.digit d])) w := by
  have r0 : (convert 21 9 (.int .i32 48)).run Tryz.prog w = .ok (.string ⟨#[48]⟩) w := by kernel_rfl
  have r1 : (convert 21 9 (.int .i32 49)).run Tryz.prog w = .ok (.string ⟨#[49]⟩) w := by kernel_rfl
  have r2 : (convert 21 9 (.int .i32 50)).run Tryz.prog w = .ok (.string ⟨#[50]⟩) w := by kernel_rfl
  have r3 : (convert 21 9 (.int .i32 51)).run Tryz.prog w = .ok (.string ⟨#[51]⟩) w := by kernel_rfl
  have r4 : (convert 21 9 (.int .i32 52)).run Tryz.prog w = .ok (.string ⟨#[52]⟩) w := by kernel_rfl
  have r5 : (convert 21 9 (.int .i32 53)).run Tryz.prog w = .ok (.string ⟨#[53]⟩) w := by kernel_rfl
  have r6 : (convert 21 9 (.int .i32 54)).run Tryz.prog w = .ok (.string ⟨#[54]⟩) w := by kernel_rfl
  have r7 : (convert 21 9 (.int .i32 55)).run Tryz.prog w = .ok (.string ⟨#[55]⟩) w := by kernel_rfl
  have r8 : (convert 21 9 (.int .i32 56)).run Tryz.prog w = .ok (.string ⟨#[56]⟩) w := by kernel_rfl
  have r9 : (convert 21 9 (.int .i32 57)).run Tryz.prog w = .ok (.string ⟨#[57]⟩) w := by kernel_rfl
  have r10 : (convert 21 9 (.int .i32 97)).run Tryz.prog w = .ok (.string ⟨#[97]⟩) w := by kernel_rfl
  have r11 : (convert 21 9 (.int .i32 98)).run Tryz.prog w = .ok (.string ⟨#[98]⟩) w := by kernel_rfl
  have r12 : (convert 21 9 (.int .i32 99)).run Tryz.prog w = .ok (.string ⟨#[99]⟩) w := by kernel_rfl
  have r13 : (convert 21 9 (.int .i32 100)).run Tryz.prog w = .ok (.string ⟨#[100]⟩) w := by kernel_rfl
  have r14 : (convert 21 9 (.int .i32 101)).run Tryz.prog w = .ok (.string ⟨#[101]⟩) w := by kernel_rfl
  have r15 : (convert 21 9 (.int .i32 102)).run Tryz.prog w = .ok (.string ⟨#[102]⟩) w := by kernel_rfl
  match d, h with
  | 0, _ => exact r0
  | 1, _ => exact r1
  | 2, _ => exact r2
  | 3, _ => exact r3
  | 4, _ => exact r4
  | 5, _ => exact r5
  | 6, _ => exact r6
  | 7, _ => exact r7
  | 8, _ => exact r8
  | 9, _ => exact r9
  | 10, _ => exact r10
  | 11, _ => exact r11
  | 12, _ => exact r12
  | 13, _ => exact r13
  | 14, _ => exact r14
  | 15, _ => exact r15
  | n + 16, h => exact absurd h (by omega)
end Bn
end Go.Proofs.YtgfldhdmdeeknaaGreatDoor
