/-
  Small laws of words and of bytes in hexadecimal. Conditions: none.
-/
import Derived.Test.YtgfldhdmdeeknaaGreatDoorBnB
namespace Go.Proofs.YtgfldhdmdeeknaaGreatDoor
open Go.RowKit
set_option linter.unusedVariables false
namespace Bn

theorem all_step (x : By) (i : Nat) (b : UInt8) (h : x[i]? = some b) : (x.take (i + 1)).all wch = ((x.take i).all wch && wch b) := by
  rw [List.take_add_one, h, List.all_append]
  simp

theorem enc_step (x : By) (i : Nat) (b : UInt8) (h : x[i]? = some b) : Lib.Hx.encode (x.take (i + 1)) = Lib.Hx.encode (x.take i) ++ [Lib.Hx.digit (b.toNat / 16), Lib.Hx.digit (b.toNat % 16)] := by
  rw [List.take_add_one, h]
  simp [Lib.Hx.encode]
theorem enc_nil (x : By) (h : Lib.Hx.encode x = []) : x = [] := by
  have := Lib.Hx.encode_length x
  rw [h] at this
  exact List.eq_nil_of_length_eq_zero (by simp at this; omega)
theorem hexC_lt {d : Nat} (h : d < 16) : hexC d < 103 := by unfold hexC; split <;> omega
theorem wrap_u8 {e : Nat} (h : e < 256) : IntKind.u8.wrap (e : Int) = (e : Int) := by
  simp [IntKind.wrap, IntKind.bits, IntKind.signed]
  omega
theorem wrap_i32 {e : Nat} (h : e < 256) : IntKind.i32.wrap (e : Int) = (e : Int) := by
  simp [IntKind.wrap, IntKind.bits, IntKind.signed]
  omega

end Bn
end Go.Proofs.YtgfldhdmdeeknaaGreatDoor
