/-
  Paths: walks of slices.Clone at names, strings.SplitSeq and path.Parts. Conditions: none beyond each theorem's own premises.
-/
import Derived.Test.YtgidkaidljiddaaDoorPtW
import Derived.Test.YtgidkaidljiddaaDoorBase
namespace Go.Proofs.YtgidkaidljiddaaDoor
open Go.RowKit Go.Shelf
set_option linter.unusedVariables false
attribute [local go_sem] Oper.semAt_some
namespace Pt

def sc (x : By) : List Value := [.string (bs x)]
theorem sc_len : ∀ x : By, (sc x).length = 1 := fun _ => rfl
theorem sc_one (l : List By) : ∀ u ∈ l.flatMap sc, u.oneCell' = true := by
  intro u hu
  obtain ⟨c, _, hc⟩ := List.mem_flatMap.1 hu
  simp [sc] at hc
  subst hc
  rfl
theorem string_info : (Tryd.prog.info? 9).map (fun i => (i.zero, i.size, i.bytes)) = some (some (.string ⟨#[]⟩), 1, 16) := by kernel_rfl
set_option maxHeartbeats 800000 in
theorem sclone_any (A : Option Addr) (n c : Nat) (xs : List Value) (w : World) (hr : Rd w w.heap.size 1 A n xs) (h1 : ∀ u ∈ xs, u.oneCell' = true) (hn : n * 16 ≤ 140737488355328) (hm : n ≤ 9223372036854775807) :
    Calls Tryd.prog 37 #[.slice A n c] w (SliceRet w 9 1 n xs) := by
  obtain ⟨ti, hti, t0, t1, t2⟩ := info_parts string_info
  have HR := Lib.hid hr
  have H1 := Lib.hid h1
  have hnil : ∀ w, (binOp .eql 42 (.slice A n c) (.slice none 0 0)).run Tryd.prog w = .ok (.bool A.isNone) w := fun w => Lib.run_eql_slice_nil w 42 9 A n c 0 0 Tryd.underlying42
  clear hr h1
  cases A with
  | none =>
    obtain rfl : n = 0 := by
      rcases Nat.eq_zero_or_pos n with h | h
      · exact h
      · obtain ⟨b, off, hA, _⟩ := HR.out.2 h; cases hA
    obtain rfl : xs = [] := List.eq_nil_of_length_eq_zero (by have := HR.out.1; omega)
    have hnil' : ∀ w, (binOp .eql 42 (.slice none 0 c) (.slice none 0 0)).run Tryd.prog w = .ok (.bool true) w := hnil
    clear hnil
    go_enter Tryd.func37, Tryd.ntmps37
    go_wp2
    go_ret
    exact ⟨none, 0, Nat.le_refl _, rfl, (Sep.nil_ w).nilRow 9 1 none⟩
  | some a =>
    have hnil' : ∀ w, (binOp .eql 42 (.slice (some a) n c) (.slice none 0 0)).run Tryd.prog w = .ok (.bool false) w := hnil
    clear hnil
    have HS0 : Hid (Sep w (w.alloc (.cells #[] 9)) [.row 9 1 (.slice (some ⟨w.heap.size, 0, none⟩) 0 0) 0 []]) := Lib.hid (((Sep.nil_ w).alloc _).nilRow 9 1 _)
    have HRs := Lib.hid (HR.out.later HS0.out.below)
    go_enter Tryd.func37, Tryd.ntmps37
    go_wp2_with (at_builtin; refine wpList_append_sep HS0.out 0 rfl (.tmp 5) (.tmp 6) 42 rfl 9 ti (.string ⟨#[]⟩) 1 16 Tryd.underlying42 hti t0 t1 t2 rfl (by omega) _ 0 _ rfl rfl _ _ n c _ rfl HRs.out H1.out (by simp only [maxLen]; omega) (by omega) ?_; intro A6 c6 w3 hc6 hs3 HA)
    go_ret
    simp only [Nat.zero_add, List.nil_append] at HA hc6 ⊢
    exact ⟨A6, c6, hc6, rfl, HA⟩

/-- a row made shorter -/
theorem row_upto {w : World} {E size n c k : Nat} {A : Option Addr} {xs : List Value} (h : Row w E size (.slice A n c) n xs) (hk : k ≤ n) : Row w E size (.slice A k c) k (xs.take (k * size)) := by
  refine ⟨by rw [List.length_take, h.1]; exact Nat.min_eq_left (Nat.mul_le_mul_right _ hk), ?_⟩
  rcases h.2 with ⟨rfl, hv⟩ | ⟨g, cap, cur, hv, hh, hn, hm, hs, ht⟩
  · obtain rfl : k = 0 := by omega
    exact .inl ⟨rfl, hv⟩
  · cases hv
    refine .inr ⟨g, cap, cur, rfl, hh, by omega, hm, hs, ?_⟩
    rw [← ht, List.take_take, Nat.min_eq_left (Nat.mul_le_mul_right _ hk)]
theorem sep_shorter {w0 w : World} {L : List It} (H : Sep w0 w L) (i : Nat) {E size n c k : Nat} {A : Option Addr} {xs : List Value} (hi : L[i]? = some (.row E size (.slice A n c) n xs)) (hk : k ≤ n) :
    Sep w0 w (L.set i (.row E size (.slice A k c) k (xs.take (k * size)))) := by
  refine Sep.appended H i hi (World.grownBy.refl w _) (row_upto (H.rowHas i hi) hk) ?_
  cases A <;> cases c <;> simp [rowBlk]

set_option maxRecDepth 100000 in
theorem splitSeq_any (s : By) (w : World) :
    Calls Tryd.prog 36 #[.string (bs s), .string ⟨#[47]⟩] w (fun e w' => ∃ gs gp gv, e = .returned (.func (.func 66) #[] #[.pointer (some ⟨gp, 0, none⟩), .pointer (some ⟨gs, 0, none⟩), .pointer (some ⟨gv, 0, none⟩)]) ∧
      Sep w w' [.cells gs 9 [.string (bs s)], .cells gp 9 [.string ⟨#[47]⟩], .cells gv 3 [.int .i64 0]]) := by
  have hmf : ∀ (fn : Fn) (first cap : Array Value) (w : World), (Instr.makeFunc fn first cap).run Tryd.prog w = .ok (.func fn first cap) w := fun _ _ _ _ => rfl
  have HS := Lib.hid ((((Sep.nil_ w).new 9 [.string (bs s)]).new 9 [.string ⟨#[47]⟩]).new 3 [.int .i64 0])
  go_enter Tryd.func36, Tryd.ntmps36
  go_wp2
  go_ret
  exact ⟨_, _, _, rfl, by simpa using HS.out⟩
end Pt
end Go.Proofs.YtgidkaidljiddaaDoor
