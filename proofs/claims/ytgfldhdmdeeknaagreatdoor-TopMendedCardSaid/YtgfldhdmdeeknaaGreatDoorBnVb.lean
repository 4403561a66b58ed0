/-
  Small laws of lines and rows of words. Conditions: none beyond each theorem's own premises.
-/
import Derived.Test.YtgfldhdmdeeknaaGreatDoorBnQ
import Derived.Test.YtgfldhdmdeeknaaGreatDoorMap
import Derived.Test.YtgfldhdmdeeknaaGreatDoorBase
namespace Go.Proofs.YtgfldhdmdeeknaaGreatDoor
open Go.RowKit Go.Shelf Go.Sort
set_option linter.unusedVariables false
namespace Bn

theorem snoc_eq {α : Type} {a b : List α} {x y : α} (h : a ++ [x] = b ++ [y]) : a = b ∧ x = y := by
  have h2 := List.append_inj' h rfl
  exact ⟨h2.1, by simpa using h2.2⟩
theorem snoc_ex {α : Type} : ∀ (l : List α), l ≠ [] → ∃ p y, l = p ++ [y]
  | l, h => ⟨l.dropLast, l.getLast h, (List.dropLast_concat_getLast h).symm⟩
theorem spl_snoc_at (c : UInt8) : ∀ (x : By), spl c (x ++ [c]) = spl c x ++ [[]]
  | [] => by rw [List.nil_append, spl_at]; rfl
  | a :: l => by
    have ih := spl_snoc_at c l
    by_cases h : a = c
    · subst h
      rw [List.cons_append, spl_at, spl_at, ih]
      rfl
    · obtain ⟨z, r, hz⟩ := spl_ne c l
      rw [List.cons_append, spl_other h hz, spl_other h (x := z) (r := r ++ [[]]) (by rw [ih, hz]; rfl)]
      rfl
theorem spl_snoc_other {b c : UInt8} (hb : b ≠ c) : ∀ (x : By) (pre : List By) (y : By), spl c x = pre ++ [y] → spl c (x ++ [b]) = pre ++ [y ++ [b]]
  | [], pre, y, h => by
    have h1 : ([] : List By) ++ [[]] = pre ++ [y] := h
    obtain ⟨rfl, rfl⟩ := snoc_eq h1
    rw [List.nil_append, spl_none [b] (by simpa using hb)]
    rfl
  | a :: l, pre, y, h => by
    obtain ⟨z, r, hz⟩ := spl_ne c l
    obtain ⟨p, u, hp⟩ := snoc_ex (spl c l) (by rw [hz]; simp)
    have ih := spl_snoc_other hb l p u hp
    by_cases ha : a = c
    · subst ha
      rw [spl_at, hp] at h
      obtain ⟨rfl, rfl⟩ := snoc_eq (a := [] :: p) (b := pre) h
      rw [List.cons_append, spl_at, ih]
      rfl
    · rw [spl_other ha hz] at h
      rw [hz] at hp
      cases p with
      | nil =>
        simp only [List.nil_append, List.cons.injEq] at hp
        obtain ⟨rfl, rfl⟩ := hp
        obtain ⟨rfl, rfl⟩ := snoc_eq (a := []) (b := pre) h
        rw [List.cons_append, spl_other ha (x := z ++ [b]) (r := []) ih]
        rfl
      | cons p0 ps =>
        simp only [List.cons_append, List.cons.injEq] at hp
        obtain ⟨rfl, rfl⟩ := hp
        obtain ⟨rfl, rfl⟩ := snoc_eq (a := (a :: z) :: ps) (b := pre) h
        rw [List.cons_append, spl_other ha (x := z) (r := ps ++ [u ++ [b]]) ih]
        rfl
/-- two letters of a text of bytes -/
theorem enc_two (dt : By) (j : Nat) (b : UInt8) (h : dt[j]? = some b) : ((Lib.Hx.encode dt).drop (2 * j)).take 2 = [Lib.Hx.digit (b.toNat / 16), Lib.Hx.digit (b.toNat % 16)] := by
  obtain ⟨h1, h2⟩ := Lib.Hx.encode_at dt j b h
  have e1 := (List.getElem?_eq_some_iff.1 h1)
  have e2 := (List.getElem?_eq_some_iff.1 h2)
  rw [List.drop_eq_getElem_cons e1.1, List.drop_eq_getElem_cons e2.1, e1.2, e2.2]
  rfl
theorem wrap_i64 {m : Nat} (h : m ≤ 9223372036854775807) : IntKind.i64.wrap (m : Int) = (m : Int) := (IntWalk.i64_left _).trans (IntWalk.wrap64_in _ ⟨by omega, by omega⟩)
theorem row_cell {w0 w : World} {L : List It} (H : Sep w0 w L) (i : Nat) {E n c g k : Nat} {xs : List Value} {u : Value} (hi : L[i]? = some (.row E 1 (.slice (some ⟨g, 0, none⟩) n c) n xs)) (h0 : 0 < n) (hk : xs[k]? = some u) : w.cell? ⟨g, k, none⟩ = some u := by
  obtain ⟨g', hg, _, h⟩ := H.rowAt i hi h0
  cases hg
  exact (h k).1 u hk
/-- the bytes' block as an object -/
theorem bytes_obj (x : By) (S : ByteArray) (hS : bs x = S) (w : World) : ∃ (c : Nat) (o : Obj), (convert 9 22 (.string S)).run Tryz.prog w = .ok (.slice (some ⟨w.heap.size, 0, none⟩) x.length c) (w.drew.alloc o) ∧ ∀ (u : World) (g : Nat), u.heap[g]? = some o → ∀ (i : Nat) (b : UInt8), x[i]? = some b → u.cell? ⟨g, i, none⟩ = some (.int .u8 (b.toNat : Int)) := by
  subst hS
  have hrun := run_bytes_of_string w 9 22 5 (bs x) Tryz.underlying9 Tryz.underlying22 Tryz.underlying5
  rw [bs_size] at hrun
  refine ⟨_, _, hrun, fun u g hh i b hb => ?_⟩
  obtain ⟨hi0, hib⟩ := List.getElem?_eq_some_iff.1 hb
  have hi : i < (bs x).size := by rw [bs_size]; exact hi0
  rw [cell_of_row _ _ i _ _ _ hh, bytesRow_at (bs x) _ i hi]
  have e : (bs x).data[i]'hi = b := by
    rw [← hib]
    simp [bs]
  rw [e]
theorem string_info : (Tryz.prog.info? 9).map (fun i => (i.zero, i.size, i.bytes)) = some (some (.string ⟨#[]⟩), 1, 16) := by kernel_rfl
/-- what yread's loops find: the result, the words, the text's bytes -/
def YI (gr : Nat) (A : Option Addr) (n c : Nat) (ws : List By) (gb : Nat) (ob : Obj) : List It :=
  [.cells gr 56 [.int .i64 0, .string ⟨#[]⟩, .string ⟨#[]⟩, .int .i64 0], .row 9 1 (.slice A n c) n (ws.map wcell), .obj gb ob]
def YJ (gr ga n c : Nat) (ws : List By) (gb : Nat) (ob : Obj) (go_ : Nat) (cs : List Value) : List It :=
  [.cells gr 56 [.int .i64 0, .string ⟨#[]⟩, .string ⟨#[]⟩, .int .i64 0], .row 9 1 (.slice (some ⟨ga, 0, none⟩) n c) n (ws.map wcell), .obj gb ob, .cells go_ 56 cs]
theorem yr_true {x : By} {o : So.Op} {S : ByteArray} (hS : bs x = S) (h : Rdl x o) (hk : lk o = true) (hl : bs (lt o) = S) : Reads x o := rdl_reads h hk (bs_inj (by rw [hl, hS]))
theorem yr_false {x : By} {o : So.Op} {S : ByteArray} (hS : bs x = S) (h : Rdl x o) (hk : lk o = false ∨ bs (lt o) ≠ S) : ∀ o', ¬ Reads x o' := fun o' h' => by
  obtain ⟨h1, _⟩ := reads_one h h'
  rcases hk with hk | hk
  · rw [h1.2.1] at hk; cases hk
  · exact hk (by rw [h1.2.2, hS])
theorem ne_str {a b : ByteArray} (h : a ≠ b) : (a.toList == b.toList) = false := by
  rw [ByteArray.toList_eq, ByteArray.toList_eq]
  have : a.data.toList ≠ b.data.toList := fun e => h (ByteArray.ext (Array.ext' e))
  simpa using this
end Bn
end Go.Proofs.YtgfldhdmdeeknaaGreatDoor
