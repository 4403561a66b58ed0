/-
  What the library's variables hold: the table of powers of ten, the sentinels, the longest index. It stays so in later worlds. Conditions: none.
-/
import Derived.Test.YtgfldhdmdeeknaaGreatDoorBase
import Derived.Lib.LaidTab
import Derived.Lib.ItoaNum
import Derived.Sort.Grow
import Derived.WalkSmall
namespace Go.Proofs.YtgfldhdmdeeknaaGreatDoor
open Go.RowKit Go.Sort
set_option linter.unusedVariables false
namespace Bn

theorem var_later {n : String} {g : Nat} {cs : Array Value} {w w' : World} (hg : Tryz.prog.globalNamed n = some g) (h : w.var? Tryz.prog n = some cs) (hb : Below w.heap.size w w') : w'.var? Tryz.prog n = some cs := by
  unfold World.var? at h ⊢
  rw [hg] at h ⊢
  simp only [Option.bind_some] at h ⊢
  have hlt : g < w.heap.size := by
    rcases Nat.lt_or_ge g w.heap.size with h' | h'
    · exact h'
    · rw [Array.getElem?_eq_none h'] at h; cases h
  rw [hb.block g hlt]
  exact h
theorem cell_later {a : Addr} {v : Value} {w w' : World} (h : w.cell? a = some v) (hb : Below w.heap.size w w') : w'.cell? a = some v := (hb.cell (World.block_lt_of_cell? w a h)).trans h
structure Gl (w : World) : Prop where
  tab : Lib.TabIs Tryz.prog w "internal/strconv.uint64pow10" .u64 Lib.pow10Tab
  mx : ∃ m, w.cell? ⟨0, 0, none⟩ = some (.int .i64 m)
  syn : ∃ tp p, w.var? Tryz.prog "strconv.ErrSyntax" = some #[.iface tp p]
  rng : ∃ tp p, w.var? Tryz.prog "strconv.ErrRange" = some #[.iface tp p]
  len : ∃ v, w.cell? ⟨1, 0, none⟩ = some v
theorem Gl.later {w w' : World} (h : Gl w) (hb : Below w.heap.size w w') : Gl w' :=
  ⟨var_later (g := 2) (by kernel_rfl) h.tab hb, h.mx.imp fun m hm => cell_later hm hb, h.syn.imp fun tp h1 => h1.imp fun p h2 => var_later (g := 3) (by kernel_rfl) h2 hb,
    h.rng.imp fun tp h1 => h1.imp fun p h2 => var_later (g := 4) (by kernel_rfl) h2 hb, h.len.imp fun v hv => cell_later hv hb⟩
theorem grow_below {w : World} (k : Nat) (os : Array Obj) : Below w.heap.size w (grow (w.drewN k) os) := by
  have h : Below w.heap.size w (w.drewN k) := below_drewN (Below.refl _ _) k
  refine ⟨h.os, h.tape, h.output, ?_, fun j hj => ?_⟩
  · show w.heap.size ≤ ((w.drewN k).heap ++ os).size
    rw [Array.size_append]
    have := h.size
    omega
  · have h2 := h.block j hj
    show ((w.drewN k).heap ++ os)[j]? = _
    rw [Array.getElem?_append_left (Nat.lt_of_lt_of_le hj h.size)]
    exact h2
end Bn
end Go.Proofs.YtgfldhdmdeeknaaGreatDoor
