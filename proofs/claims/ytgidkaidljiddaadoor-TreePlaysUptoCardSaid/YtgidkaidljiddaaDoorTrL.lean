/-
  The plain law of a tree's leaves: each path, folder or file, and how many paths its node has; in the order of their texts. Plain Lean, no program. Conditions: none.
-/
import Derived.Test.YtgidkaidljiddaaDoorTrM2
import Derived.Test.YtgidkaidljiddaaDoorBase
namespace Go.Proofs.YtgidkaidljiddaaDoor
set_option linter.unusedVariables false
namespace Tr
open Pt (By Nm parts ppath slashed spl)
open Dr (GoodB ltN ltN_irr ltN_asym ltN_tot ltN_trans)

/-- a leaf -/
structure Lf where
  path : ByteArray
  folder : Bool
  links : Int
def Lf.cells (x : Lf) : List Value := [.string x.path, .bool x.folder, .int .i64 x.links]
theorem Lf.len : ∀ x : Lf, x.cells.length = 3 := fun _ => rfl
def ltL (a b : Lf) : Bool := ltN a.path b.path
theorem ltL_asym (a b : Lf) (h : ltL a b = true) : ltL b a = false := ltN_asym h
theorem ltL_ntr (a b c : Lf) (h1 : ltL a b = false) (h2 : ltL b c = false) : ltL a c = false := by
  cases h : ltL a c with
  | false => rfl
  | true =>
    exfalso
    unfold ltL at h h1 h2
    by_cases e1 : a.path = b.path
    · rw [e1] at h; rw [h] at h2; cases h2
    · rcases ltN_tot e1 with h3 | h3
      · rw [h3] at h1; cases h1
      · have := ltN_trans h3 h
        rw [this] at h2; cases h2
/-- how many paths a node has -/
def Cnt (H : Tree) (a : Nat) (c : Int) : Prop := ∃ ls : List (List By), ls.Nodup ∧ (∀ m, m ∈ ls ↔ H m = some a) ∧ (ls.length : Int) = c
theorem cnt_eq {H : Tree} {a : Nat} {c d : Int} (h : Cnt H a c) (h' : Cnt H a d) : c = d := by
  obtain ⟨l, h1, h2, rfl⟩ := h
  obtain ⟨m, k1, k2, rfl⟩ := h'
  have hp : l.Perm m := (List.perm_ext_iff_of_nodup h1 k1).2 fun x => (h2 x).trans (k2 x).symm
  rw [hp.length_eq]
def LeafOk (H : Tree) (F : Nat → Bool) (x : Lf) : Prop := ∃ l a c, l ≠ [] ∧ H l = some a ∧ x = ⟨P l, F a, c⟩ ∧ Cnt H a c
def LeavesAre (H : Tree) (F : Nat → Bool) (out : List Lf) : Prop := Srt.Inc ltL out ∧ ∀ x, x ∈ out ↔ LeafOk H F x
theorem leaves_one {H : Tree} {F : Nat → Bool} {l m : List Lf} (h : LeavesAre H F l) (k : LeavesAre H F m) : l = m :=
  Srt.inc_unique (lt := ltL) (fun a => ltN_irr _) ltL_asym h.1 k.1 fun x => (h.2 x).trans (k.2 x).symm
/-- out of leaves in whatever order -/
theorem leaves_sort {H : Tree} {F : Nat → Bool} {l : List Lf} (hnd : (l.map (·.path)).Nodup) (hm : ∀ x, x ∈ l ↔ LeafOk H F x) : LeavesAre H F (Srt.isort ltL l.length l) := by
  have hp := Srt.isort_perm ltL l
  have ha := Srt.isort_asc ltL ltL_ntr ltL_asym l
  have hnd2 : ((Srt.isort ltL l.length l).map (·.path)).Nodup := (hp.map _).nodup_iff.2 hnd
  refine ⟨?_, fun x => hp.mem_iff.trans (hm x)⟩
  have h2 : (Srt.isort ltL l.length l).Pairwise (fun a b => a.path ≠ b.path) := List.pairwise_map.1 hnd2
  unfold Srt.Asc at ha
  unfold Srt.Inc
  refine List.Pairwise.imp₂ (fun a b h1 h3 => ?_) ha h2
  rcases ltN_tot h3 with h4 | h4
  · exact h4
  · unfold ltL at h1; rw [h4] at h1; cases h1

/-! counting a node's paths while a table is walked -/
def Part (H : Tree) (a : Nat) (todo : List ByteArray) (ls : List (List By)) : Prop := ls.Nodup ∧ ∀ m, m ∈ ls ↔ (H m = some a ∧ P m ∉ todo)
theorem part_start {α : Type} {H : Tree} {v : Nat → α} {h : ByteArray → Option α} (T : Tab H v h) (hcl : ∀ m a, H m = some a → Cl m) {a : Nat} {todo : List ByteArray} (hm : ∀ x, x ∈ todo ↔ (h x).isSome = true) : Part H a todo [] := by
  refine ⟨List.nodup_nil, fun m => ⟨fun e => (List.not_mem_nil e).elim, fun ⟨h1, h2⟩ => ?_⟩⟩
  exact absurd ((hm _).2 (by rw [tab_look T (hcl _ _ h1), h1]; rfl)) h2
theorem part_add {H : Tree} (hcl : ∀ m a, H m = some a → Cl m) {a : Nat} {l : List By} {todo todo' : List ByteArray} {ls : List (List By)} (C : Part H a todo ls) (hl : H l = some a) (hin : P l ∈ todo)
    (hme : ∀ y, y ∈ todo' ↔ (y ≠ P l ∧ y ∈ todo)) : Part H a todo' (ls ++ [l]) := by
  have hnot : l ∉ ls := fun e => ((C.2 l).1 e).2 hin
  refine ⟨List.nodup_append.2 ⟨C.1, by simp, fun x hx y hy => by rw [List.mem_singleton.1 hy]; intro e; exact hnot (e ▸ hx)⟩, fun m => ?_⟩
  rw [List.mem_append, List.mem_singleton, C.2 m]
  constructor
  · rintro (⟨h1, h2⟩ | rfl)
    · exact ⟨h1, fun e => h2 ((hme _).1 e).2⟩
    · exact ⟨hl, fun e => ((hme _).1 e).1 rfl⟩
  · rintro ⟨h1, h2⟩
    by_cases e : m = l
    · exact .inr e
    · exact .inl ⟨h1, fun e2 => h2 ((hme _).2 ⟨fun e3 => e (P_inj (hcl _ _ h1) (hcl _ _ hl) e3), e2⟩)⟩
theorem part_skip {H : Tree} (hcl : ∀ m a, H m = some a → Cl m) {a b : Nat} {l : List By} {todo todo' : List ByteArray} {ls : List (List By)} (C : Part H a todo ls) (hl : H l = some b) (hne : b ≠ a)
    (hme : ∀ y, y ∈ todo' ↔ (y ≠ P l ∧ y ∈ todo)) : Part H a todo' ls := by
  refine ⟨C.1, fun m => (C.2 m).trans ⟨fun ⟨h1, h2⟩ => ⟨h1, fun e => h2 ((hme _).1 e).2⟩, fun ⟨h1, h2⟩ => ⟨h1, fun e => h2 ((hme _).2 ⟨fun e2 => ?_, e⟩)⟩⟩⟩
  have := P_inj (hcl _ _ h1) (hcl _ _ hl) e2
  rw [this, hl] at h1
  exact hne (Option.some.inj h1)
theorem part_end {H : Tree} {a : Nat} {ls : List (List By)} (C : Part H a [] ls) : Cnt H a ls.length := ⟨ls, C.1, fun m => (C.2 m).trans ⟨fun h => h.1, fun h => ⟨h, List.not_mem_nil⟩⟩, rfl⟩
/-- .. the others of a path's node -/
def PartX (H : Tree) (a : Nat) (s : List By) (todo : List ByteArray) (ls : List (List By)) : Prop := ls.Nodup ∧ ∀ m, m ∈ ls ↔ (m ≠ s ∧ H m = some a ∧ P m ∉ todo)
theorem partx_start {α : Type} {H : Tree} {v : Nat → α} {h : ByteArray → Option α} (T : Tab H v h) (hcl : ∀ m a, H m = some a → Cl m) {a : Nat} {s : List By} {todo : List ByteArray} (hm : ∀ x, x ∈ todo ↔ (h x).isSome = true) : PartX H a s todo [] := by
  refine ⟨List.nodup_nil, fun m => ⟨fun e => (List.not_mem_nil e).elim, fun ⟨_, h1, h2⟩ => ?_⟩⟩
  exact absurd ((hm _).2 (by rw [tab_look T (hcl _ _ h1), h1]; rfl)) h2
theorem partx_add {H : Tree} (hcl : ∀ m a, H m = some a → Cl m) {a : Nat} {s l : List By} {todo todo' : List ByteArray} {ls : List (List By)} (C : PartX H a s todo ls) (hs : l ≠ s) (hl : H l = some a) (hin : P l ∈ todo)
    (hme : ∀ y, y ∈ todo' ↔ (y ≠ P l ∧ y ∈ todo)) : PartX H a s todo' (ls ++ [l]) := by
  have hnot : l ∉ ls := fun e => ((C.2 l).1 e).2.2 hin
  refine ⟨List.nodup_append.2 ⟨C.1, by simp, fun x hx y hy => by rw [List.mem_singleton.1 hy]; intro e; exact hnot (e ▸ hx)⟩, fun m => ?_⟩
  rw [List.mem_append, List.mem_singleton, C.2 m]
  constructor
  · rintro (⟨h0, h1, h2⟩ | rfl)
    · exact ⟨h0, h1, fun e => h2 ((hme _).1 e).2⟩
    · exact ⟨hs, hl, fun e => ((hme _).1 e).1 rfl⟩
  · rintro ⟨h0, h1, h2⟩
    by_cases e : m = l
    · exact .inr e
    · exact .inl ⟨h0, h1, fun e2 => h2 ((hme _).2 ⟨fun e3 => e (P_inj (hcl _ _ h1) (hcl _ _ hl) e3), e2⟩)⟩
theorem partx_skip {H : Tree} (hcl : ∀ m a, H m = some a → Cl m) {a b : Nat} {s l : List By} {todo todo' : List ByteArray} {ls : List (List By)} (C : PartX H a s todo ls) (hl : H l = some b) (hne : l = s ∨ b ≠ a)
    (hme : ∀ y, y ∈ todo' ↔ (y ≠ P l ∧ y ∈ todo)) : PartX H a s todo' ls := by
  refine ⟨C.1, fun m => (C.2 m).trans ⟨fun ⟨h0, h1, h2⟩ => ⟨h0, h1, fun e => h2 ((hme _).1 e).2⟩, fun ⟨h0, h1, h2⟩ => ⟨h0, h1, fun e => h2 ((hme _).2 ⟨fun e2 => ?_, e⟩)⟩⟩⟩
  have := P_inj (hcl _ _ h1) (hcl _ _ hl) e2
  rcases hne with e3 | e3
  · exact h0 (this.trans e3)
  · rw [this, hl] at h1
    exact e3 (Option.some.inj h1)
theorem partx_end {H : Tree} {a : Nat} {s : List By} {ls : List (List By)} (hs : H s = some a) (C : PartX H a s [] ls) : Cnt H a (1 + ls.length) := by
  refine ⟨s :: ls, List.nodup_cons.2 ⟨fun e => ((C.2 s).1 e).1 rfl, C.1⟩, fun m => ?_, by rw [List.length_cons]; omega⟩
  rw [List.mem_cons, C.2 m]
  constructor
  · rintro (rfl | ⟨_, h, _⟩)
    · exact hs
    · exact h
  · intro h
    by_cases e : m = s
    · exact .inl e
    · exact .inr ⟨e, h, List.not_mem_nil⟩
theorem cnt_folder {H : Tree} {F : Nat → Bool} {nn : Nat} (I : TI H F nn) {s : List By} {a : Nat} (hs : H s = some a) (hF : F a = true) : Cnt H a 1 :=
  ⟨[s], by simp, fun m => ⟨fun e => by rw [List.mem_singleton.1 e]; exact hs, fun h => List.mem_singleton.2 (I.one _ _ a h hs hF)⟩, rfl⟩

/-! the leaves of the names that have come -/
def LeafPart (H : Tree) (F : Nat → Bool) (S : List ByteArray) (out : List Lf) : Prop := Srt.Inc ltL out ∧ ∀ x, x ∈ out ↔ (LeafOk H F x ∧ x.path ∈ S)
theorem leaf_start (H : Tree) (F : Nat → Bool) : LeafPart H F [] [] := ⟨by simp [Srt.Inc], fun x => by simp⟩
theorem leaf_next {H : Tree} {F : Nat → Bool} (hcl : ∀ m a, H m = some a → Cl m) {S : List ByteArray} {out : List Lf} {l : List By} {a : Nat} {c : Int} (C : LeafPart H F S out) (hlt : ∀ x ∈ S, ltN x (P l) = true) (hl0 : l ≠ []) (hl : H l = some a) (hc : Cnt H a c) :
    LeafPart H F (S ++ [P l]) (out ++ [⟨P l, F a, c⟩]) := by
  refine ⟨?_, fun x => ?_⟩
  · have h1 := C.1
    unfold Srt.Inc at h1 ⊢
    refine List.pairwise_append.2 ⟨h1, by simp, fun x hx y hy => ?_⟩
    rw [List.mem_singleton.1 hy]
    exact hlt _ ((C.2 x).1 hx).2
  · rw [List.mem_append, List.mem_singleton, List.mem_append, List.mem_singleton, C.2 x]
    constructor
    · rintro (⟨h1, h2⟩ | rfl)
      · exact ⟨h1, .inl h2⟩
      · exact ⟨⟨l, a, c, hl0, hl, rfl, hc⟩, .inr rfl⟩
    · rintro ⟨h1, h2 | h2⟩
      · exact .inl ⟨h1, h2⟩
      · right
        obtain ⟨m, b, d, m0, hm, rfl, hd⟩ := h1
        have e := P_inj (hcl _ _ hm) (hcl _ _ hl) h2
        subst e
        rw [hl] at hm
        cases hm
        rw [cnt_eq hd hc]
theorem leaf_root {H : Tree} {F : Nat → Bool} (hcl : ∀ m a, H m = some a → Cl m) {S : List ByteArray} {out : List Lf} (C : LeafPart H F S out) : LeafPart H F (S ++ [P []]) out := by
  refine ⟨C.1, fun x => (C.2 x).trans ⟨fun ⟨h1, h2⟩ => ⟨h1, List.mem_append_left _ h2⟩, fun ⟨h1, h2⟩ => ⟨h1, ?_⟩⟩⟩
  rcases List.mem_append.1 h2 with h3 | h3
  · exact h3
  · obtain ⟨m, b, d, m0, hm, rfl, hd⟩ := h1
    exact absurd (P_inj (hcl _ _ hm) (fun x hx => by cases hx) (List.mem_singleton.1 h3)) m0
theorem leaf_end {α : Type} {H : Tree} {v : Nat → α} {h : ByteArray → Option α} (T : Tab H v h) (hcl : ∀ m a, H m = some a → Cl m) {F : Nat → Bool} {S : List ByteArray} {out : List Lf} (hm : ∀ x, x ∈ S ↔ (h x).isSome = true) (C : LeafPart H F S out) : LeavesAre H F out := by
  refine ⟨C.1, fun x => (C.2 x).trans ⟨fun h => h.1, fun h => ⟨h, ?_⟩⟩⟩
  obtain ⟨m, b, d, m0, hm', rfl, hd⟩ := h
  exact (hm _).2 (by rw [tab_look T (hcl _ _ hm'), hm']; rfl)
/-- .. in no order -/
def LeafBag (H : Tree) (F : Nat → Bool) (todo : List ByteArray) (out : List Lf) : Prop := (out.map (·.path)).Nodup ∧ ∀ x, x ∈ out ↔ (LeafOk H F x ∧ x.path ∉ todo)
theorem bag_start {α : Type} {H : Tree} {v : Nat → α} {h : ByteArray → Option α} (T : Tab H v h) (hcl : ∀ m a, H m = some a → Cl m) (F : Nat → Bool) {todo : List ByteArray} (hm : ∀ x, x ∈ todo ↔ (h x).isSome = true) : LeafBag H F todo [] := by
  refine ⟨by simp, fun x => ⟨fun e => (List.not_mem_nil e).elim, fun ⟨h1, h2⟩ => ?_⟩⟩
  obtain ⟨m, b, d, m0, hm', rfl, hd⟩ := h1
  exact absurd ((hm _).2 (by rw [tab_look T (hcl _ _ hm'), hm']; rfl)) h2
theorem bag_add {H : Tree} {F : Nat → Bool} (hcl : ∀ m a, H m = some a → Cl m) {todo todo' : List ByteArray} {out : List Lf} {l : List By} {a : Nat} {c : Int} (C : LeafBag H F todo out) (hin : P l ∈ todo) (hl0 : l ≠ []) (hl : H l = some a) (hc : Cnt H a c)
    (hme : ∀ y, y ∈ todo' ↔ (y ≠ P l ∧ y ∈ todo)) : LeafBag H F todo' (out ++ [⟨P l, F a, c⟩]) := by
  refine ⟨?_, fun x => ?_⟩
  · rw [List.map_append, List.nodup_append]
    refine ⟨C.1, by simp, fun u hu v hv => ?_⟩
    simp only [List.map_cons, List.map_nil, List.mem_singleton] at hv
    subst hv
    obtain ⟨z, hz, rfl⟩ := List.mem_map.1 hu
    intro e
    exact ((C.2 z).1 hz).2 (by rw [e]; exact hin)
  · rw [List.mem_append, List.mem_singleton, C.2 x]
    constructor
    · rintro (⟨h1, h2⟩ | rfl)
      · exact ⟨h1, fun e => h2 ((hme _).1 e).2⟩
      · exact ⟨⟨l, a, c, hl0, hl, rfl, hc⟩, fun e => ((hme _).1 e).1 rfl⟩
    · rintro ⟨h1, h2⟩
      by_cases e : x.path = P l
      · right
        obtain ⟨m, b, d, m0, hm, rfl, hd⟩ := h1
        have e2 := P_inj (hcl _ _ hm) (hcl _ _ hl) e
        subst e2
        rw [hl] at hm
        cases hm
        rw [cnt_eq hd hc]
      · exact .inl ⟨h1, fun e2 => h2 ((hme _).2 ⟨e, e2⟩)⟩
theorem bag_root {H : Tree} {F : Nat → Bool} (hcl : ∀ m a, H m = some a → Cl m) {todo todo' : List ByteArray} {out : List Lf} (C : LeafBag H F todo out) (hme : ∀ y, y ∈ todo' ↔ (y ≠ P [] ∧ y ∈ todo)) : LeafBag H F todo' out := by
  refine ⟨C.1, fun x => (C.2 x).trans ⟨fun ⟨h1, h2⟩ => ⟨h1, fun e => h2 ((hme _).1 e).2⟩, fun ⟨h1, h2⟩ => ⟨h1, fun e => h2 ((hme _).2 ⟨fun e2 => ?_, e⟩)⟩⟩⟩
  obtain ⟨m, b, d, m0, hm, rfl, hd⟩ := h1
  exact m0 (P_inj (hcl _ _ hm) (fun x hx => by cases hx) e2)
theorem bag_end {H : Tree} {F : Nat → Bool} {out : List Lf} (C : LeafBag H F [] out) : LeavesAre H F (Srt.isort ltL out.length out) :=
  leaves_sort C.1 fun x => (C.2 x).trans ⟨fun h => h.1, fun h => ⟨h, List.not_mem_nil⟩⟩
end Tr
end Go.Proofs.YtgidkaidljiddaaDoor
