/-
  Base texts in one: SoO, SoM. Conditions: none beyond each theorem's own premises.
-/
import Derived.Test.YtgfldhdmdeeknaaGreatDoorBase
import Derived.Test.YtgfldhdmdeeknaaGreatDoorDrMo
import Derived.Test.YtgfldhdmdeeknaaGreatDoorMap
/-! Operations, answers and kept files as cells. Conditions: none. -/
namespace Go.Proofs.YtgfldhdmdeeknaaGreatDoor
set_option linter.unusedVariables false
namespace So

/-- an operation -/
structure Op where
  kind : Int
  nm : ByteArray
  dt : ByteArray
  keep : Int
def Op.cells (o : Op) : List Value := [.int .i64 o.kind, .string o.nm, .string o.dt, .int .i64 o.keep]
theorem Op.len (o : Op) : o.cells.length = 4 := rfl
theorem Op.one (l : List Op) : ∀ u ∈ l.flatMap Op.cells, u.oneCell' = true := by
  intro u hu
  rw [List.mem_flatMap] at hu
  obtain ⟨x, _, hu⟩ := hu
  simp only [Op.cells, List.mem_cons, List.not_mem_nil, or_false] at hu
  rcases hu with rfl | rfl | rfl | rfl <;> rfl
/-- an answer -/
structure An where
  er : Int
  dt : ByteArray
def An.cells (a : An) : List Value := [.int .i64 a.er, .string a.dt]
theorem An.len (a : An) : a.cells.length = 2 := rfl
/-- what is kept -/
structure Kp where
  nm : ByteArray
  dt : ByteArray
def Kp.cells (a : Kp) : List Value := [.string a.nm, .string a.dt]
theorem Kp.len (a : Kp) : a.cells.length = 2 := rfl

end So
end Go.Proofs.YtgfldhdmdeeknaaGreatDoor
/-! The plain law of the store: what is durable, what is open, how an operation answers, what is kept in the end. Plain Lean, no program. Conditions: none. -/
namespace Go.Proofs.YtgfldhdmdeeknaaGreatDoor
set_option linter.unusedVariables false
namespace So
open Dr

abbrev Fs := ByteArray → Option ByteArray
def ap (h : Fs) (o : Op) : Fs := if o.kind = 1 then mup h o.nm o.dt else mdel h o.nm
theorem ap_write {h : Fs} {o : Op} (hk : o.kind = 1) : ap h o = mup h o.nm o.dt := if_pos hk
theorem ap_other {h : Fs} {o : Op} (hk : ¬ o.kind = 1) : ap h o = mdel h o.nm := if_neg hk
def now (D : Fs) (C : List Op) : Fs := C.foldl ap D
theorem now_snoc (D : Fs) (C : List Op) (o : Op) : now D (C ++ [o]) = ap (now D C) o := by simp [now]

/-! how many files -/
def Cnt (h : Fs) (n : Nat) : Prop := ∃ l : List ByteArray, l.Nodup ∧ l.length = n ∧ ∀ x, x ∈ l ↔ (h x).isSome = true
theorem cnt_one {h : Fs} {n m : Nat} (H : Cnt h n) (M : Cnt h m) : n = m := by
  obtain ⟨l, h1, h2, h3⟩ := H
  obtain ⟨k, k1, k2, k3⟩ := M
  have := ((List.perm_ext_iff_of_nodup h1 k1).2 fun x => (h3 x).trans (k3 x).symm).length_eq
  omega
theorem cnt_no : Cnt mno 0 := ⟨[], List.nodup_nil, rfl, fun x => by simp [mno]⟩
theorem cnt_ap {h : Fs} {n : Nat} (H : Cnt h n) (o : Op) : ∃ m, Cnt (ap h o) m := by
  obtain ⟨l, h1, h2, h3⟩ := H
  unfold ap
  split
  · by_cases hx : o.nm ∈ l
    · refine ⟨_, l, h1, rfl, fun y => ?_⟩
      by_cases hy : y = o.nm
      · subst hy; simp [mup_same, hx]
      · rw [mup_other _ _ hy]; exact h3 y
    · refine ⟨_, o.nm :: l, List.nodup_cons.2 ⟨hx, h1⟩, rfl, fun y => ?_⟩
      by_cases hy : y = o.nm
      · subst hy; simp [mup_same]
      · rw [mup_other _ _ hy, List.mem_cons, or_iff_right hy]; exact h3 y
  · refine ⟨_, l.filter (fun y => decide (y ≠ o.nm)), h1.filter _, rfl, fun y => ?_⟩
    rw [List.mem_filter, decide_eq_true_eq]
    by_cases hy : y = o.nm
    · subst hy; simp [mdel_same]
    · rw [mdel_other _ hy, and_iff_left hy]; exact h3 y
theorem cnt_now : ∀ (C : List Op) {D : Fs} {n : Nat}, Cnt D n → ∃ m, Cnt (now D C) m
  | [], D, n, H => ⟨n, H⟩
  | o :: C, D, n, H => by
    obtain ⟨m, hm⟩ := cnt_ap H o
    exact cnt_now C hm

/-- an operation's ways -/
inductive Way (D : Fs) (C : List Op) (o : Op) : An → Fs → List Op → Prop
  | low (h : o.kind < 1) : Way D C o ⟨5, ⟨#[]⟩⟩ D C
  | high (h : 5 < o.kind) : Way D C o ⟨5, ⟨#[]⟩⟩ D C
  | bad (h : o.kind = 1) (h1 : ¬ GoodB o.nm) : Way D C o ⟨2, ⟨#[]⟩⟩ D C
  | long (h : o.kind = 1) (h1 : GoodB o.nm) (h2 : 200 < o.dt.size) : Way D C o ⟨2, ⟨#[]⟩⟩ D C
  | full (h : o.kind = 1) (h1 : GoodB o.nm) (h2 : o.dt.size ≤ 200) (h3 : now D C o.nm = none) (n : Nat) (h4 : Cnt (now D C) n) (h5 : 8 ≤ n) : Way D C o ⟨4, ⟨#[]⟩⟩ D C
  | fresh (h : o.kind = 1) (h1 : GoodB o.nm) (h2 : o.dt.size ≤ 200) (h3 : now D C o.nm = none) (n : Nat) (h4 : Cnt (now D C) n) (h5 : n < 8) : Way D C o ⟨0, ⟨#[]⟩⟩ D (C ++ [o])
  | over (h : o.kind = 1) (h1 : GoodB o.nm) (h2 : o.dt.size ≤ 200) (a : ByteArray) (h3 : now D C o.nm = some a) : Way D C o ⟨0, ⟨#[]⟩⟩ D (C ++ [o])
  | none2 (h : o.kind = 2) (h3 : now D C o.nm = none) : Way D C o ⟨3, ⟨#[]⟩⟩ D C
  | none3 (h : o.kind = 3) (h3 : now D C o.nm = none) : Way D C o ⟨3, ⟨#[]⟩⟩ D C
  | remove (h : o.kind = 2) (a : ByteArray) (h3 : now D C o.nm = some a) : Way D C o ⟨0, ⟨#[]⟩⟩ D (C ++ [o])
  | read (h : o.kind = 3) (a : ByteArray) (h3 : now D C o.nm = some a) : Way D C o ⟨0, a⟩ D C
  | sync (h : o.kind = 4) : Way D C o ⟨0, ⟨#[]⟩⟩ (now D C) []
  | before (h : o.kind = 5) (h1 : o.keep < 0) : Way D C o ⟨2, ⟨#[]⟩⟩ D C
  | crash (h : o.kind = 5) (k : Nat) (h1 : 0 ≤ o.keep) (h2 : min o.keep (C.length : Int) = (k : Int)) : Way D C o ⟨0, ⟨#[]⟩⟩ (now D (C.take k)) []
theorem way_ex (D : Fs) (C : List Op) (o : Op) {n : Nat} (H : Cnt D n) : ∃ a D' C', Way D C o a D' C' ∧ (∃ m, Cnt D' m) ∧ C'.length ≤ C.length + 1 := by
  obtain ⟨m, hm⟩ := cnt_now C H
  by_cases hl : o.kind < 1
  · exact ⟨_, _, _, .low hl, ⟨_, H⟩, by omega⟩
  by_cases hh : 5 < o.kind
  · exact ⟨_, _, _, .high hh, ⟨_, H⟩, by omega⟩
  by_cases h1 : o.kind = 1
  · by_cases hg : GoodB o.nm
    · by_cases hd : 200 < o.dt.size
      · exact ⟨_, _, _, .long h1 hg hd, ⟨_, H⟩, by omega⟩
      · cases hn : now D C o.nm with
        | none =>
          by_cases h8 : 8 ≤ m
          · exact ⟨_, _, _, .full h1 hg (by omega) hn m hm h8, ⟨_, H⟩, by omega⟩
          · exact ⟨_, _, _, .fresh h1 hg (by omega) hn m hm (by omega), ⟨_, H⟩, by simp⟩
        | some a => exact ⟨_, _, _, .over h1 hg (by omega) a hn, ⟨_, H⟩, by simp⟩
    · exact ⟨_, _, _, .bad h1 hg, ⟨_, H⟩, by omega⟩
  by_cases h2 : o.kind = 2
  · cases hn : now D C o.nm with
    | none => exact ⟨_, _, _, .none2 h2 hn, ⟨_, H⟩, by omega⟩
    | some a => exact ⟨_, _, _, .remove h2 a hn, ⟨_, H⟩, by simp⟩
  by_cases h3 : o.kind = 3
  · cases hn : now D C o.nm with
    | none => exact ⟨_, _, _, .none3 h3 hn, ⟨_, H⟩, by omega⟩
    | some a => exact ⟨_, _, _, .read h3 a hn, ⟨_, H⟩, by omega⟩
  by_cases h4 : o.kind = 4
  · exact ⟨_, _, _, .sync h4, ⟨_, hm⟩, by simp⟩
  have h5 : o.kind = 5 := by omega
  by_cases hk : o.keep < 0
  · exact ⟨_, _, _, .before h5 hk, ⟨_, H⟩, by omega⟩
  · obtain ⟨k, hk2⟩ : ∃ k : Nat, min o.keep (C.length : Int) = (k : Int) := ⟨(min o.keep (C.length : Int)).toNat, by omega⟩
    exact ⟨_, _, _, .crash h5 k (by omega) hk2, cnt_now _ H, by simp⟩

/-- all operations, one behind the other -/
inductive Plays : Fs → List Op → List Op → List An → Fs → List Op → Prop
  | nil {D C} : Plays D C [] [] D C
  | cons {D C o os a an D1 C1 D2 C2} (h : Way D C o a D1 C1) (t : Plays D1 C1 os an D2 C2) : Plays D C (o :: os) (a :: an) D2 C2
theorem plays_ex : ∀ (os : List Op) (D : Fs) (C : List Op) (n : Nat), Cnt D n → ∃ an D' C', Plays D C os an D' C'
  | [], D, C, n, H => ⟨_, _, _, .nil⟩
  | o :: os, D, C, n, H => by
    obtain ⟨a, D1, C1, hw, ⟨m, hm⟩, _⟩ := way_ex D C o H
    obtain ⟨an, D2, C2, ht⟩ := plays_ex os D1 C1 m hm
    exact ⟨_, _, _, .cons hw ht⟩
theorem plays_len : ∀ {os : List Op} {D : Fs} {C : List Op} {an : List An} {D' : Fs} {C' : List Op}, Plays D C os an D' C' → an.length = os.length
  | [], _, _, _, _, _, h => by cases h; rfl
  | o :: os, _, _, _, _, _, h => by
    cases h with
    | cons _ t => rw [List.length_cons, List.length_cons, plays_len t]
theorem plays_next {D : Fs} {C ops : List Op} {an : List An} {D' : Fs} {C' : List Op} {k : Nat} {o : Op} (h : Plays D C (ops.drop k) an D' C') (ho : ops[k]? = some o) : ∃ a an2 D1 C1, an = a :: an2 ∧ Way D C o a D1 C1 ∧ Plays D1 C1 (ops.drop (k + 1)) an2 D' C' := by
  obtain ⟨hk, rfl⟩ := List.getElem?_eq_some_iff.1 ho
  rw [List.drop_eq_getElem_cons hk] at h
  cases h with
  | cons hw ht => exact ⟨_, _, _, _, rfl, hw, ht⟩
theorem plays_end {D : Fs} {C ops : List Op} {an : List An} {D' : Fs} {C' : List Op} {k : Nat} (h : Plays D C (ops.drop k) an D' C') (hk : ops.length ≤ k) : an = [] ∧ D' = D ∧ C' = C := by
  rw [List.drop_eq_nil_of_le hk] at h
  cases h
  exact ⟨rfl, rfl, rfl⟩

/-- what is kept: in the order of the names -/
def ltK (a b : Kp) : Bool := ltN a.nm b.nm
def KeptIs (h : Fs) (l : List Kp) : Prop := Srt.Inc ltK l ∧ ∀ x, x ∈ l ↔ h x.nm = some x.dt
theorem ltK_asym (a b : Kp) (h : ltK a b = true) : ltK b a = false := ltN_asym h
theorem kept_one {h : Fs} {l m : List Kp} (H : KeptIs h l) (M : KeptIs h m) : l = m :=
  Srt.inc_unique (lt := ltK) (fun a => ltN_irr _) ltK_asym H.1 M.1 fun x => (H.2 x).trans (M.2 x).symm
theorem ltK_ntr (a b c : Kp) (h1 : ltK a b = false) (h2 : ltK b c = false) : ltK a c = false := by
  cases h : ltK a c with
  | false => rfl
  | true =>
    exfalso
    unfold ltK at h h1 h2
    by_cases e1 : a.nm = b.nm
    · rw [e1] at h; rw [h] at h2; cases h2
    · rcases ltN_tot e1 with h3 | h3
      · rw [h3] at h1; cases h1
      · have := ltN_trans h3 h
        rw [this] at h2; cases h2
/-- out of entries in whatever order -/
theorem kept_sort {h : Fs} {l : List Kp} (hnd : (l.map (·.nm)).Nodup) (hm : ∀ x, x ∈ l ↔ h x.nm = some x.dt) : KeptIs h (Srt.isort ltK l.length l) := by
  have hp := Srt.isort_perm ltK l
  have ha := Srt.isort_asc ltK ltK_ntr ltK_asym l
  have hnd2 : ((Srt.isort ltK l.length l).map (·.nm)).Nodup := (hp.map _).nodup_iff.2 hnd
  refine ⟨?_, fun x => hp.mem_iff.trans (hm x)⟩
  have h2 : (Srt.isort ltK l.length l).Pairwise (fun a b => a.nm ≠ b.nm) := List.pairwise_map.1 hnd2
  unfold Srt.Asc at ha
  unfold Srt.Inc
  refine List.Pairwise.imp₂ (fun a b h1 h3 => ?_) ha h2
  rcases ltN_tot h3 with h4 | h4
  · exact h4
  · unfold ltK at h1; rw [h4] at h1; cases h1
/-- out of the names in order -/
theorem kept_names {h : Fs} {ns : List ByteArray} (hinc : ns.Pairwise (fun a b => ltN a b = true)) (hm : ∀ x, x ∈ ns ↔ (h x).isSome = true) : KeptIs h (ns.map fun x => ⟨x, (h x).getD ⟨#[]⟩⟩) := by
  refine ⟨?_, fun x => ?_⟩
  · unfold Srt.Inc
    exact List.pairwise_map.2 hinc
  · rw [List.mem_map]
    constructor
    · rintro ⟨y, hy, rfl⟩
      obtain ⟨a, ha⟩ := Option.isSome_iff_exists.1 ((hm y).1 hy)
      simp only
      rw [ha]
      rfl
    · intro hx
      refine ⟨x.nm, (hm _).2 (by rw [hx]; rfl), ?_⟩
      rw [hx]
      rfl
end So
end Go.Proofs.YtgfldhdmdeeknaaGreatDoor
