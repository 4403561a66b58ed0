/-
  '==' of a value and itself is true, whatever plain type it has (bools, integers, strings, and structs and arrays of these): a check by computation, 'selfB', and what it gives.
-/
import Derived.Test.YtjopiepfjbnkbaaGreatDoorBase
import Derived.Laws.StructEq
namespace Go.Proofs.YtjopiepfjbnkbaaGreatDoor
open Go.RowKit

def partB (P : Program) (t : TypeId) (cs : Array Value) (off : Nat) : Option Value :=
  match P.underlying t with
  | some (.struct _) => (P.info? t).map fun i => .agg (cs.extract off (off + i.size))
  | some (.array _ _) => (P.info? t).map fun i => .agg (cs.extract off (off + i.size))
  | some _ => cs[off]?
  | none => none

def selfB (P : Program) : Nat → TypeId → Value → Bool
  | 0, _, _ => false
  | d + 1, t, v => match P.underlying t, v with
    | some .bool, .bool _ => true
    | some (.int _), .int _ _ => true
    | some .string, .string _ => true
    | some (.struct fs), .agg xs => !P.stoodInHeld t && fs.toList.all fun f => match partB P f.type xs f.offset with
      | some u => selfB P d f.type u
      | none => false
    | some (.array n e), .agg xs => match P.info? e with
      | some i => (List.range n).all fun j => match partB P e xs (j * i.size) with
        | some u => selfB P d e u
        | none => false
      | none => false
    | _, _ => false

theorem run_part {P : Program} {t : TypeId} {cs : Array Value} {off : Nat} {v : Value} (w : World) (h : partB P t cs off = some v) : (part t cs off).run P w = .ok v w := by
  unfold partB at h
  cases hu : P.underlying t with
  | none => rw [hu] at h; cases h
  | some u =>
    rw [hu] at h
    cases u
    case struct fs =>
      simp only at h
      cases hi : P.info? t with
      | none => rw [hi] at h; cases h
      | some i =>
        rw [hi] at h
        simp at h
        simp [part, isAgg, run_underlying hu, sizeOf, typeInfo, hi, h]
    case array n e =>
      simp only at h
      cases hi : P.info? t with
      | none => rw [hi] at h; cases h
      | some i =>
        rw [hi] at h
        simp at h
        simp [part, isAgg, run_underlying hu, sizeOf, typeInfo, hi, h]
    all_goals (simp only at h; simp [part, isAgg, run_underlying hu, h])

theorem eqFields_self {P : Program} (d : Nat) (xs : Array Value) (ih : ∀ t v w, selfB P d t v = true → (Op.equalIn d t v v).run P w = .ok true w) : ∀ (fs : List Field) (w : World),
    (fs.all fun f => match partB P f.type xs f.offset with
      | some u => selfB P d f.type u
      | none => false) = true → (Op.eqFields d xs xs fs).run P w = .ok true w := by
  intro fs
  induction fs with
  | nil => intro w _; simp [Op.eqFields]
  | cons f fs ihf =>
    intro w h
    rw [List.all_cons, Bool.and_eq_true] at h
    obtain ⟨h1, h2⟩ := h
    cases hp : partB P f.type xs f.offset with
    | none => rw [hp] at h1; cases h1
    | some u =>
      rw [hp] at h1
      have e1 := fun w => run_part w hp
      have e2 := fun w => ih f.type u w h1
      have e3 := ihf w h2
      rw [Op.eqFields]
      split
      · simp [e1, e2, e3]
      · exact e3

theorem run_self {P : Program} : ∀ (d : Nat) (t : TypeId) (v : Value) (w : World), selfB P d t v = true → (Op.equalIn d t v v).run P w = .ok true w := by
  intro d
  induction d with
  | zero => intro t v w h; cases h
  | succ d ih =>
    intro t v w h
    unfold selfB at h
    split at h
    · rename_i b hu
      simp [Op.equalIn, run_underlying hu]
    · rename_i k k' n hu
      simp [Op.equalIn, run_underlying hu]
    · rename_i s hu
      simp [Op.equalIn, run_underlying hu, beq_toListBytes]
    · rename_i fs xs hu
      rw [Bool.and_eq_true] at h
      have hf : P.fieldsOf t = fs := by simp [Program.fieldsOf, hu]
      rw [run_equalIn_struct w d t xs xs (by rw [hf]; exact hu) (by simpa using h.1), hf]
      exact eqFields_self d xs ih _ w h.2
    · rename_i n e xs hu
      cases hi : P.info? e with
      | none => rw [hi] at h; cases h
      | some i =>
        rw [hi] at h
        simp only at h
        rw [Op.equalIn]
        simp only [Sem.run_bind, run_underlying hu, Result.andThen_ok, sizeOf, typeInfo, run_program, hi, Sem.run_pure]
        rw [Std.Legacy.Range.forIn_eq_forIn_range']
        simp only [Std.Legacy.Range.size, Nat.sub_zero, Nat.add_sub_cancel, Nat.div_one]
        have key : ∀ (l : List Nat), (l.all fun j => match partB P e xs (j * i.size) with
            | some u => selfB P d e u
            | none => false) = true → ∀ j ∈ l, ∃ u, (∀ w, (part e xs (j * i.size)).run P w = .ok u w) ∧ ∀ w, (Op.equalIn d e u u).run P w = .ok true w := by
          intro l hl j hj
          have := List.all_eq_true.1 hl j hj
          cases hp : partB P e xs (j * i.size) with
          | none => rw [hp] at this; cases this
          | some u => rw [hp] at this; exact ⟨u, fun w => run_part w hp, fun w => ih e u w this⟩
        have hk := key _ h
        rw [show List.range n = List.range' 0 n from List.range_eq_range'] at hk
        generalize List.range' 0 n = l at hk
        clear h key
        induction l with
        | nil => simp
        | cons j l ihl =>
          obtain ⟨u, h1, h2⟩ := hk j (by simp)
          simp only [List.forIn_cons, Sem.run_bind, h1, h2, Result.andThen_ok, Bool.not_true, Bool.false_eq_true, if_false, Sem.run_pure]
          exact ihl (fun j hj => hk j (by simp [hj]))
    · cases h

theorem run_eql_self {P : Program} (t : TypeId) (xs : Array Value) (w : World) (h : selfB P 10000 t (.agg xs) = true) : (binOp .eql t (.agg xs) (.agg xs)).run P w = .ok (.bool true) w := by
  rw [run_eql_struct, run_self _ _ _ _ h]
  rfl
theorem run_neq_self {P : Program} (t : TypeId) (xs : Array Value) (w : World) (h : selfB P 10000 t (.agg xs) = true) : (binOp .neq t (.agg xs) (.agg xs)).run P w = .ok (.bool false) w := by
  rw [run_neq_struct, run_self _ _ _ _ h]
  rfl
end Go.Proofs.YtjopiepfjbnkbaaGreatDoor
