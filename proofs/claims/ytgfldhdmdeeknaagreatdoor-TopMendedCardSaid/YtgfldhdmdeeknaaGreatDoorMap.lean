/-
  Maps of the call's own, as items of 'Sep': what lies at each key, how many entries; look-up, store, delete, len, range. Conditions: none beyond each theorem's own premises.
-/
import Derived.Test.YtgfldhdmdeeknaaGreatDoorBase
import Derived.Maps.RangeWalk
import Derived.WideKeyEntry
import Derived.Carry
namespace Go.Proofs.YtgfldhdmdeeknaaGreatDoor
open Go.RowKit Go.ChangeMaps Go.MapKept Go.WideShapes
open Go.Maps (Keyed)
set_option linter.unusedVariables false

/-- entries that a map's block may hold -/
structure MFit (P : Program) (k : TypeId) (es : Array MapEntry) (clock : Nat) : Prop where
  size : es.size ≤ maxLen
  stamped : Stamped es clock
  keys : ∀ e ∈ es.toList, ∃ l, keyOf P k e.key = some l
/-- a kind of keys -/
structure KMk {K : Type} (P : Program) (k : TypeId) (mk : K → Value) (ok : K → Prop) : Prop where
  keyed : Keyed P k
  inj : ∀ x y, mk x = mk y → x = y
  lit : ∀ x, ok x → ∃ l, keyOf P k (mk x) = some l
/-- the entries, read: at mk x lies enc a where h x = some a -/
structure MIs {K α : Type} (P : Program) (k : TypeId) (mk : K → Value) (enc : α → Value) (es : Array MapEntry) (clock n : Nat) (h : K → Option α) : Prop where
  fit : MFit P k es clock
  size : es.size = n
  sound : ∀ e ∈ es.toList, ∃ x a, e.key = mk x ∧ e.val = enc a ∧ h x = some a
  full : ∀ x a, h x = some a → ∃ e ∈ es.toList, e.key = mk x ∧ e.val = enc a
def mup {K α : Type} [DecidableEq K] (h : K → Option α) (x : K) (a : α) : K → Option α := fun y => if y = x then some a else h y
def mdel {K α : Type} [DecidableEq K] (h : K → Option α) (x : K) : K → Option α := fun y => if y = x then none else h y
def mno {K α : Type} : K → Option α := fun _ => none
theorem mup_same {K α : Type} [DecidableEq K] (h : K → Option α) (x : K) (a : α) : mup h x a x = some a := by simp [mup]
theorem mup_other {K α : Type} [DecidableEq K] (h : K → Option α) {x y : K} (a : α) (e : y ≠ x) : mup h x a y = h y := by simp [mup, e]
theorem mdel_same {K α : Type} [DecidableEq K] (h : K → Option α) (x : K) : mdel h x x = none := by simp [mdel]
theorem mdel_other {K α : Type} [DecidableEq K] (h : K → Option α) {x y : K} (e : y ≠ x) : mdel h x y = h y := by simp [mdel, e]

theorem kmk_int {P : Program} {k : TypeId} (hk : P.underlying k = some (.int .i64)) : KMk P k (Value.int .i64) (fun x => (Lit.int .i64 x).wf = true) :=
  ⟨Maps.int_keyed hk, fun x y e => by cases e; rfl, fun x hx => ⟨_, Maps.keyOf_int_mk hk hx⟩⟩
theorem kmk_string {P : Program} {k : TypeId} (hk : P.underlying k = some .string) : KMk P k Value.string (fun s => s.size ≤ maxLen) :=
  ⟨Maps.string_keyed hk, fun x y e => by cases e; rfl, fun x hx => ⟨_, WideMaps.keyOf_string_mk hk hx⟩⟩

section
variable {K α : Type} {P : Program} {k e t : TypeId} {mk : K → Value} {ok : K → Prop} {enc : α → Value} {es : Array MapEntry} {clock n : Nat} {h : K → Option α} {w : World} {b : Nat}

theorem MFit.other {j i : Nat} {e0 x : MapEntry} (F : MFit P k es clock) (h2 : es.toList[j]? = some e0) (hi : es.toList[i]? = some x) (hne : i ≠ j) : x.key ≠ e0.key := by
  have hn : es.toList.Pairwise (fun x y => x.key ≠ y.key) := ((stamped_iff es clock).1 F.stamped).2.2
  obtain ⟨hj, ej⟩ := List.getElem?_eq_some_iff.1 h2
  obtain ⟨hi', ei⟩ := List.getElem?_eq_some_iff.1 hi
  rw [← ej, ← ei]
  rcases Nat.lt_or_gt_of_ne hne with h | h
  · exact List.pairwise_iff_getElem.1 hn i j hi' hj h
  · exact fun e1 => List.pairwise_iff_getElem.1 hn j i hj hi' h e1.symm
theorem MFit.one {x y : MapEntry} (F : MFit P k es clock) (hx : x ∈ es.toList) (hy : y ∈ es.toList) (hk : x.key = y.key) : x = y :=
  entry_eq_of_key ((stamped_iff es clock).1 F.stamped).2.2 hx hy hk
theorem MIs.empty : MIs P k mk enc #[] 0 0 (mno (K := K)) := ⟨⟨by simp, stamped_empty 0, by simp⟩, rfl, by simp, by simp [mno]⟩

theorem MIs.look_none (M : MIs P k mk enc es clock n h) (KK : KMk P k mk ok) {x : K} (hx : ok x) (ht : P.underlying t = some (.map k e)) (hb : w.heap[b]? = some (.map es clock)) (c : Bool) {z : Value} (hz : (zeroValue e).run P w = .ok z w) (hh : h x = none) :
    (Instr.lookup t (.map (some b)) (mk x) c).run P w = .ok (if c then .tuple #[z, .bool false] else z) w := by
  obtain ⟨l, hl⟩ := KK.lit x hx
  rcases KK.keyed.find w hl es.toList M.fit.keys with ⟨h1, h2⟩ | ⟨j, e0, h1, h2, h3⟩
  · simp [Instr.lookup, run_underlying ht, MapKept.run_getObj_map hb, KK.keyed.check w _ hl, h1, hz, Result.andThen]
  · obtain ⟨y, a, h4, h5, h6⟩ := M.sound e0 (List.mem_of_getElem? h2)
    rw [h3] at h4
    rw [← KK.inj _ _ h4, hh] at h6
    cases h6
theorem MIs.look_some (M : MIs P k mk enc es clock n h) (KK : KMk P k mk ok) {x : K} (hx : ok x) (ht : P.underlying t = some (.map k e)) (hb : w.heap[b]? = some (.map es clock)) (c : Bool) {z : Value} (hz : (zeroValue e).run P w = .ok z w) {a : α} (hh : h x = some a) :
    (Instr.lookup t (.map (some b)) (mk x) c).run P w = .ok (if c then .tuple #[enc a, .bool true] else enc a) w := by
  obtain ⟨l, hl⟩ := KK.lit x hx
  obtain ⟨e1, m1, k1, v1⟩ := M.full x a hh
  rcases KK.keyed.find w hl es.toList M.fit.keys with ⟨h1, h2⟩ | ⟨j, e0, h1, h2, h3⟩
  · exact absurd k1 (h2 e1 m1)
  · have he : e0 = e1 := M.fit.one (List.mem_of_getElem? h2) m1 (by rw [h3, k1])
    subst he
    simp [Instr.lookup, run_underlying ht, MapKept.run_getObj_map hb, KK.keyed.check w _ hl, h1, Result.andThen, v1]
/-- m[x], whatever lies there -/
theorem MIs.look (M : MIs P k mk enc es clock n h) (KK : KMk P k mk ok) {x : K} (hx : ok x) (ht : P.underlying t = some (.map k e)) (hb : w.heap[b]? = some (.map es clock)) {z : Value} (hz : (zeroValue e).run P w = .ok z w) :
    (Instr.lookup t (.map (some b)) (mk x) false).run P w = .ok ((h x).elim z enc) w := by
  cases hh : h x with
  | none => exact M.look_none KK hx ht hb false hz hh
  | some a => exact M.look_some KK hx ht hb false hz hh
/-- v, ok := m[x] -/
theorem MIs.look2 (M : MIs P k mk enc es clock n h) (KK : KMk P k mk ok) {x : K} (hx : ok x) (ht : P.underlying t = some (.map k e)) (hb : w.heap[b]? = some (.map es clock)) {z : Value} (hz : (zeroValue e).run P w = .ok z w) :
    (Instr.lookup t (.map (some b)) (mk x) true).run P w = .ok (.tuple #[(h x).elim z enc, .bool (h x).isSome]) w := by
  cases hh : h x with
  | none => exact M.look_none KK hx ht hb true hz hh
  | some a => exact M.look_some KK hx ht hb true hz hh

theorem MIs.store [DecidableEq K] (M : MIs P k mk enc es clock n h) (KK : KMk P k mk ok) {x : K} (hx : ok x) (ht : P.underlying t = some (.map k e)) (hb : w.heap[b]? = some (.map es clock)) (hn : n < maxLen) (a : α) :
    ∃ es' clock', (Instr.mapUpdate t (.map (some b)) (mk x) (enc a)).run P w = .ok () (setBlock w b (.map es' clock')) ∧ MIs P k mk enc es' clock' (if (h x).isSome then n else n + 1) (mup h x a) := by
  obtain ⟨l, hl⟩ := KK.lit x hx
  obtain ⟨F, hs, hsd, hfl⟩ := M
  rcases KK.keyed.find w hl es.toList F.keys with ⟨h1, h2⟩ | ⟨j, e0, h1, h2, h3⟩
  · have hno : h x = none := by
      cases hh : h x with
      | none => rfl
      | some a =>
        obtain ⟨e1, m1, k1, _⟩ := hfl x a hh
        exact absurd k1 (h2 e1 m1)
    refine ⟨es.push ⟨mk x, enc a, clock⟩, clock + 1, ?_, ⟨⟨by simp; omega, stamped_push F.stamped h2, ?_⟩, by simp [hno, hs], ?_, ?_⟩⟩
    · simp [Instr.mapUpdate, run_underlying ht, MapKept.run_getObj_map hb, KK.keyed.check w false hl, h1, MapKept.run_setObj_map _ hb, Result.andThen, setBlock]
    · intro y hy
      simp only [Array.toList_push, List.mem_append, List.mem_singleton] at hy
      rcases hy with hy | rfl
      · exact F.keys y hy
      · exact ⟨l, hl⟩
    · intro y hy
      simp only [Array.toList_push, List.mem_append, List.mem_singleton] at hy
      rcases hy with hy | rfl
      · obtain ⟨z, c, k1, v1, hz⟩ := hsd y hy
        refine ⟨z, c, k1, v1, ?_⟩
        rw [mup_other _ _ (fun e1 => h2 y hy (by rw [k1, e1]))]
        exact hz
      · exact ⟨x, a, rfl, rfl, mup_same _ _ _⟩
    · intro y c hy
      by_cases hyx : y = x
      · subst hyx
        rw [mup_same] at hy
        cases hy
        exact ⟨⟨mk y, enc a, clock⟩, by simp, rfl, rfl⟩
      · rw [mup_other _ _ hyx] at hy
        obtain ⟨e1, m1, r⟩ := hfl y c hy
        exact ⟨e1, by simp at m1 ⊢; exact .inl m1, r⟩
  · have hj : es[j]? = some e0 := by simpa using h2
    have hjl : j < es.toList.length := (List.getElem?_eq_some_iff.1 h2).1
    have hm0 := List.mem_of_getElem? h2
    have hyes : (h x).isSome = true := by
      obtain ⟨y, c, k1, _, hc⟩ := hsd e0 hm0
      rw [h3] at k1
      rw [KK.inj _ _ k1, hc]
      rfl
    have hkeyf : ∀ e', es[j]? = some e' → ({ e' with key := mk x, val := enc a } : MapEntry).key = e'.key := fun e' he' => by rw [hj] at he'; cases he'; exact h3.symm
    have hlist : (es.modify j (fun e' => { e' with key := mk x, val := enc a })).toList = es.toList.set j { e0 with key := mk x, val := enc a } := by rw [Array.toList_modify, modify_eq_set _ _ _ _ h2]
    have who : ∀ y ∈ es.toList.set j { e0 with key := mk x, val := enc a }, y = { e0 with key := mk x, val := enc a } ∨ (y ∈ es.toList ∧ y.key ≠ mk x) := by
      intro y hy
      obtain ⟨i, hi, ex⟩ := List.getElem_of_mem hy
      rw [List.getElem_set] at ex
      split at ex
      · exact Or.inl ex.symm
      · rename_i hne
        have hi' : i < es.toList.length := by simpa using hi
        refine Or.inr ⟨ex ▸ List.getElem_mem hi', ?_⟩
        rw [← h3]
        exact F.other h2 (by rw [List.getElem?_eq_getElem hi', ex]) (fun e1 => hne e1.symm)
    refine ⟨es.modify j (fun e' => { e' with key := mk x, val := enc a }), clock, ?_, ⟨⟨by simpa using F.size, stamped_modify F.stamped _ _ (fun _ _ => rfl) (fun e' _ he' => hkeyf e' he'), ?_⟩, by simp [hyes, hs], ?_, ?_⟩⟩
    · simp [Instr.mapUpdate, run_underlying ht, MapKept.run_getObj_map hb, KK.keyed.check w false hl, h1, hj, h3, KK.keyed.stays w hl, MapKept.run_setObj_map _ hb, Result.andThen, setBlock]
    · intro y hy
      rw [hlist] at hy
      rcases who y hy with rfl | ⟨hy', hne⟩
      · exact ⟨l, hl⟩
      · exact F.keys y hy'
    · intro y hy
      rw [hlist] at hy
      rcases who y hy with rfl | ⟨hy', hne⟩
      · exact ⟨x, a, rfl, rfl, mup_same _ _ _⟩
      · obtain ⟨z, c, k1, v1, hz⟩ := hsd y hy'
        exact ⟨z, c, k1, v1, by rw [mup_other _ _ (fun e1 => hne (by rw [k1, e1]))]; exact hz⟩
    · intro y c hy
      rw [hlist]
      by_cases hyx : y = x
      · subst hyx
        rw [mup_same] at hy
        cases hy
        exact ⟨_, List.mem_iff_getElem?.2 ⟨j, by rw [List.getElem?_set, if_pos rfl, if_pos hjl]⟩, rfl, rfl⟩
      · rw [mup_other _ _ hyx] at hy
        obtain ⟨e1, m1, k1, v1⟩ := hfl y c hy
        obtain ⟨i, hi⟩ := List.getElem?_of_mem m1
        refine ⟨e1, List.mem_iff_getElem?.2 ⟨i, ?_⟩, k1, v1⟩
        rw [List.getElem?_set, if_neg (fun e2 => hyx ?_)]
        · exact hi
        · subst e2
          rw [h2] at hi
          cases hi
          exact KK.inj _ _ (by rw [← k1, h3])

theorem MIs.drop [DecidableEq K] (M : MIs P k mk enc es clock n h) (KK : KMk P k mk ok) {x : K} (hx : ok x) (ht : P.underlying t = some (.map k e)) (hb : w.heap[b]? = some (.map es clock)) :
    ∃ es', (∀ ty, (Builtin.delete_ #[t, k] ty #[.map (some b), mk x]).run P w = .ok (.tuple #[]) (setBlock w b (.map es' clock))) ∧ MIs P k mk enc es' clock (if (h x).isSome then n - 1 else n) (mdel h x) ∧ ∀ y, y ∈ es'.toList ↔ (y ∈ es.toList ∧ y.key ≠ mk x) := by
  obtain ⟨l, hl⟩ := KK.lit x hx
  obtain ⟨F, hs, hsd, hfl⟩ := M
  rcases KK.keyed.find w hl es.toList F.keys with ⟨h1, h2⟩ | ⟨j, e0, h1, h2, h3⟩
  · have hno : h x = none := by
      cases hh : h x with
      | none => rfl
      | some a =>
        obtain ⟨e1, m1, k1, _⟩ := hfl x a hh
        exact absurd k1 (h2 e1 m1)
    have hd : mdel h x = h := by
      funext y
      by_cases hyx : y = x
      · subst hyx; rw [mdel_same, hno]
      · exact mdel_other _ hyx
    refine ⟨es, fun ty => ?_, ⟨F, by simp [hno, hs], by rw [hd]; exact hsd, by rw [hd]; exact hfl⟩, fun y => ⟨fun hy => ⟨hy, h2 y hy⟩, fun hy => hy.1⟩⟩
    simp [Builtin.delete_, run_underlying ht, MapKept.run_getObj_map hb, KK.keyed.check w _ hl, h1, MapKept.run_setObj_map _ hb, Result.andThen, setBlock]
  · have hjl : j < es.toList.length := (List.getElem?_eq_some_iff.1 h2).1
    have hjs : j < es.size := by simpa using hjl
    have hm0 := List.mem_of_getElem? h2
    have hyes : (h x).isSome = true := by
      obtain ⟨y, c, k1, _, hc⟩ := hsd e0 hm0
      rw [h3] at k1
      rw [KK.inj _ _ k1, hc]
      rfl
    have hsub : (es.eraseIdxIfInBounds j).toList = es.toList.eraseIdx j := by
      unfold Array.eraseIdxIfInBounds
      rw [dif_pos hjs]
      simp
    have hmem : ∀ y, y ∈ (es.eraseIdxIfInBounds j).toList ↔ (y ∈ es.toList ∧ y.key ≠ mk x) := fun y => by
      rw [hsub, List.mem_eraseIdx_iff_getElem?]
      constructor
      · rintro ⟨i, hne, hi⟩
        exact ⟨List.mem_of_getElem? hi, by rw [← h3]; exact F.other h2 hi hne⟩
      · rintro ⟨hy, hne⟩
        obtain ⟨i, hi⟩ := List.getElem?_of_mem hy
        refine ⟨i, fun e1 => hne ?_, hi⟩
        rw [e1, h2] at hi
        cases hi
        exact h3
    refine ⟨es.eraseIdxIfInBounds j, fun ty => ?_, ⟨⟨Nat.le_trans (MapFrom.size_erase es j) F.size, stamped_erase F.stamped j, fun y hy => F.keys y ((hmem y).1 hy).1⟩, ?_, fun y hy => ?_, fun y c hy => ?_⟩, hmem⟩
    · simp [Builtin.delete_, run_underlying ht, MapKept.run_getObj_map hb, KK.keyed.check w _ hl, h1, MapKept.run_setObj_map _ hb, Result.andThen, setBlock]
    · rw [← Array.length_toList, hsub, List.length_eraseIdx, if_pos hjl, if_pos hyes, Array.length_toList, hs]
    · obtain ⟨hy1, hy2⟩ := (hmem y).1 hy
      obtain ⟨z, c, k1, v1, hz⟩ := hsd y hy1
      exact ⟨z, c, k1, v1, by rw [mdel_other _ (fun e1 => hy2 (by rw [k1, e1]))]; exact hz⟩
    · by_cases hyx : y = x
      · subst hyx; rw [mdel_same] at hy; cases hy
      · rw [mdel_other _ hyx] at hy
        obtain ⟨e1, m1, k1, v1⟩ := hfl y c hy
        exact ⟨e1, (hmem e1).2 ⟨m1, fun e2 => hyx (KK.inj _ _ (by rw [← k1, e2]))⟩, k1, v1⟩

theorem MIs.entry [DecidableEq K] (M : MIs P k mk enc es clock n h) (KK : KMk P k mk ok) {x : K} (hx : ok x) (ht : P.underlying t = some (.map k e)) (hb : w.heap[b]? = some (.map es clock)) (hn : n < maxLen) {z : Value} (hz : ∀ u : World, (zeroValue e).run P u = .ok z u) :
    ∃ (v0 : Value) (st : Nat) (es1 : Array MapEntry) (clock1 : Nat), (Instr.mapEntry t (.map (some b)) (mk x)).run P w = .ok (.tuple #[v0, .int .i64 (st : Int)]) (setBlock w b (.map es1 clock1)) ∧ v0 = (h x).elim z enc ∧
      ∀ (a : α), ∃ es' clock', MIs P k mk enc es' clock' (if (h x).isSome then n else n + 1) (mup h x a) ∧ ∀ w2 : World, w2.heap[b]? = some (.map es1 clock1) → (Instr.entryStore t (.map (some b)) (.int .i64 (st : Int)) (enc a)).run P w2 = .ok () (setBlock w2 b (.map es' clock')) := by
  obtain ⟨l, hl⟩ := KK.lit x hx
  obtain ⟨s1, s2, _⟩ := M.fit.stamped
  have fin : ∀ (a : α) (es' : Array MapEntry) (clock' : Nat), (Instr.mapUpdate t (.map (some b)) (mk x) (enc a)).run P w = .ok () (setBlock w b (.map es' clock')) → MIs P k mk enc es' clock' (if (h x).isSome then n else n + 1) (mup h x a) := by
    intro a es' clock' hr
    obtain ⟨es2, clock2, hr2, M2⟩ := M.store KK hx ht hb hn a
    rw [hr2] at hr
    have h1 : setBlock w b (.map es2 clock2) = setBlock w b (.map es' clock') := by injection hr
    have h2 := heap_setBlock_same hb (.map es2 clock2)
    rw [h1, heap_setBlock_same hb] at h2
    cases h2
    exact M2
  rcases KK.keyed.find w hl es.toList M.fit.keys with ⟨h1, h2⟩ | ⟨j, e0, h1, h2, h3⟩
  · have hno : h x = none := by
      cases hh : h x with
      | none => rfl
      | some a =>
        obtain ⟨e1, m1, k1, _⟩ := M.full x a hh
        exact absurd k1 (h2 e1 m1)
    refine ⟨z, clock, es.push ⟨mk x, z, clock⟩, clock + 1, ?_, by rw [hno]; rfl, fun a => ⟨es.push ⟨mk x, enc a, clock⟩, clock + 1, fin _ _ _ ?_, fun w2 hw2 => ?_⟩⟩
    · simp [Instr.mapEntry, run_underlying ht, MapKept.run_getObj_map hb, KK.keyed.check w false hl, h1, hz, MapKept.run_setObj_map _ hb, Result.andThen, setBlock, goInt]
    · simp [Instr.mapUpdate, run_underlying ht, MapKept.run_getObj_map hb, KK.keyed.check w false hl, h1, MapKept.run_setObj_map _ hb, Result.andThen, setBlock]
    · have hidx : (es.push ⟨mk x, z, clock⟩).findIdx? (fun e => ((e.born : Nat) : Int) == ((clock : Nat) : Int)) = some es.size := by
        rw [WideElems.findIdx_arr]
        have := WideElems.findIdx_born (l := (es.push ⟨mk x, z, clock⟩).toList) (j := es.size) (e0 := ⟨mk x, z, clock⟩) (by
          simp only [Array.toList_push, List.map_append, List.map_cons, List.map_nil]
          refine List.nodup_append.2 ⟨s2, by simp, fun a ha c hc e1 => ?_⟩
          simp only [List.mem_singleton] at hc
          obtain ⟨x, hx, rfl⟩ := List.mem_map.1 ha
          have := s1 x hx
          omega) (by simp)
        exact this
      have hmod : (es.push ⟨mk x, z, clock⟩).modify es.size (fun e => { e with val := enc a }) = es.push ⟨mk x, enc a, clock⟩ := by
        apply Array.ext'
        rw [Array.toList_modify, Array.toList_push, Array.toList_push, ← Array.length_toList, WideElems.modify_last]
      simp [Instr.entryStore, MapKept.run_getObj_map hw2, asInt, asIntOf, hidx, hmod, MapKept.run_setObj_map _ hw2, Result.andThen, setBlock]
  · have hj : es[j]? = some e0 := by simpa using h2
    have hval : e0.val = (h x).elim z enc := by
      obtain ⟨y, a, k1, v1, hy⟩ := M.sound e0 (List.mem_of_getElem? h2)
      rw [h3] at k1
      rw [KK.inj _ _ k1, hy, v1]
      rfl
    have hsame : es.modify j (fun e => { e with key := mk x }) = es := by
      apply Array.ext'
      rw [Array.toList_modify, modify_eq_set _ _ _ _ h2]
      have : ({ e0 with key := mk x } : MapEntry) = e0 := by rw [← h3]
      rw [this]
      exact WideElems.set_self _ _ _ h2
    refine ⟨e0.val, e0.born, es, clock, ?_, hval, fun a => ⟨es.modify j (fun e' => { e' with key := mk x, val := enc a }), clock, fin _ _ _ ?_, fun w2 hw2 => ?_⟩⟩
    · simp [Instr.mapEntry, run_underlying ht, MapKept.run_getObj_map hb, KK.keyed.check w false hl, h1, hj, h3, KK.keyed.stays w hl, hsame, MapKept.run_setObj_map _ hb, Result.andThen, setBlock, goInt]
    · simp [Instr.mapUpdate, run_underlying ht, MapKept.run_getObj_map hb, KK.keyed.check w false hl, h1, hj, h3, KK.keyed.stays w hl, MapKept.run_setObj_map _ hb, Result.andThen, setBlock]
    · have hidx : es.findIdx? (fun e => ((e.born : Nat) : Int) == ((e0.born : Nat) : Int)) = some j := by
        rw [WideElems.findIdx_arr]
        exact WideElems.findIdx_born s2 h2
      have hmod : es.modify j (fun e => { e with val := enc a }) = es.modify j (fun e' => { e' with key := mk x, val := enc a }) := by
        apply Array.ext'
        rw [Array.toList_modify, Array.toList_modify, modify_eq_set _ _ _ _ h2, modify_eq_set _ _ _ _ h2, ← h3]
      simp [Instr.entryStore, MapKept.run_getObj_map hw2, asInt, asIntOf, hidx, hmod, MapKept.run_setObj_map _ hw2, Result.andThen, setBlock]

theorem MIs.len (M : MIs P k mk enc es clock n h) (ht : P.underlying t = some (.map k e)) (hb : w.heap[b]? = some (.map es clock)) (ty : TypeId) : (Builtin.len_ #[t] ty #[.map (some b)]).run P w = .ok (.int .i64 (n : Int)) w := by
  simp [Builtin.len_, run_underlying ht, MapKept.run_getObj_map hb, goInt, Result.andThen, M.size]

/-- its keys -/
theorem MIs.keyList (M : MIs P k mk enc es clock n h) (KK : KMk P k mk ok) : ∃ ks : List K, ks.Nodup ∧ ks.length = n ∧ es.toList.map (·.key) = ks.map mk ∧ ∀ x, x ∈ ks ↔ (h x).isSome = true := by
  obtain ⟨F, hs, hsd, hfl⟩ := M
  have key : ∀ l : List MapEntry, (∀ e ∈ l, ∃ x a, e.key = mk x ∧ e.val = enc a ∧ h x = some a) → ∃ ks : List K, l.map (·.key) = ks.map mk ∧ ∀ x ∈ ks, (h x).isSome = true := by
    intro l
    induction l with
    | nil => intro _; exact ⟨[], rfl, by simp⟩
    | cons y l ih =>
      intro hl
      obtain ⟨ks, h1, h2⟩ := ih fun e he => hl e (by simp [he])
      obtain ⟨x, a, k1, _, hx⟩ := hl y (by simp)
      refine ⟨x :: ks, by simp [k1, h1], fun z hz => ?_⟩
      rcases List.mem_cons.1 hz with rfl | hz
      · rw [hx]; rfl
      · exact h2 z hz
  obtain ⟨ks, h1, h2⟩ := key es.toList hsd
  refine ⟨ks, ?_, ?_, h1, fun x => ⟨h2 x, fun hx => ?_⟩⟩
  · have := F.stamped.2.2
    rw [h1] at this
    exact List.Pairwise.of_map mk (fun a b hab e => hab (by rw [e])) this
  · have := congrArg List.length h1
    simp at this
    omega
  · obtain ⟨a, ha⟩ := Option.isSome_iff_exists.1 hx
    obtain ⟨e1, m1, k1, _⟩ := hfl x a ha
    have h3 : mk x ∈ ks.map mk := by rw [← h1]; exact List.mem_map.2 ⟨e1, m1, k1⟩
    obtain ⟨y, hy, hyx⟩ := List.mem_map.1 h3
    rw [← KK.inj _ _ hyx]
    exact hy
end

/-! items -/
def It.obj (g : Nat) (o : Obj) : It := ⟨some g, fun w => w.heap[g]? = some o, fun w w' h hb => by rw [h g rfl]; exact hb, fun w h g' e => by cases e; exact (Array.getElem?_eq_some_iff.1 h).1⟩
def It.map {K α : Type} (P : Program) (k : TypeId) (mk : K → Value) (enc : α → Value) (g n : Nat) (h : K → Option α) : It :=
  ⟨some g, fun w => ∃ es clock, w.heap[g]? = some (.map es clock) ∧ MIs P k mk enc es clock n h, fun w w' hk hb => by
    obtain ⟨es, clock, h1, h2⟩ := hb
    exact ⟨es, clock, by rw [hk g rfl]; exact h1, h2⟩, fun w hb g' e => by
    cases e
    obtain ⟨es, clock, h1, _⟩ := hb
    exact (Array.getElem?_eq_some_iff.1 h1).1⟩

theorem grown_block {w : World} {b : Nat} {o0 : Obj} (hb : w.heap[b]? = some o0) (o : Obj) : w.grownBy (setBlock w b o) (some b) :=
  ⟨rfl, rfl, rfl, by simp [setBlock], fun i _ hi => (heap_set hb).2 i (fun e => hi (by rw [e]))⟩

section
variable {K α : Type} {P : Program} {k e t : TypeId} {mk : K → Value} {ok : K → Prop} {enc : α → Value} {n g : Nat} {h : K → Option α} {w0 w : World} {L : List It}

theorem Sep.newMap (H : Sep w0 w L) (P : Program) (k : TypeId) (mk : K → Value) (enc : α → Value) : Sep w0 (w.alloc (.map #[] 0)) (L ++ [.map P k mk enc w.heap.size 0 mno]) := by
  refine (H.alloc _).push (y := .map P k mk enc w.heap.size 0 mno) ⟨#[], 0, heap_alloc_new w _, MIs.empty⟩ (fun g e => ?_)
  cases e
  exact ⟨H.below.size, fun i x hx e => by have := x.live w (H.all i x hx) _ e; omega⟩
theorem Sep.newObj (H : Sep w0 w L) (o : Obj) : Sep w0 (w.alloc o) (L ++ [.obj w.heap.size o]) := by
  refine (H.alloc _).push (y := .obj w.heap.size o) (heap_alloc_new w _) (fun g e => ?_)
  cases e
  exact ⟨H.below.size, fun i x hx e => by have := x.live w (H.all i x hx) _ e; omega⟩
theorem Sep.look (H : Sep w0 w L) (i : Nat) (hi : L[i]? = some (.map P k mk enc g n h)) (KK : KMk P k mk ok) {x : K} (hx : ok x) (ht : P.underlying t = some (.map k e)) {z : Value} (hz : (zeroValue e).run P w = .ok z w) :
    (Instr.lookup t (.map (some g)) (mk x) false).run P w = .ok ((h x).elim z enc) w := by
  obtain ⟨es, clock, hb, M⟩ := H.all i _ hi
  exact M.look KK hx ht hb hz
theorem Sep.look2 (H : Sep w0 w L) (i : Nat) (hi : L[i]? = some (.map P k mk enc g n h)) (KK : KMk P k mk ok) {x : K} (hx : ok x) (ht : P.underlying t = some (.map k e)) {z : Value} (hz : (zeroValue e).run P w = .ok z w) :
    (Instr.lookup t (.map (some g)) (mk x) true).run P w = .ok (.tuple #[(h x).elim z enc, .bool (h x).isSome]) w := by
  obtain ⟨es, clock, hb, M⟩ := H.all i _ hi
  exact M.look2 KK hx ht hb hz
theorem Sep.mapLen (H : Sep w0 w L) (i : Nat) (hi : L[i]? = some (.map P k mk enc g n h)) (ht : P.underlying t = some (.map k e)) (ty : TypeId) : (Builtin.len_ #[t] ty #[.map (some g)]).run P w = .ok (.int .i64 (n : Int)) w := by
  obtain ⟨es, clock, hb, M⟩ := H.all i _ hi
  exact M.len ht hb ty
theorem Sep.store [DecidableEq K] (H : Sep w0 w L) (i : Nat) (hi : L[i]? = some (.map P k mk enc g n h)) (KK : KMk P k mk ok) {x : K} (hx : ok x) (ht : P.underlying t = some (.map k e)) (hn : n < maxLen) (a : α) :
    ∃ w', (Instr.mapUpdate t (.map (some g)) (mk x) (enc a)).run P w = .ok () w' ∧ w'.heap.size = w.heap.size ∧ Sep w0 w' (L.set i (.map P k mk enc g (if (h x).isSome then n else n + 1) (mup h x a))) := by
  obtain ⟨es, clock, hb, M⟩ := H.all i _ hi
  obtain ⟨es', clock', hrun, M'⟩ := M.store KK hx ht hb hn a
  exact ⟨_, hrun, by simp [setBlock], H.step hi (y := .map P k mk enc g _ _) (grown_block hb _) ⟨es', clock', heap_setBlock_same hb _, M'⟩ (.inr (.inl rfl))⟩
theorem Sep.drop [DecidableEq K] (H : Sep w0 w L) (i : Nat) (hi : L[i]? = some (.map P k mk enc g n h)) (KK : KMk P k mk ok) {x : K} (hx : ok x) (ht : P.underlying t = some (.map k e)) :
    ∃ w', (∀ ty, (Builtin.delete_ #[t, k] ty #[.map (some g), mk x]).run P w = .ok (.tuple #[]) w') ∧ w'.heap.size = w.heap.size ∧ Sep w0 w' (L.set i (.map P k mk enc g (if (h x).isSome then n - 1 else n) (mdel h x))) := by
  obtain ⟨es, clock, hb, M⟩ := H.all i _ hi
  obtain ⟨es', hrun, M', _⟩ := M.drop KK hx ht hb
  exact ⟨_, hrun, by simp [setBlock], H.step hi (y := .map P k mk enc g _ _) (grown_block hb _) ⟨es', clock, heap_setBlock_same hb _, M'⟩ (.inr (.inl rfl))⟩
/-- behind 'mapEntry' at key x: what 'entryStore' will do -/
def Stored {K α : Type} [DecidableEq K] (P : Program) (t k : TypeId) (mk : K → Value) (enc : α → Value) (g n : Nat) (h : K → Option α) (x : K) (st : Nat) (es1 : Array MapEntry) (clock1 : Nat) : Prop :=
  ∀ (a : α) (w2 : World) (L2 : List It) (j : Nat) (w02 : World), Sep w02 w2 L2 → L2[j]? = some (.obj g (.map es1 clock1)) → ∃ w3, (Instr.entryStore t (.map (some g)) (.int .i64 (st : Int)) (enc a)).run P w2 = .ok () w3 ∧ w3.heap.size = w2.heap.size ∧
        Sep w02 w3 (L2.set j (.map P k mk enc g (if (h x).isSome then n else n + 1) (mup h x a)))
/-- m[x] = a in two steps -/
theorem Sep.entry [DecidableEq K] (H : Sep w0 w L) (i : Nat) (hi : L[i]? = some (.map P k mk enc g n h)) (KK : KMk P k mk ok) {x : K} (hx : ok x) (ht : P.underlying t = some (.map k e)) (hn : n < maxLen) {z : Value} (hz : ∀ u : World, (zeroValue e).run P u = .ok z u) :
    ∃ (v0 : Value) (st : Nat) (es1 : Array MapEntry) (clock1 : Nat) (w' : World), (Instr.mapEntry t (.map (some g)) (mk x)).run P w = .ok (.tuple #[v0, .int .i64 (st : Int)]) w' ∧ v0 = (h x).elim z enc ∧ w'.heap.size = w.heap.size ∧ Sep w0 w' (L.set i (.obj g (.map es1 clock1))) ∧
      Stored P t k mk enc g n h x st es1 clock1 := by
  obtain ⟨es, clock, hb, M⟩ := H.all i _ hi
  obtain ⟨v0, st, es1, clock1, hrun, hv, hst⟩ := M.entry KK hx ht hb hn hz
  refine ⟨v0, st, es1, clock1, _, hrun, hv, by simp [setBlock], H.step hi (y := .obj g _) (grown_block hb _) (heap_setBlock_same hb _) (.inr (.inl rfl)), fun a w2 L2 j w02 H2 hj => ?_⟩
  obtain ⟨es', clock', M', hr'⟩ := hst a
  have hb2 : w2.heap[g]? = some (.map es1 clock1) := H2.all j _ hj
  exact ⟨_, hr' w2 hb2, by simp [setBlock], H2.step hj (y := .map P k mk enc g _ _) (grown_block hb2 _) ⟨es', clock', heap_setBlock_same hb2 _, M'⟩ (.inr (.inl rfl))⟩
/-- the second part of a tuple -/
def sndOf : Value → Value
  | .tuple cs => cs.getD 1 undef
  | v => v
theorem sndOf_mk (a b : Value) : sndOf (.tuple #[a, b]) = b := rfl
theorem Sep.mapLe (H : Sep w0 w L) (i : Nat) (hi : L[i]? = some (.map P k mk enc g n h)) : n ≤ maxLen := by
  obtain ⟨es, clock, hb, M⟩ := H.all i _ hi
  rw [← M.size]
  exact M.fit.size
/-- its entries by name, and back -/
theorem Sep.mapOpen (H : Sep w0 w L) (i : Nat) (hi : L[i]? = some (.map P k mk enc g n h)) : ∃ es clock, MIs P k mk enc es clock n h ∧ Sep w0 w (L.set i (.obj g (.map es clock))) := by
  obtain ⟨es, clock, hb, M⟩ := H.all i _ hi
  exact ⟨es, clock, M, H.step hi (w' := w) (y := .obj g (.map es clock)) (World.grownBy.refl w _) hb (.inr (.inl rfl))⟩
theorem Sep.mapShut {es : Array MapEntry} {clock : Nat} (H : Sep w0 w L) (i : Nat) (hi : L[i]? = some (.obj g (.map es clock))) (M : MIs P k mk enc es clock n h) : Sep w0 w (L.set i (.map P k mk enc g n h)) :=
  H.step hi (w' := w) (y := .map P k mk enc g n h) (World.grownBy.refl w _) ⟨es, clock, H.all i _ hi, M⟩ (.inr (.inl rfl))
end

/-! other orders -/
theorem Sep.iff_pair {w0 w : World} {L : List It} : Sep w0 w L ↔ Below w0.heap.size w0 w ∧ (∀ x ∈ L, x.holds w ∧ ∀ g, x.blk = some g → w0.heap.size ≤ g) ∧ L.Pairwise (fun x y => ∀ g, x.blk = some g → y.blk ≠ some g) := by
  constructor
  · intro H
    refine ⟨H.below, fun x hx => ?_, List.pairwise_iff_getElem.2 fun i j hi hj hij g h1 => H.apart i j _ _ g (by omega) (List.getElem?_eq_getElem hi) (List.getElem?_eq_getElem hj) h1⟩
    obtain ⟨i, hi⟩ := List.getElem?_of_mem hx
    exact ⟨H.all i x hi, fun g hg => H.fresh i x g hi hg⟩
  · rintro ⟨h1, h2, h3⟩
    refine ⟨h1, fun i x hi => (h2 x (List.mem_of_getElem? hi)).1, fun i x g hi hg => (h2 x (List.mem_of_getElem? hi)).2 g hg, fun i j x y g hij hi hj hg => ?_⟩
    obtain ⟨hi', ei⟩ := List.getElem?_eq_some_iff.1 hi
    obtain ⟨hj', ej⟩ := List.getElem?_eq_some_iff.1 hj
    subst ei ej
    rcases Nat.lt_or_gt_of_ne hij with h | h
    · exact List.pairwise_iff_getElem.1 h3 i j hi' hj' h g hg
    · exact fun e => List.pairwise_iff_getElem.1 h3 j i hj' hi' h g e hg
theorem Sep.perm {w0 w : World} {L L' : List It} (H : Sep w0 w L) (h : L'.Perm L) : Sep w0 w L' := by
  obtain ⟨h1, h2, h3⟩ := Sep.iff_pair.1 H
  exact Sep.iff_pair.2 ⟨h1, fun x hx => h2 x (h.mem_iff.1 hx), (h.pairwise_iff (fun {a b} hab g hb ha => hab g ha hb)).2 h3⟩
theorem Sep.sub {w0 w : World} {L L' : List It} (H : Sep w0 w L) (h : L'.Sublist L) : Sep w0 w L' := by
  obtain ⟨h1, h2, h3⟩ := Sep.iff_pair.1 H
  exact Sep.iff_pair.2 ⟨h1, fun x hx => h2 x (h.subset hx), h3.sublist h⟩
/-- a new item in an old one's place -/
theorem Sep.swapLast {w0 w : World} {A B : List It} {x y : It} (H : Sep w0 w ((A ++ x :: B) ++ [y])) : Sep w0 w (A ++ y :: B) := by
  refine (H.perm (L' := A ++ y :: (B ++ [x])) ?_).sub ?_
  · rw [List.append_assoc]
    refine List.Perm.append_left A ?_
    refine ((List.perm_append_comm (l₁ := [y]) (l₂ := B ++ [x])).trans ?_).symm.symm
    refine List.Perm.append_right [y] ?_
    exact List.perm_append_singleton x B
  · refine List.Sublist.append_left ?_ A
    refine List.Sublist.cons_cons y ?_
    exact List.sublist_append_left B [x]
theorem Sep.swapAt {w0 w : World} {L : List It} {y : It} (H : Sep w0 w (L ++ [y])) (i : Nat) (hi : i < L.length) : Sep w0 w (L.set i y) := by
  have h1 : L = L.take i ++ L[i] :: L.drop (i + 1) := by rw [← List.drop_eq_getElem_cons hi, List.take_append_drop]
  have h2 : L.set i y = L.take i ++ y :: L.drop (i + 1) := List.set_eq_take_append_cons_drop .. |>.trans (by rw [if_pos hi])
  rw [h2]
  rw [h1] at H
  exact H.swapLast

/-! range -/
/-- an iterator over the entries: 'todo': the keys still to come -/
structure Rg {K : Type} (mk : K → Value) (es : Array MapEntry) (clock since : Nat) (seen : Array Nat) (c0 : Nat) (todo : List K) : Prop where
  old : ∀ x ∈ es.toList, x.born < since
  le0 : since ≤ c0
  le1 : since ≤ clock
  nd : todo.Nodup
  mem : ∀ x, x ∈ todo ↔ ∃ e ∈ es.toList, e.key = mk x ∧ seen.contains e.born = false

section
variable {K α : Type} {P : Program} {k e t : TypeId} {mk : K → Value} {ok : K → Prop} {enc : α → Value} {n g r : Nat} {h : K → Option α} {w0 w : World} {L : List It} {es : Array MapEntry} {clock since c0 : Nat} {seen : Array Nat} {todo : List K}

theorem Sep.rangeStart (H : Sep w0 w L) (i : Nat) (hi : L[i]? = some (.obj g (.map es clock))) (M : MIs P k mk enc es clock n h) (KK : KMk P k mk ok) (ht : P.underlying t = some (.map k e)) :
    (Instr.range t (.map (some g))).run P w = .ok (.pointer (some ⟨w.heap.size, 0, none⟩)) (w.alloc (.mapIter (some g) clock #[] clock)) ∧
      Sep w0 (w.alloc (.mapIter (some g) clock #[] clock)) (L ++ [.obj w.heap.size (.mapIter (some g) clock #[] clock)]) ∧
      ∃ todo : List K, Rg mk es clock clock #[] clock todo ∧ todo.length = n ∧ ∀ x, x ∈ todo ↔ (h x).isSome = true := by
  have hb : w.heap[g]? = some (.map es clock) := H.all i _ hi
  refine ⟨run_range_map w t k e g es clock ht hb, H.newObj _, ?_⟩
  obtain ⟨ks, h1, h2, h3, h4⟩ := M.keyList KK
  refine ⟨ks, ⟨M.fit.stamped.1, Nat.le_refl _, Nat.le_refl _, h1, fun x => ⟨fun hx => ?_, fun ⟨e1, m1, k1, _⟩ => ?_⟩⟩, h2, h4⟩
  · obtain ⟨a, ha⟩ := Option.isSome_iff_exists.1 ((h4 x).1 hx)
    obtain ⟨e1, m1, k1, _⟩ := M.full x a ha
    exact ⟨e1, m1, k1, by simp⟩
  · obtain ⟨y, a, k2, _, hy⟩ := M.sound e1 m1
    rw [k1] at k2
    rw [h4, KK.inj _ _ k2, hy]
    rfl

/-- the step: none is left, or one that was still to come comes -/
theorem Sep.rangeNext [DecidableEq K] (H : Sep w0 w L) (i j : Nat) (hij : i ≠ j) (hi : L[i]? = some (.obj g (.map es clock))) (hj : L[j]? = some (.obj r (.mapIter (some g) since seen c0))) (M : MIs P k mk enc es clock n h) (KK : KMk P k mk ok)
    (R : Rg mk es clock since seen c0 todo) (ty : TypeId) :
    (todo = [] ∧ (Instr.next (.pointer (some ⟨r, 0, none⟩)) false ty).run P w = .ok (.tuple #[.bool false]) w) ∨
    ∃ x a w1 seen', x ∈ todo ∧ h x = some a ∧ (Instr.next (.pointer (some ⟨r, 0, none⟩)) false ty).run P w = .ok (.tuple #[.bool true, mk x, enc a]) w1 ∧ w1.heap.size = w.heap.size ∧
      Sep w0 w1 (L.set j (.obj r (.mapIter (some g) since seen' clock))) ∧ Rg mk es clock since seen' clock (todo.erase x) ∧ (Instr.entry (.pointer (some ⟨r, 0, none⟩))).run P w1 = .ok (.tuple #[mk x, enc a]) w1 := by
  have hb : w.heap[g]? = some (.map es clock) := H.all i _ hi
  have hr : w.heap[r]? = some (.mapIter (some g) since seen c0) := H.all j _ hj
  have hst := (stamped_iff es clock).1 M.fit.stamped
  rcases run_next_at (P := P) w ty r g since c0 seen es clock hr hb R.old R.le0 with ⟨h0, hrun⟩ | ⟨e1, he, w1, hal, hrun⟩
  · refine .inl ⟨?_, hrun⟩
    refine List.eq_nil_iff_forall_not_mem.2 fun x hx => ?_
    obtain ⟨e2, m2, _, c2⟩ := (R.mem x).1 hx
    rw [all_seen es seen h0 e2 m2] at c2
    cases c2
  · obtain ⟨hem, hes⟩ := mem_left he
    obtain ⟨x, a, k1, v1, hx⟩ := M.sound e1 hem
    have H1 : Sep w0 w1 L := by
      rcases hal with rfl | rfl
      · exact H
      · exact H.drew
    have hb1 : w1.heap[g]? = some (.map es clock) := H1.all i _ hi
    have hr1 : w1.heap[r]? = some (.mapIter (some g) since seen c0) := H1.all j _ hj
    have hne : g ≠ r := fun e2 => by
      rw [e2, hr] at hb
      cases hb
    refine .inr ⟨x, a, _, seen.push e1.born, (R.mem x).2 ⟨e1, hem, k1, hes⟩, hx, by rw [hrun, k1, v1], ?_, H1.step hj (y := .obj r _) (grown_block hr1 _) ?_ (.inr (.inl rfl)), ⟨R.old, R.le1, R.le1, R.nd.erase _, fun y => ?_⟩, ?_⟩
    · rcases hal with rfl | rfl <;> simp [setBlock]
    · exact (heap_set hr1).1
    · rw [R.nd.mem_erase_iff, R.mem]
      constructor
      · rintro ⟨hy, e2, m2, k2, c2⟩
        refine ⟨e2, m2, k2, ?_⟩
        rw [contains_push, c2, Bool.false_or, beq_eq_false_iff_ne]
        intro hbn
        have := born_inj hst.2.1 m2 hem hbn
        subst this
        rw [k1] at k2
        exact hy (KK.inj _ _ k2).symm
      · rintro ⟨e2, m2, k2, c2⟩
        rw [contains_push, Bool.or_eq_false_iff, beq_eq_false_iff_ne] at c2
        refine ⟨fun e3 => ?_, e2, m2, k2, c2.1⟩
        subst e3
        exact c2.2 (by rw [M.fit.one m2 hem (by rw [k1, k2])])
    · have := run_entry_at (P := P) (setBlock w1 r (.mapIter (some g) since (seen.push e1.born) clock)) r g since seen es clock e1 (heap_set hr1).1 (((heap_set hr1).2 g hne).trans hb1) hem hst.2.1
      rw [this, k1, v1]

/-- delete of a key that has come, in the round -/
theorem Sep.rangeDrop [DecidableEq K] (H : Sep w0 w L) (i : Nat) (hi : L[i]? = some (.obj g (.map es clock))) (M : MIs P k mk enc es clock n h) (KK : KMk P k mk ok) (ht : P.underlying t = some (.map k e))
    (R : Rg mk es clock since seen c0 todo) {x : K} (hx : ok x) :
    ∃ es' w1, (∀ ty, (Builtin.delete_ #[t, k] ty #[.map (some g), mk x]).run P w = .ok (.tuple #[]) w1) ∧ w1.heap.size = w.heap.size ∧ Sep w0 w1 (L.set i (.obj g (.map es' clock))) ∧ MIs P k mk enc es' clock (if (h x).isSome then n - 1 else n) (mdel h x) ∧ Rg mk es' clock since seen c0 (todo.erase x) := by
  have hb : w.heap[g]? = some (.map es clock) := H.all i _ hi
  obtain ⟨es', hrun, M', hwho⟩ := M.drop KK hx ht hb
  refine ⟨es', _, hrun, by simp [setBlock], H.step hi (y := .obj g _) (grown_block hb _) (heap_setBlock_same hb _) (.inr (.inl rfl)), M', ⟨fun y hy => R.old y ((hwho y).1 hy).1, R.le0, R.le1, R.nd.erase _, fun y => ?_⟩⟩
  rw [R.nd.mem_erase_iff, R.mem]
  constructor
  · rintro ⟨hy, e2, m2, k2, c2⟩
    exact ⟨e2, (hwho e2).2 ⟨m2, fun e3 => hy (KK.inj _ _ (by rw [← k2, e3]))⟩, k2, c2⟩
  · rintro ⟨e2, m2, k2, c2⟩
    obtain ⟨m3, n3⟩ := (hwho e2).1 m2
    exact ⟨fun e3 => n3 (by rw [k2, e3]), e2, m3, k2, c2⟩
end
end Go.Proofs.YtgfldhdmdeeknaaGreatDoor
