/-
  Maps whose keys are pointers, as items of 'Sep': look-up, store, entry. (XMap over, by program, with pointers for keys.) Conditions: none beyond each theorem's own premises.
-/
import Derived.Test.YtgidkaidljiddaaDoorMap
import Derived.LaidEqlPtr
namespace Go.Proofs.YtgidkaidljiddaaDoor
open Go.RowKit Go.ChangeMaps Go.MapKept Go.WideShapes
set_option linter.unusedVariables false
namespace Pm

/-- a pointer to a block's beginning, one of S -/
def PKey (S : Nat → Prop) (v : Value) : Prop := ∃ g, S g ∧ v = .pointer (some ⟨g, 0, none⟩)
/-- the blocks of S lie as rows of cells, nothing of them frozen -/
def Live (S : Nat → Prop) (w : World) : Prop := ∀ g, S g → ∃ (cs : Array Value) (t : TypeId), w.heap[g]? = some (.cells cs t (0, 0))
structure PKeyed (S : Nat → Prop) (P : Program) (k : TypeId) : Prop where
  check : ∀ (w : World) (em : Bool) {v : Value}, PKey S v → (Instr.checkKey em 10000 k v).run P w = .ok () w
  find : ∀ (w : World), Live S w → ∀ {x : Value}, PKey S x → ∀ es : List MapEntry, (∀ e ∈ es, PKey S e.key) →
    ((Instr.findKey k x es).run P w = .ok none w ∧ ∀ e ∈ es, e.key ≠ x) ∨ ∃ j e, (Instr.findKey k x es).run P w = .ok (some (j, e.val)) w ∧ es[j]? = some e ∧ e.key = x
  stays : ∀ (w : World) {v : Value}, PKey S v → (Instr.keyThatStays v v).run P w = .ok v w
theorem ptr_same {P : Program} {k e : TypeId} {j : TypeInfo} (hk : P.underlying k = some (.pointer e)) (he : P.info? e = some j) (hsz : j.size ≠ 0) (w : World) {S : Nat → Prop} (hL : Live S w) (g g' : Nat) (hg : S g) (hg' : S g') :
    (Op.equal k (.pointer (some ⟨g, 0, none⟩)) (.pointer (some ⟨g', 0, none⟩))).run P w = .ok (decide (g = g')) w := by
  obtain ⟨ca, ta, ha⟩ := hL g hg
  obtain ⟨cb, tb, hb⟩ := hL g' hg'
  have h : ∀ d : Nat, (Op.equalIn (d + 1) k (.pointer (some ⟨g, 0, none⟩)) (.pointer (some ⟨g', 0, none⟩))).run P w = .ok (decide (g = g')) w := fun d => by
    by_cases hgg : g = g'
    · subst hgg
      simp [Op.equalIn, run_underlying hk, sizeOf, typeInfo, he, run_sameAddr_same]
    · have hne : (⟨g, 0, none⟩ : Addr) ≠ ⟨g', 0, none⟩ := fun e => hgg (by injection e)
      simp [Op.equalIn, run_underlying hk, sizeOf, typeInfo, he, hsz, run_sameAddr_other w hne ha hb, hgg]
  simp [Op.equal, Op.maxDepth, h 9999]
theorem ptr_ask {P : Program} {k : TypeId} {S : Nat → Prop} (w : World) (heq : ∀ (g g' : Nat), S g → S g' → (Op.equal k (.pointer (some ⟨g, 0, none⟩)) (.pointer (some ⟨g', 0, none⟩))).run P w = .ok (decide (g = g')) w) (g : Nat) (hg : S g) : ∀ (es : List MapEntry) (i : Nat), (∀ e ∈ es, PKey S e.key) →
    ((Instr.findAsking k (.pointer (some ⟨g, 0, none⟩)) es i).run P w = .ok none w ∧ ∀ e ∈ es, e.key ≠ .pointer (some ⟨g, 0, none⟩)) ∨ ∃ j e, (Instr.findAsking k (.pointer (some ⟨g, 0, none⟩)) es i).run P w = .ok (some (i + j, e.val)) w ∧ es[j]? = some e ∧ e.key = .pointer (some ⟨g, 0, none⟩)
  | [], i, _ => .inl ⟨rfl, by simp⟩
  | e :: es, i, h => by
    obtain ⟨g', hs', hg'⟩ := h e (by simp)
    have hq := heq g g' hg hs'
    by_cases hgg : g = g'
    · refine .inr ⟨0, e, ?_, rfl, by rw [hg', hgg]⟩
      subst hgg
      simp [Instr.findAsking, hg', hq, Result.andThen]
    · rcases ptr_ask w heq g hg es (i + 1) (fun x hx => h x (by simp [hx])) with ⟨h1, h2⟩ | ⟨j, e', h1, h2, h3⟩
      · refine .inl ⟨?_, fun x hx => ?_⟩
        · simp [Instr.findAsking, hg', hq, hgg, Result.andThen, h1]
        · rcases List.mem_cons.1 hx with rfl | hx
          · rw [hg']
            intro e2
            injection e2 with e3
            injection e3 with e4
            injection e4 with e5
            exact hgg e5.symm
          · exact h2 x hx
      · refine .inr ⟨j + 1, e', ?_, by simpa using h2, h3⟩
        simp [Instr.findAsking, hg', hq, hgg, Result.andThen, h1]
        try omega
theorem ptr_keyed {P : Program} {k e : TypeId} {j : TypeInfo} (S : Nat → Prop) (hk : P.underlying k = some (.pointer e)) (he : P.info? e = some j) (hsz : j.size ≠ 0) : PKeyed S P k where
  check w em v h := by
    obtain ⟨g, _, rfl⟩ := h
    show (Instr.checkKey em (9999 + 1) k _).run P w = _
    unfold Instr.checkKey
    simp only [Sem.run_bind, run_underlying hk, Result.andThen]
    rfl
  find w hL x hx es hes := by
    obtain ⟨g, hsg, rfl⟩ := hx
    cases es with
    | nil => exact .inl ⟨by simp [Instr.findKey, run_underlying hk, Instr.findNow, Result.andThen], by simp⟩
    | cons y ys =>
      obtain ⟨g', _, hg'⟩ := hes y (by simp)
      have hnow : Instr.findNow (.pointer e) (.pointer (some ⟨g, 0, none⟩)) (y :: ys) 0 = none := by
        simp [Instr.findNow, Instr.sameNow]
      have hrun : (Instr.findKey k (.pointer (some ⟨g, 0, none⟩)) (y :: ys)).run P w = (Instr.findAsking k (.pointer (some ⟨g, 0, none⟩)) (y :: ys) 0).run P w := by
        simp [Instr.findKey, run_underlying hk, hnow, Result.andThen]
      rw [hrun]
      rcases ptr_ask w (fun a b ha hb => ptr_same hk he hsz w hL a b ha hb) g hsg (y :: ys) 0 hes with h | ⟨j, e', h1, h2, h3⟩
      · exact .inl h
      · exact .inr ⟨j, e', by simpa using h1, h2, h3⟩
  stays w v h := by
    obtain ⟨g, _, rfl⟩ := h
    simp [Instr.keyThatStays, Instr.sameBits]

/-- entries that a map's block may hold -/
structure MFit (S : Nat → Prop) (P : Program) (k : TypeId) (es : Array MapEntry) (clock : Nat) : Prop where
  size : es.size ≤ maxLen
  stamped : Stamped es clock
  keys : ∀ e ∈ es.toList, PKey S e.key
/-- a kind of keys -/
structure KMk {K : Type} (S : Nat → Prop) (P : Program) (k : TypeId) (mk : K → Value) (ok : K → Prop) : Prop where
  keyed : PKeyed S P k
  inj : ∀ x y, mk x = mk y → x = y
  lit : ∀ x, ok x → PKey S (mk x)
/-- the entries, read: at mk x lies enc a where h x = some a -/
structure MIs {K α : Type} (S : Nat → Prop) (P : Program) (k : TypeId) (mk : K → Value) (enc : α → Value) (es : Array MapEntry) (clock n : Nat) (h : K → Option α) : Prop where
  fit : MFit S P k es clock
  size : es.size = n
  sound : ∀ e ∈ es.toList, ∃ x a, e.key = mk x ∧ e.val = enc a ∧ h x = some a
  full : ∀ x a, h x = some a → ∃ e ∈ es.toList, e.key = mk x ∧ e.val = enc a
section
variable {K α : Type} {S : Nat → Prop} {P : Program} {k e t : TypeId} {mk : K → Value} {ok : K → Prop} {enc : α → Value} {es : Array MapEntry} {clock n : Nat} {h : K → Option α} {w : World} {b : Nat}

theorem MFit.other {j i : Nat} {e0 x : MapEntry} (F : MFit S P k es clock) (h2 : es.toList[j]? = some e0) (hi : es.toList[i]? = some x) (hne : i ≠ j) : x.key ≠ e0.key := by
  have hn : es.toList.Pairwise (fun x y => x.key ≠ y.key) := ((stamped_iff es clock).1 F.stamped).2.2
  obtain ⟨hj, ej⟩ := List.getElem?_eq_some_iff.1 h2
  obtain ⟨hi', ei⟩ := List.getElem?_eq_some_iff.1 hi
  rw [← ej, ← ei]
  rcases Nat.lt_or_gt_of_ne hne with h | h
  · exact List.pairwise_iff_getElem.1 hn i j hi' hj h
  · exact fun e1 => List.pairwise_iff_getElem.1 hn j i hj hi' h e1.symm
theorem MFit.one {x y : MapEntry} (F : MFit S P k es clock) (hx : x ∈ es.toList) (hy : y ∈ es.toList) (hk : x.key = y.key) : x = y :=
  entry_eq_of_key ((stamped_iff es clock).1 F.stamped).2.2 hx hy hk
theorem MIs.empty : MIs S P k mk enc #[] 0 0 (mno (K := K)) := ⟨⟨by simp, stamped_empty 0, by simp⟩, rfl, by simp, by simp [mno]⟩

theorem MIs.look_none (M : MIs S P k mk enc es clock n h) (KK : KMk S P k mk ok) (hw : Live S w) {x : K} (hx : ok x) (ht : P.underlying t = some (.map k e)) (hb : w.heap[b]? = some (.map es clock)) (c : Bool) {z : Value} (hz : (zeroValue e).run P w = .ok z w) (hh : h x = none) :
    (Instr.lookup t (.map (some b)) (mk x) c).run P w = .ok (if c then .tuple #[z, .bool false] else z) w := by
  have hl := KK.lit x hx
  rcases KK.keyed.find w hw hl es.toList M.fit.keys with ⟨h1, h2⟩ | ⟨j, e0, h1, h2, h3⟩
  · simp [Instr.lookup, run_underlying ht, MapKept.run_getObj_map hb, KK.keyed.check w _ hl, h1, hz, Result.andThen]
  · obtain ⟨y, a, h4, h5, h6⟩ := M.sound e0 (List.mem_of_getElem? h2)
    rw [h3] at h4
    rw [← KK.inj _ _ h4, hh] at h6
    cases h6
theorem MIs.look_some (M : MIs S P k mk enc es clock n h) (KK : KMk S P k mk ok) (hw : Live S w) {x : K} (hx : ok x) (ht : P.underlying t = some (.map k e)) (hb : w.heap[b]? = some (.map es clock)) (c : Bool) {z : Value} (hz : (zeroValue e).run P w = .ok z w) {a : α} (hh : h x = some a) :
    (Instr.lookup t (.map (some b)) (mk x) c).run P w = .ok (if c then .tuple #[enc a, .bool true] else enc a) w := by
  have hl := KK.lit x hx
  obtain ⟨e1, m1, k1, v1⟩ := M.full x a hh
  rcases KK.keyed.find w hw hl es.toList M.fit.keys with ⟨h1, h2⟩ | ⟨j, e0, h1, h2, h3⟩
  · exact absurd k1 (h2 e1 m1)
  · have he : e0 = e1 := M.fit.one (List.mem_of_getElem? h2) m1 (by rw [h3, k1])
    subst he
    simp [Instr.lookup, run_underlying ht, MapKept.run_getObj_map hb, KK.keyed.check w _ hl, h1, Result.andThen, v1]
/-- m[x], whatever lies there -/
theorem MIs.look (M : MIs S P k mk enc es clock n h) (KK : KMk S P k mk ok) (hw : Live S w) {x : K} (hx : ok x) (ht : P.underlying t = some (.map k e)) (hb : w.heap[b]? = some (.map es clock)) {z : Value} (hz : (zeroValue e).run P w = .ok z w) :
    (Instr.lookup t (.map (some b)) (mk x) false).run P w = .ok ((h x).elim z enc) w := by
  cases hh : h x with
  | none => exact M.look_none KK hw hx ht hb false hz hh
  | some a => exact M.look_some KK hw hx ht hb false hz hh
/-- v, ok := m[x] -/
theorem MIs.look2 (M : MIs S P k mk enc es clock n h) (KK : KMk S P k mk ok) (hw : Live S w) {x : K} (hx : ok x) (ht : P.underlying t = some (.map k e)) (hb : w.heap[b]? = some (.map es clock)) {z : Value} (hz : (zeroValue e).run P w = .ok z w) :
    (Instr.lookup t (.map (some b)) (mk x) true).run P w = .ok (.tuple #[(h x).elim z enc, .bool (h x).isSome]) w := by
  cases hh : h x with
  | none => exact M.look_none KK hw hx ht hb true hz hh
  | some a => exact M.look_some KK hw hx ht hb true hz hh

theorem MIs.store [DecidableEq K] (M : MIs S P k mk enc es clock n h) (KK : KMk S P k mk ok) (hw : Live S w) {x : K} (hx : ok x) (ht : P.underlying t = some (.map k e)) (hb : w.heap[b]? = some (.map es clock)) (hn : n < maxLen) (a : α) :
    ∃ es' clock', (Instr.mapUpdate t (.map (some b)) (mk x) (enc a)).run P w = .ok () (setBlock w b (.map es' clock')) ∧ MIs S P k mk enc es' clock' (if (h x).isSome then n else n + 1) (mup h x a) := by
  have hl := KK.lit x hx
  obtain ⟨F, hs, hsd, hfl⟩ := M
  rcases KK.keyed.find w hw hl es.toList F.keys with ⟨h1, h2⟩ | ⟨j, e0, h1, h2, h3⟩
  · have hno : h x = none := by
      cases hh : h x with
      | none => rfl
      | some a =>
        obtain ⟨e1, m1, k1, _⟩ := hfl x a hh
        exact absurd k1 (h2 e1 m1)
    refine ⟨es.push ⟨mk x, enc a, clock⟩, clock + 1, ?_, ⟨⟨by simp; omega, stamped_push F.stamped h2, ?_⟩, by simp [hno, hs], ?_, ?_⟩⟩
    · simp [Instr.mapUpdate, run_underlying ht, MapKept.run_getObj_map hb, KK.keyed.check w false hl, h1, MapKept.run_setObj_map _ hb, Result.andThen, setBlock]
    · intro y hy
      simp only [Array.toList_push, List.mem_append, List.mem_singleton] at hy
      rcases hy with hy | rfl
      · exact F.keys y hy
      · exact hl
    · intro y hy
      simp only [Array.toList_push, List.mem_append, List.mem_singleton] at hy
      rcases hy with hy | rfl
      · obtain ⟨z, c, k1, v1, hz⟩ := hsd y hy
        refine ⟨z, c, k1, v1, ?_⟩
        rw [mup_other _ _ (fun e1 => h2 y hy (by rw [k1, e1]))]
        exact hz
      · exact ⟨x, a, rfl, rfl, mup_same _ _ _⟩
    · intro y c hy
      by_cases hyx : y = x
      · subst hyx
        rw [mup_same] at hy
        cases hy
        exact ⟨⟨mk y, enc a, clock⟩, by simp, rfl, rfl⟩
      · rw [mup_other _ _ hyx] at hy
        obtain ⟨e1, m1, r⟩ := hfl y c hy
        exact ⟨e1, by simp at m1 ⊢; exact .inl m1, r⟩
  · have hj : es[j]? = some e0 := by simpa using h2
    have hjl : j < es.toList.length := (List.getElem?_eq_some_iff.1 h2).1
    have hm0 := List.mem_of_getElem? h2
    have hyes : (h x).isSome = true := by
      obtain ⟨y, c, k1, _, hc⟩ := hsd e0 hm0
      rw [h3] at k1
      rw [KK.inj _ _ k1, hc]
      rfl
    have hkeyf : ∀ e', es[j]? = some e' → ({ e' with key := mk x, val := enc a } : MapEntry).key = e'.key := fun e' he' => by rw [hj] at he'; cases he'; exact h3.symm
    have hlist : (es.modify j (fun e' => { e' with key := mk x, val := enc a })).toList = es.toList.set j { e0 with key := mk x, val := enc a } := by rw [Array.toList_modify, modify_eq_set _ _ _ _ h2]
    have who : ∀ y ∈ es.toList.set j { e0 with key := mk x, val := enc a }, y = { e0 with key := mk x, val := enc a } ∨ (y ∈ es.toList ∧ y.key ≠ mk x) := by
      intro y hy
      obtain ⟨i, hi, ex⟩ := List.getElem_of_mem hy
      rw [List.getElem_set] at ex
      split at ex
      · exact Or.inl ex.symm
      · rename_i hne
        have hi' : i < es.toList.length := by simpa using hi
        refine Or.inr ⟨ex ▸ List.getElem_mem hi', ?_⟩
        rw [← h3]
        exact F.other h2 (by rw [List.getElem?_eq_getElem hi', ex]) (fun e1 => hne e1.symm)
    refine ⟨es.modify j (fun e' => { e' with key := mk x, val := enc a }), clock, ?_, ⟨⟨by simpa using F.size, stamped_modify F.stamped _ _ (fun _ _ => rfl) (fun e' _ he' => hkeyf e' he'), ?_⟩, by simp [hyes, hs], ?_, ?_⟩⟩
    · simp [Instr.mapUpdate, run_underlying ht, MapKept.run_getObj_map hb, KK.keyed.check w false hl, h1, hj, h3, KK.keyed.stays w hl, MapKept.run_setObj_map _ hb, Result.andThen, setBlock]
    · intro y hy
      rw [hlist] at hy
      rcases who y hy with rfl | ⟨hy', hne⟩
      · exact hl
      · exact F.keys y hy'
    · intro y hy
      rw [hlist] at hy
      rcases who y hy with rfl | ⟨hy', hne⟩
      · exact ⟨x, a, rfl, rfl, mup_same _ _ _⟩
      · obtain ⟨z, c, k1, v1, hz⟩ := hsd y hy'
        exact ⟨z, c, k1, v1, by rw [mup_other _ _ (fun e1 => hne (by rw [k1, e1]))]; exact hz⟩
    · intro y c hy
      rw [hlist]
      by_cases hyx : y = x
      · subst hyx
        rw [mup_same] at hy
        cases hy
        exact ⟨_, List.mem_iff_getElem?.2 ⟨j, by rw [List.getElem?_set, if_pos rfl, if_pos hjl]⟩, rfl, rfl⟩
      · rw [mup_other _ _ hyx] at hy
        obtain ⟨e1, m1, k1, v1⟩ := hfl y c hy
        obtain ⟨i, hi⟩ := List.getElem?_of_mem m1
        refine ⟨e1, List.mem_iff_getElem?.2 ⟨i, ?_⟩, k1, v1⟩
        rw [List.getElem?_set, if_neg (fun e2 => hyx ?_)]
        · exact hi
        · subst e2
          rw [h2] at hi
          cases hi
          exact KK.inj _ _ (by rw [← k1, h3])

theorem MIs.len (M : MIs S P k mk enc es clock n h) (ht : P.underlying t = some (.map k e)) (hb : w.heap[b]? = some (.map es clock)) (ty : TypeId) : (Builtin.len_ #[t] ty #[.map (some b)]).run P w = .ok (.int .i64 (n : Int)) w := by
  simp [Builtin.len_, run_underlying ht, MapKept.run_getObj_map hb, goInt, Result.andThen, M.size]

/-- its keys -/
theorem MIs.keyList (M : MIs S P k mk enc es clock n h) (KK : KMk S P k mk ok) : ∃ ks : List K, ks.Nodup ∧ ks.length = n ∧ es.toList.map (·.key) = ks.map mk ∧ ∀ x, x ∈ ks ↔ (h x).isSome = true := by
  obtain ⟨F, hs, hsd, hfl⟩ := M
  have key : ∀ l : List MapEntry, (∀ e ∈ l, ∃ x a, e.key = mk x ∧ e.val = enc a ∧ h x = some a) → ∃ ks : List K, l.map (·.key) = ks.map mk ∧ ∀ x ∈ ks, (h x).isSome = true := by
    intro l
    induction l with
    | nil => intro _; exact ⟨[], rfl, by simp⟩
    | cons y l ih =>
      intro hl
      obtain ⟨ks, h1, h2⟩ := ih fun e he => hl e (by simp [he])
      obtain ⟨x, a, k1, _, hx⟩ := hl y (by simp)
      refine ⟨x :: ks, by simp [k1, h1], fun z hz => ?_⟩
      rcases List.mem_cons.1 hz with rfl | hz
      · rw [hx]; rfl
      · exact h2 z hz
  obtain ⟨ks, h1, h2⟩ := key es.toList hsd
  refine ⟨ks, ?_, ?_, h1, fun x => ⟨h2 x, fun hx => ?_⟩⟩
  · have := F.stamped.2.2
    rw [h1] at this
    exact List.Pairwise.of_map mk (fun a b hab e => hab (by rw [e])) this
  · have := congrArg List.length h1
    simp at this
    omega
  · obtain ⟨a, ha⟩ := Option.isSome_iff_exists.1 hx
    obtain ⟨e1, m1, k1, _⟩ := hfl x a ha
    have h3 : mk x ∈ ks.map mk := by rw [← h1]; exact List.mem_map.2 ⟨e1, m1, k1⟩
    obtain ⟨y, hy, hyx⟩ := List.mem_map.1 h3
    rw [← KK.inj _ _ hyx]
    exact hy
end

/-! items -/
def PMap {K α : Type} (S : Nat → Prop) (P : Program) (k : TypeId) (mk : K → Value) (enc : α → Value) (g n : Nat) (h : K → Option α) : It :=
  ⟨some g, fun w => ∃ es clock, w.heap[g]? = some (.map es clock) ∧ MIs S P k mk enc es clock n h, fun w w' hk hb => by
    obtain ⟨es, clock, h1, h2⟩ := hb
    exact ⟨es, clock, by rw [hk g rfl]; exact h1, h2⟩, fun w hb g' e => by
    cases e
    obtain ⟨es, clock, h1, _⟩ := hb
    exact (Array.getElem?_eq_some_iff.1 h1).1⟩

section
variable {K α : Type} {S : Nat → Prop} {P : Program} {k e t : TypeId} {mk : K → Value} {ok : K → Prop} {enc : α → Value} {n g : Nat} {h : K → Option α} {w0 w : World} {L : List It}

theorem Sep.newMap (H : Sep w0 w L) (S : Nat → Prop) (P : Program) (k : TypeId) (mk : K → Value) (enc : α → Value) : Sep w0 (w.alloc (.map #[] 0)) (L ++ [PMap S P k mk enc w.heap.size 0 mno]) := by
  refine (H.alloc _).push (y := PMap S P k mk enc w.heap.size 0 mno) ⟨#[], 0, heap_alloc_new w _, MIs.empty⟩ (fun g e => ?_)
  cases e
  exact ⟨H.below.size, fun i x hx e => by have := x.live w (H.all i x hx) _ e; omega⟩
theorem Sep.look (H : Sep w0 w L) (i : Nat) (hi : L[i]? = some (PMap S P k mk enc g n h)) (KK : KMk S P k mk ok) (hw : Live S w) {x : K} (hx : ok x) (ht : P.underlying t = some (.map k e)) {z : Value} (hz : (zeroValue e).run P w = .ok z w) :
    (Instr.lookup t (.map (some g)) (mk x) false).run P w = .ok ((h x).elim z enc) w := by
  obtain ⟨es, clock, hb, M⟩ := H.all i _ hi
  exact M.look KK hw hx ht hb hz
theorem Sep.look2 (H : Sep w0 w L) (i : Nat) (hi : L[i]? = some (PMap S P k mk enc g n h)) (KK : KMk S P k mk ok) (hw : Live S w) {x : K} (hx : ok x) (ht : P.underlying t = some (.map k e)) {z : Value} (hz : (zeroValue e).run P w = .ok z w) :
    (Instr.lookup t (.map (some g)) (mk x) true).run P w = .ok (.tuple #[(h x).elim z enc, .bool (h x).isSome]) w := by
  obtain ⟨es, clock, hb, M⟩ := H.all i _ hi
  exact M.look2 KK hw hx ht hb hz
theorem Sep.mapLen (H : Sep w0 w L) (i : Nat) (hi : L[i]? = some (PMap S P k mk enc g n h)) (ht : P.underlying t = some (.map k e)) (ty : TypeId) : (Builtin.len_ #[t] ty #[.map (some g)]).run P w = .ok (.int .i64 (n : Int)) w := by
  obtain ⟨es, clock, hb, M⟩ := H.all i _ hi
  exact M.len ht hb ty
theorem Sep.store [DecidableEq K] (H : Sep w0 w L) (i : Nat) (hi : L[i]? = some (PMap S P k mk enc g n h)) (KK : KMk S P k mk ok) (hw : Live S w) {x : K} (hx : ok x) (ht : P.underlying t = some (.map k e)) (hn : n < maxLen) (a : α) :
    ∃ w', (Instr.mapUpdate t (.map (some g)) (mk x) (enc a)).run P w = .ok () w' ∧ w'.heap.size = w.heap.size ∧ Sep w0 w' (L.set i (PMap S P k mk enc g (if (h x).isSome then n else n + 1) (mup h x a))) := by
  obtain ⟨es, clock, hb, M⟩ := H.all i _ hi
  obtain ⟨es', clock', hrun, M'⟩ := M.store KK hw hx ht hb hn a
  exact ⟨_, hrun, by simp [setBlock], H.step hi (y := PMap S P k mk enc g _ _) (grown_block hb _) ⟨es', clock', heap_setBlock_same hb _, M'⟩ (.inr (.inl rfl))⟩
/-- the second part of a tuple -/
def sndOf : Value → Value
  | .tuple cs => cs.getD 1 undef
  | v => v
theorem sndOf_mk (a b : Value) : sndOf (.tuple #[a, b]) = b := rfl
theorem Sep.mapLe (H : Sep w0 w L) (i : Nat) (hi : L[i]? = some (PMap S P k mk enc g n h)) : n ≤ maxLen := by
  obtain ⟨es, clock, hb, M⟩ := H.all i _ hi
  rw [← M.size]
  exact M.fit.size
/-- its entries by name, and back -/
theorem Sep.mapOpen (H : Sep w0 w L) (i : Nat) (hi : L[i]? = some (PMap S P k mk enc g n h)) : ∃ es clock, MIs S P k mk enc es clock n h ∧ Sep w0 w (L.set i (.obj g (.map es clock))) := by
  obtain ⟨es, clock, hb, M⟩ := H.all i _ hi
  exact ⟨es, clock, M, H.step hi (w' := w) (y := .obj g (.map es clock)) (World.grownBy.refl w _) hb (.inr (.inl rfl))⟩
theorem Sep.mapShut {es : Array MapEntry} {clock : Nat} (H : Sep w0 w L) (i : Nat) (hi : L[i]? = some (.obj g (.map es clock))) (M : MIs S P k mk enc es clock n h) : Sep w0 w (L.set i (PMap S P k mk enc g n h)) :=
  H.step hi (w' := w) (y := PMap S P k mk enc g n h) (World.grownBy.refl w _) ⟨es, clock, H.all i _ hi, M⟩ (.inr (.inl rfl))
end

/-! other orders -/
end Pm
end Go.Proofs.YtgidkaidljiddaaDoor
