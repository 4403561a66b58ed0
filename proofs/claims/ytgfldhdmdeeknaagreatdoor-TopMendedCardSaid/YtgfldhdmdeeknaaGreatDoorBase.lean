/-
  Base texts in one: Frame, Mem, Tail, App, Blk, Sep, Slices, Inv, Head, Sort. Conditions: none beyond each theorem's own premises.
-/
import Derived.Test.YtgfldhdmdeeknaaGreatDoorRows
import Derived.WalkKit
import Derived.ProofKit
import Derived.OpenShut
import Derived.Below
import Derived.JoinedCond
import Derived.SizedLaws
import Derived.Deep.Slices
import Derived.Deep.Fields
import Derived.Deep.CondSized
import Derived.Deep.Draws
import Derived.Laws.OwnMore
import Derived.Laws.Rows
import Derived.BigQuiet
import Derived.WalkSpells
import Derived.Deep.LoopGhost
import Derived.Deep.Cut
import Derived.Deep.DeepCutAuto
import Derived.Deep.CutBlock
import Derived.Lib.Hide
import Derived.WalkLawsBesides
import Derived.StillTail
import Derived.Maps.AppendAt
import Derived.Deep.AppendLies
import Derived.RegionTactic
import Derived.OwnWalk
import Derived.Deep.WholeRow
import Derived.OrdersHeld
/-! The frame that every law of this set shares: a law's call returns true and writes nothing that was there; so the row's post holds. Conditions: the specification hands back 'true' and the arguments as they came; no package variable is read. -/
namespace Go.Proofs.YtgfldhdmdeeknaaGreatDoor
open Go.ChangeShapes Go.WideShapes Go.ChangeAt Go.RowKit

theorem own : ownKnob Tryz.prog.godebug = none := by kernel_rfl
theorem laidOut : laidOutB Tryz.prog = true := by kernel_rfl

section
variable {H : Type} {enc : TypeId × Value → H} {P : Program}

theorem trodAll_lt {w : World} {base : Nat} {sp : Nat → Bool} {held : Bool} : ∀ (ts : List TypeId) (vs : List Value) (ds : List (DataW H)) (ps : List MemPlace),
    DataW.TrodAll enc P w base sp held ts vs ds ps → ∀ x ∈ ps, x.block < w.heap.size := by
  intro ts
  induction ts with
  | nil =>
    intro vs ds ps h x hx
    match vs, ds, h with
    | [], [], h =>
      obtain rfl : ps = [] := h
      cases hx
  | cons t ts ih =>
    intro vs ds ps h x hx
    match vs, ds, h with
    | v :: vs, d :: ds, h =>
      obtain ⟨p, q, ⟨m, hm⟩, h2, rfl⟩ : ∃ p q, DataW.Trod enc P w base sp held t v d p ∧ DataW.TrodAll enc P w base sp held ts vs ds q ∧ ps = p ++ q := h
      rcases List.mem_append.1 hx with h3 | h3
      · exact DataW.trod_lt m _ _ _ hm x h3
      · exact ih _ _ _ h2 x h3

theorem trodAll_below (lo : laidOutB P = true) {W W' : World} (hb : Below W.heap.size W W') : ∀ (ts : List TypeId) (vs : List Value) (ds : List (DataW H)) (ps : List MemPlace),
    (ts.all fun t => P.readableRec t && decide (t < P.types.size)) = true →
    DataW.TrodAll enc P W 0 (fun _ => true) true ts vs ds ps → DataW.TrodAll enc P W' 0 (fun b => decide (b < W.heap.size)) true ts vs ds ps := by
  intro ts
  induction ts with
  | nil =>
    intro vs ds ps _ h
    match vs, ds, h with
    | [], [], h => exact h
  | cons t ts ih =>
    intro vs ds ps hr h
    match vs, ds, h with
    | v :: vs, d :: ds, h =>
      obtain ⟨p, q, h1, h2, rfl⟩ : ∃ p q, DataW.Trod enc P W 0 (fun _ => true) true t v d p ∧ DataW.TrodAll enc P W 0 (fun _ => true) true ts vs ds q ∧ ps = p ++ q := h
      simp only [List.all_cons, Bool.and_eq_true, decide_eq_true_eq] at hr
      have hlt : ∀ x ∈ p, x.block < W.heap.size := by obtain ⟨m, hm⟩ := h1; exact DataW.trod_lt m _ _ _ hm
      exact ⟨p, q, Below.trod lo hr.1.1 hr.1.2 h1 hb hlt, ih _ _ _ hr.2 h2, rfl⟩

/-- A law's post: it returned true, and what was there is as it was. -/
theorem law_post (lo : laidOutB P = true) {f : Func} {s : ChangeSpec} {W W' : World} {args : Array Value} {ds gs : List (DataW H)} {before : List MemPlace} {tb : TypeId}
    (htb : P.underlying tb = some .bool) (hres : f.resultTypes = #[tb]) (hv : s.vars = [])
    (hr : (f.params.toList.all fun t => P.readableRec t && decide (t < P.types.size)) = true)
    (hfn : ∀ xs : List (DataW H), xs.length = f.params.toList.length → s.fn H (xs ++ []) = { results := [.lit (.bool true)], args := xs })
    (hW : DataW.Whole enc P f.params.toList s.vars false W args.toList ds gs before) (hb : Below W.heap.size W W') :
    s.post enc P f false true false false W args (.bool true) W' := by
  have hW' := hW
  obtain ⟨p, q, hA, hV, rfl, hfz, hnd⟩ := hW
  rw [hv] at hV
  obtain ⟨rfl, rfl⟩ := trodVars_none hV
  have hlen : ds.length = f.params.toList.length := by
    clear hfn hfz hW' hnd hr
    generalize f.params.toList = ts at hA
    generalize args.toList = vs at hA
    induction ts generalizing vs ds p with
    | nil => match vs, ds, hA with
      | [], [], _ => rfl
    | cons t ts ih => match vs, ds, hA with
      | v :: vs, d :: ds, h =>
        obtain ⟨p, q, _, h2, _⟩ : ∃ p' q, DataW.Trod enc P W 0 (fun _ => true) true t v d p' ∧ DataW.TrodAll enc P W 0 (fun _ => true) true ts vs ds q ∧ p = p' ++ q := h
        simp [ih _ vs h2]
  refine ⟨ds, [], p ++ [], [], p, [], hW', ?_, ?_, ?_, hb.frame _, fun h => by cases h⟩
  · rw [hres, hfn ds hlen]
    exact trodAll_mk1 (shut_bool htb _)
  · rw [hfn ds hlen]
    exact trodAll_below lo hb _ _ _ _ hr hA
  · rw [hv, hfn ds hlen]
    rfl

end
end Go.Proofs.YtgfldhdmdeeknaaGreatDoor
/-! Words for memory: a slice that reads as a list ('Rd'), and arguments opened to lists. Conditions: none beyond each theorem's own premises. -/
namespace Go.Proofs.YtgfldhdmdeeknaaGreatDoor
open Go.ChangeShapes Go.WideShapes Go.ChangeAt Go.RowKit

/-- the slice value '.slice A n _' holds the cells xs, C a element, in a block below B -/
def Rd (w : World) (B C : Nat) (A : Option Addr) (n : Nat) (xs : List Value) : Prop :=
  xs.length = n * C ∧ (0 < n → ∃ b off, A = some ⟨b, off, none⟩ ∧ b < B ∧ ∀ j u, xs[j]? = some u → w.cell? ⟨b, off + j, none⟩ = some u)

section
variable {w w' : World} {B B' C n : Nat} {A : Option Addr} {xs : List Value}
theorem Rd.nil_ : Rd w B C A 0 [] := ⟨by simp, fun h => absurd h (by omega)⟩
theorem Rd.keep (h : Rd w B C A n xs) (hk : ∀ p : Addr, p.block < B → w'.cell? p = w.cell? p) : Rd w' B C A n xs :=
  ⟨h.1, fun hn => by
    obtain ⟨b, off, e, hb, hc⟩ := h.2 hn
    exact ⟨b, off, e, hb, fun j u hu => (hk _ hb).trans (hc j u hu)⟩⟩
theorem Rd.more (h : Rd w B C A n xs) (hB : B ≤ B') : Rd w B' C A n xs :=
  ⟨h.1, fun hn => by
    obtain ⟨b, off, e, hb, hc⟩ := h.2 hn
    exact ⟨b, off, e, by omega, hc⟩⟩
theorem Rd.below (h : Rd w B C A n xs) (hb : Below B w w') : Rd w' B C A n xs := h.keep fun _ hp => hb.cell hp
theorem Rd.below' (h : Rd w B C A n xs) (hb : Below B' w w') (hB : B ≤ B') : Rd w' B C A n xs := h.keep fun _ hp => hb.cell (Nat.lt_of_lt_of_le hp hB)
theorem Rd.of_own {base : Nat} {e : TypeId} {c : Nat} (h : w.ownsRow base e C (.slice A n c) n xs) : Rd w w.heap.size C A n xs := by
  refine ⟨h.1, fun hn => ?_⟩
  rcases h.2 with ⟨_, h0⟩ | ⟨g, cap, cur, hv, _, hh, hnc, _, hcs, htk⟩
  · omega
  have hA : A = some ⟨g, 0, none⟩ := by injection hv
  subst hA
  have hlt : g < w.heap.size := by
    rcases Nat.lt_or_ge g w.heap.size with h1 | h1
    · exact h1
    · rw [Array.getElem?_eq_none h1] at hh; cases hh
  refine ⟨g, 0, rfl, hlt, fun j u hu => ?_⟩
  rw [cell_of_row w g (0 + j) cur e (0, 0) hh, Nat.zero_add, ← hu, ← htk, List.getElem?_take, if_pos (by
    have h1 := (List.getElem?_eq_some_iff.1 hu).1
    have h2 := h.1
    omega)]
  simp
end

theorem flat_len {α : Type} {C : Nat} {cells : α → List Value} (hC : ∀ x, (cells x).length = C) (l : List α) : (l.flatMap cells).length = l.length * C := by
  induction l with
  | nil => simp
  | cons x l ih => rw [List.flatMap_cons, List.length_append, ih, hC, List.length_cons, Nat.add_mul]; omega

theorem flat_get {α : Type} {C : Nat} {cells : α → List Value} (hC : ∀ x, (cells x).length = C) (l : List α) (i j : Nat) (x : α) (hx : l[i]? = some x) (hj : j < C) :
    (l.flatMap cells)[i * C + j]? = (cells x)[j]? := by
  induction l generalizing i with
  | nil => simp at hx
  | cons y l ih =>
    rw [List.flatMap_cons]
    cases i with
    | zero =>
      simp at hx
      subst hx
      rw [List.getElem?_append_left (by rw [hC]; omega)]
      simp
    | succ i =>
      rw [List.getElem?_append_right (by rw [hC, Nat.add_mul]; omega), hC]
      rw [show (i + 1) * C + j - C = i * C + j by rw [Nat.add_mul]; omega]
      exact ih i (by simpa using hx)

/-- the cells of element i of a slice that reads as a list -/
theorem Rd.at_ {α : Type} {w : World} {B C : Nat} {A : Option Addr} {n : Nat} {cells : α → List Value} {l : List α} (hC : ∀ x, (cells x).length = C) (h : Rd w B C A n (l.flatMap cells)) (hn : 0 < n) :
    ∃ b off, A = some ⟨b, off, none⟩ ∧ b < B ∧ ∀ (i j : Nat) (x : α) (u : Value), l[i]? = some x → (cells x)[j]? = some u → w.cell? ⟨b, off + (i * C + j), none⟩ = some u := by
  obtain ⟨b, off, e, hb, hc⟩ := h.2 hn
  refine ⟨b, off, e, hb, fun i j x u hx hu => hc _ u ?_⟩
  have hj : j < C := by rw [← hC x]; exact (List.getElem?_eq_some_iff.1 hu).1
  rw [flat_get hC l i j x hx hj, hu]

theorem addr_two (b off p q : Nat) : ((⟨b, off, none⟩ : Addr).add p).add q = ⟨b, off + (p + q), none⟩ := by
  unfold Addr.add
  by_cases hp' : p = 0 <;> by_cases hq : q = 0 <;> simp [hp', hq, Nat.add_assoc]

theorem choose_list {α : Type} (n : Nat) (R : Nat → α → Prop) (h : ∀ i, i < n → ∃ x, R i x) : ∃ l : List α, l.length = n ∧ ∀ i x, l[i]? = some x → R i x := by
  induction n with
  | zero => exact ⟨[], rfl, by simp⟩
  | succ n ih =>
    obtain ⟨l, hl, hr⟩ := ih fun i hi => h i (by omega)
    obtain ⟨x, hx⟩ := h n (by omega)
    refine ⟨l ++ [x], by simp [hl], fun i y hy => ?_⟩
    rw [List.getElem?_append] at hy
    split at hy
    · exact hr i y hy
    · have hi : i = n := by
        have := (List.getElem?_eq_some_iff.1 hy).1
        simp at this
        omega
      subst hi
      simp [hl] at hy
      subst hy
      exact hx

section
variable {H : Type} {enc : TypeId × Value → H} {P : Program} {w : World} {base : Nat} {spare : Nat → Bool} {held : Bool}

/-- A slice argument opened as a list, whatever its elements: 'hp' says how one element's cells read. -/
theorem open_list {α : Type} {t e : TypeId} {C fuel : Nat} {cs : List Value} {x : DataW H × List MemPlace} (cells : α → List Value) (Q : α → Prop) (ht : P.underlying t = some (.slice e)) (hC : P.cellsOf e = C)
    (hl : ∀ x, (cells x).length = C) (h0 : 0 < C)
    (hp : ∀ n cs y, DataW.trod enc P w base spare held n e cs = some y → ∃ x : α, cs = cells x ∧ Q x)
    (h : DataW.trod enc P w base spare held fuel t cs = some x) :
    ∃ (A : Option Addr) (n cap : Nat) (l : List α), cs = [.slice A n cap] ∧ l.length = n ∧ n ≤ cap ∧ cap ≤ maxLen ∧ (A = none → cap = 0) ∧ Rd w w.heap.size C A n (l.flatMap cells) ∧ (∀ x ∈ l, Q x) ∧
      ((x.1 = .nil ∧ n = 0) ∨ ∃ elems sp, x.1 = .slice elems sp ∧ elems.length = n) := by
  rcases Go.Deep.open_slice ht h with ⟨rfl, rfl⟩ | ⟨a, len, cap, m, fu, D, Pl, rfl, hb, hlc, hm, hmm, rfl, hi⟩
  · exact ⟨none, 0, 0, [], rfl, rfl, Nat.le_refl _, Nat.zero_le _, fun _ => rfl, Rd.nil_, by simp, .inl ⟨rfl, rfl⟩⟩
  · have hlm : len ≤ m := by rw [hmm]; split <;> omega
    obtain ⟨l, hll, hR⟩ := choose_list len (fun i (x : α) => Q x ∧ ∀ j, j < C → w.cell? ((a.add (i * C)).add j) = (cells x)[j]?) (fun i hi' => by
      obtain ⟨cs', hcs, htr⟩ := hi i (by omega)
      obtain ⟨x, rfl, hq⟩ := hp _ _ _ htr
      rw [hC] at hcs
      exact ⟨x, hq, (World.cells?_some hcs).2.2⟩)
    refine ⟨some a, len, cap, l, rfl, hll, hlc, hm, (fun h => by cases h), ⟨by rw [flat_len hl, hll], fun hn => ?_⟩, fun x hx => ?_, .inr ⟨_, _, rfl, by simp⟩⟩
    · obtain ⟨b, off, spot⟩ := a
      have hx0 : l[0]? = some (l[0]'(by omega)) := List.getElem?_eq_getElem _
      have h00 := (hR 0 _ hx0).2 0 h0
      have hv : (cells (l[0]'(by omega)))[0]? = some ((cells (l[0]'(by omega)))[0]'(by rw [hl]; exact h0)) := List.getElem?_eq_getElem _
      rw [hv] at h00
      have hspot : spot = none := by simpa [Addr.add] using World.cell?_spot h00
      subst hspot
      have hblk : b < w.heap.size := by
        have := World.block_lt_of_cell? w _ h00
        simpa [Addr.add] using this
      refine ⟨b, off, rfl, hblk, fun j u hu => ?_⟩
      have hj : j < len * C := by
        have := (List.getElem?_eq_some_iff.1 hu).1
        rw [flat_len hl, hll] at this
        exact this
      have hCC : C * (j / C) + j % C = j := Nat.div_add_mod j C
      have hi' : j / C < len := Nat.div_lt_of_lt_mul (by rw [Nat.mul_comm]; exact hj)
      have hr : j % C < C := Nat.mod_lt _ h0
      have hxi : l[j / C]? = some (l[j / C]'(by omega)) := List.getElem?_eq_getElem _
      have hc := (hR _ _ hxi).2 (j % C) hr
      have hg := flat_get hl l (j / C) (j % C) _ hxi hr
      rw [show j / C * C + j % C = j by rw [Nat.mul_comm]; exact hCC, hu] at hg
      rw [← hg, addr_two, show j / C * C + j % C = j by rw [Nat.mul_comm]; exact hCC] at hc
      exact hc
    · obtain ⟨i, hi', rfl⟩ := List.getElem_of_mem hx
      exact (hR i _ (List.getElem?_eq_getElem hi')).1

end

/-! ### A region that draws its order, whose operations read and whose callees write nothing that was there: ONE walk -/

/-- a world behind w0: what w0 held is there as it was -/
structure LaterOf (w0 : World) where
  w : World
  h : Below w0.heap.size w0 w

instance (w0 : World) : Nonempty (LaterOf w0) := ⟨⟨w0, Below.refl _ _⟩⟩
theorem LaterOf.cell {w0 : World} (x : LaterOf w0) {p : Addr} {v : Value} (h : w0.cell? p = some v) : x.w.cell? p = some v :=
  (x.h.cell (World.block_lt_of_cell? w0 _ h)).trans h
theorem LaterOf.old {w0 : World} {o : Obj} (x : LaterOf (w0.alloc o)) {p : Addr} {v : Value} (h : w0.cell? p = some v) : x.w.cell? p = some v :=
  x.cell (by rw [World.cell?_alloc_lt w0 o p (World.block_lt_of_cell? w0 _ h)]; exact h)
theorem LaterOf.new_ {w0 : World} {cs : Array Value} {t : TypeId} (x : LaterOf (w0.alloc (.cells cs t))) (i : Nat) {v : Value} (h : cs[i]? = some v) : x.w.cell? ⟨w0.heap.size, i, none⟩ = some v :=
  x.cell (by rw [cell_of_row _ _ i cs t (0, 0) (heap_alloc_new w0 _)]; exact h)

theorem wp_region_later {P : Program} {id : Nat} {Q : Exit → Act → World → Prop} {a : Act} {w : World} {l : List Oper} (hm : P.follows .mixedOrders = true) (hB : Region.lexB .any l.toArray = true)
    (h : wpQuiet P l.toArray (fun w' => ∃ x : LaterOf w, w' = x.w) (fun a' => ∀ w', (∃ x : LaterOf w, w' = x.w) → Q .normal a' w') l a) : (Code.region id l.toArray true).wp P Q a w :=
  wp_region_quiet (C := fun w' => ∃ x : LaterOf w, w' = x.w) hm hB ⟨⟨_, (Below.refl _ w).drew⟩, rfl⟩ (by simpa using h)

/-- what most contracts say: the value, and that nothing that was there has turned -/
def Ret (w : World) (v : Value) (e : Ending) (w' : World) : Prop := e = .returned v ∧ Below w.heap.size w w'
theorem Ret.mk {w w' : World} {v v' : Value} (h : v' = v) (hw : Below w.heap.size w w') : Ret w v (.returned v') w' := ⟨by rw [h], hw⟩
theorem bool_eq {a b : Bool} (h : a = b) : Value.bool a = Value.bool b := by rw [h]
theorem int_eq {k : IntKind} {a b : Int} (h : a = b) : Value.int k a = Value.int k b := by rw [h]

theorem Calls.later {P : Program} {f : FuncId} {args : Array Value} {w : World} {x : LaterOf w} {v : Value} (h : Calls P f args x.w (Ret x.w v)) :
    Calls P f args x.w fun e w'' => e = .returned v ∧ ∃ y : LaterOf w, w'' = y.w :=
  h.mono fun _ w' ⟨he, hb⟩ => ⟨he, ⟨w', x.h.trans (hb.mono x.h.size)⟩, rfl⟩

theorem min2_ex (P : Program) (a b : Int) : ∃ m, Hid (m = if b < a then b else a) ∧ ∀ (ts : Array TypeId) (t : TypeId) (k : IntKind) (w : World), (Builtin.min_ ts t #[.int k a, .int k b]).run P w = .ok (.int k m) w :=
  ⟨_, Lib.hid rfl, fun ts t k w => run_min_int2 (P := P) (w := w) ts t k k a b⟩
theorem max2_ex (P : Program) (a b : Int) : ∃ m, Hid (m = if b > a then b else a) ∧ ∀ (ts : Array TypeId) (t : TypeId) (k : IntKind) (w : World), (Builtin.max_ ts t #[.int k a, .int k b]).run P w = .ok (.int k m) w :=
  ⟨_, Lib.hid rfl, fun ts t k w => run_max_int2 (P := P) (w := w) ts t k k a b⟩
theorem min3_ex (P : Program) (a b c : Int) : ∃ m, Hid (m = if c < (if b < a then b else a) then c else (if b < a then b else a)) ∧ ∀ (ts : Array TypeId) (t : TypeId) (k : IntKind) (w : World), (Builtin.min_ ts t #[.int k a, .int k b, .int k c]).run P w = .ok (.int k m) w :=
  ⟨_, Lib.hid rfl, fun ts t k w => run_min_int3 (P := P) (w := w) ts t k k k a b c⟩
theorem max3_ex (P : Program) (a b c : Int) : ∃ m, Hid (m = if c > (if b > a then b else a) then c else (if b > a then b else a)) ∧ ∀ (ts : Array TypeId) (t : TypeId) (k : IntKind) (w : World), (Builtin.max_ ts t #[.int k a, .int k b, .int k c]).run P w = .ok (.int k m) w :=
  ⟨_, Lib.hid rfl, fun ts t k w => run_max_int3 (P := P) (w := w) ts t k k k a b c⟩
end Go.Proofs.YtgfldhdmdeeknaaGreatDoor
/-! A region that draws its order, whose operations read or call what only makes memory, BUT FOR A TAIL in one forced order (a store, an append): one lexical walk, then the tail from any later world. -/
namespace Go.Proofs.YtgfldhdmdeeknaaGreatDoor
open Go.RowKit
set_option linter.unusedVariables false

section
variable {P : Program} {ops : Array Oper} {md : Region.Mode} {C : World → Prop}

def headAny (P : Program) (md : Region.Mode) (ops : Array Oper) (C : World → Prop) (n : Nat) (L : Array Bool → Act → Prop) : Nat → Array Bool → Act → Prop
  | 0, listed, a => L listed a
  | f + 1, listed, a => Region.ready md ops listed ≠ [] ∧ ∀ i ∈ Region.ready md ops listed, i < n ∧ qOp P ops C i (headAny P md ops C n L f (listed.setIfInBounds i true)) a

theorem any_of_head {n g : Nat} {L : Array Bool → Act → Prop} {Q' : Exit → Act → World → Prop} (hL : ∀ listed a w, C w → L listed a → wpAny P md ops Q' g listed a w) :
    ∀ (f : Nat) (listed : Array Bool) (a : Act) (w : World), C w → headAny P md ops C n L f listed a → wpAny P md ops Q' (f + g) listed a w := by
  intro f
  induction f with
  | zero => intro listed a w hw h; rw [Nat.zero_add]; exact hL _ _ _ hw h
  | succ f ih =>
    intro listed a w hw h
    rw [Nat.add_right_comm]
    exact ⟨fun h0 => absurd h0 h.1, fun i hi => wpOp_of_qOp hw (fun a' w' hw' h' => ih _ a' w' hw' h') (h.2 i hi).2⟩

theorem head_first {n i : Nat} {oi : Oper} {v : Value} {L : Array Bool → Act → Prop} (hi : ops[i]? = some oi) (hsel : ∀ (j : Nat) (o : Oper) cs b, ops[j]? = some o → o.op ≠ .select cs b)
    (hs : Region.sinkB md ops n = true) (hc : Region.chainB md ops n = true) (hn : n < ops.size) (hin : i < n) (hdone : ∀ listed a, L listed a → ∀ j ∈ Region.ready md ops listed, n ≤ j) :
    ∀ (f : Nat) (listed : Array Bool) (a : Act), HeadInv md ops n listed →
      (∀ j oj, ops[j]? = some oj → j ≠ i → listed.getD j true = false → (∀ e ∈ oj.after, Region.binds md e = true → e.on ≠ i) → oi.apart ops oj = true) →
      i ∈ Region.ready md ops listed → YieldsIn P ops C oi v a → headAny P md ops C n L f (listed.setIfInBounds i true) (a.put oi.dst v) → headAny P md ops C n L (f + 1) listed a := by
  intro f
  induction f with
  | zero =>
    intro listed a inv _ hr hy H
    have hun := (mem_ready.1 hr).1
    refine ⟨fun h => (by rw [h] at hr; cases hr), fun j hj => ?_⟩
    have hjn : j < n := Nat.lt_of_not_le fun h => tail_waits hs hc hn inv _ i rfl hin hun j h hj
    refine ⟨hjn, ?_⟩
    by_cases hji : j = i
    · subst hji; exact hy.qOp hi H
    · exact absurd (hdone _ _ H j (ready_mono hj hji)) (by omega)
  | succ f ih =>
    intro listed a inv hfree hr hy H
    have hun := (mem_ready.1 hr).1
    refine ⟨fun h => (by rw [h] at hr; cases hr), fun j hj => ?_⟩
    have hjn : j < n := Nat.lt_of_not_le fun h => tail_waits hs hc hn inv _ i rfl hin hun j h hj
    refine ⟨hjn, ?_⟩
    by_cases hji : j = i
    · subst hji; exact hy.qOp hi H
    · have h1 := (H.2 j (ready_mono hj hji)).2
      obtain ⟨hjun, oj, hoj, hall⟩ := mem_ready.1 hj
      have hnot : ∀ e ∈ oj.after, Region.binds md e = true → e.on ≠ i := fun e he hb heq => by
        have h2 := hall e he hb
        rw [heq, getD_both hun] at h2
        cases h2
      have h2 := qOp_put hoj (hfree j oj hoj hji hjun hnot) (fun cs b => hsel i oi cs b hi) (fun cs b => hsel j oj cs b hoj) hy h1
      have hfree' : ∀ k ok, ops[k]? = some ok → k ≠ i → (listed.setIfInBounds j true).getD k true = false → (∀ e ∈ ok.after, Region.binds md e = true → e.on ≠ i) → oi.apart ops ok = true := fun k ok hk hki hu hno => by
        refine hfree k ok hk hki ?_ hno
        by_cases hjk : j = k
        · subst hjk; exact hjun
        · rw [getD_set_ne true hjk] at hu; exact hu
      refine qOp_mono (fun a' h3 => ih (listed.setIfInBounds j true) a' (inv.set hj hjn) hfree' (ready_mono hr (Ne.symm hji)) h3.1 ?_) h2
      rw [Array.setIfInBounds_comm _ _ hji]
      exact h3.2

theorem head_lex {n g : Nat} {Lq : Act → Prop} (hsel : Region.noSelect ops = true) (hs : Region.sinkB md ops n = true) (hc : Region.chainB md ops n = true) (hn : n < ops.size) :
    ∀ (l : List Oper) (k : Nat) (listed : Array Bool) (a : Act), (∀ j, j < l.length → l[j]? = ops[k + j]?) → k + l.length = n → HeadInv md ops n listed → Region.lexHead md ops g l.length k listed = true →
      wpQuiet P ops C Lq l a → headAny P md ops C n (fun listed' a' => Region.seqB md ops g n listed' = true ∧ Lq a') l.length listed a := by
  intro l
  induction l with
  | nil =>
    intro k listed a _ hk _ hB h
    obtain rfl : k = n := by simpa using hk
    exact ⟨by simpa [Region.lexHead] using hB, h⟩
  | cons o l ih =>
    intro k listed a hl hk inv hB h
    have h0 : ops[k]? = some o := by simpa using (hl 0 (by simp)).symm
    simp only [List.length_cons, Region.lexHead, Bool.and_eq_true] at hB
    obtain ⟨⟨hr, hf⟩, hB'⟩ := hB
    have hkn : k < n := by simp only [List.length_cons] at hk; omega
    have hr' : k ∈ Region.ready md ops listed := by simpa using hr
    have hst : qOp P ops C k (wpQuiet P ops C Lq l) a := by unfold qOp; simp only [h0]; exact h
    obtain ⟨v, hy, hK⟩ := yieldsIn_of_qOp h0 hst
    exact head_first h0 (Region.noSelect_spec hsel) hs hc hn hkn (fun listed' a' hL => seqB_ready hL.1) l.length listed a inv (Region.free_spec h0 hf) hr' hy
      (ih (k + 1) _ _ (fun j hj => by have := hl (j + 1) (by simp; omega); simpa [Nat.add_assoc, Nat.add_comm 1 j] using this) (by simp only [List.length_cons] at hk; omega) (inv.set hr' hkn) hB' hK)

theorem wp_region_tail {id : Nat} {Q : Exit → Act → World → Prop} {a : Act} {w : World} {l : List Oper} (n : Nat) (hm : P.follows .mixedOrders = true) (hB : Region.lexTailB .any l.toArray n = true)
    (h : wpQuiet P l.toArray (fun w' => ∃ x : LaterOf w, w' = x.w) (fun a' => ∀ w', (∃ x : LaterOf w, w' = x.w) → wpList P l.toArray Q (l.drop n) a' w') (l.take n) a) : (Code.region id l.toArray true).wp P Q a w := by
  simp only [Region.lexTailB, Bool.and_eq_true, decide_eq_true_eq] at hB
  obtain ⟨⟨⟨⟨hsel, hn⟩, hs⟩, hc⟩, hlex⟩ := hB
  have hn' : n < l.length := by simpa using hn
  have htl : (l.take n).length = n := by simp; omega
  have hdl : (l.drop n).length = l.toArray.size - n := by simp
  have inv0 : HeadInv .any l.toArray n (Array.replicate l.toArray.size false) :=
    ⟨by simp, fun j oj _ hl => (by rw [getD_replicate_false] at hl; cases hl), fun t _ ht => getD_in (by simpa using ht) (getD_replicate_false _ _)⟩
  have H := head_lex (C := fun w' => ∃ x : LaterOf w, w' = x.w) (md := .any) (g := l.toArray.size - n) hsel hs hc hn (l.take n) 0 _ a (fun j hj => by
    have hj' : j < n := by rw [htl] at hj; exact hj
    simp [hj']) (by simpa using htl) inv0 (by rw [htl]; exact hlex) h
  refine wp_region_any hm ?_
  have hC : ∃ x : LaterOf w, { w with drawn := w.drawn + 1 } = x.w := ⟨⟨_, (Below.refl _ w).drew⟩, rfl⟩
  have := any_of_head (Q' := Q) (g := l.toArray.size - n) (fun listed a' w' hw' hL => by
    have := wpAny_of_seq (md := .any) (Q' := Q) (l.drop n) n listed a' w' (fun j => by simp [List.getElem?_drop]) (by rw [hdl]; exact hL.1) (hL.2 w' hw')
    rwa [hdl] at this) _ _ _ _ hC H
  rw [htl, show n + (l.toArray.size - n) = l.toArray.size by omega] at this
  exact this
end
end Go.Proofs.YtgfldhdmdeeknaaGreatDoor
/-! append onto a row of the call's own, the source nil, empty or not ('Rd'); what contracts say of a slice that a call makes ('OwnRet'). -/
namespace Go.Proofs.YtgfldhdmdeeknaaGreatDoor
open Go.RowKit
set_option linter.unusedVariables false

section
variable {P : Program} (w : World)

theorem run_append_nil (base : Nat) (t ty e : TypeId) (i : TypeInfo) (size : Nat) (ht : P.underlying t = some (.slice e)) (hi : P.info? e = some i)
    (v : Value) (n : Nat) (xs : List Value) (hown : w.ownsRow base e size v n xs) (c : Nat) : (Builtin.append_ #[t, t] ty #[v, .slice none 0 c]).run P w = .ok v w := by
  rcases hown.2 with ⟨rfl, rfl⟩ | ⟨g, cap, cur, rfl, _, _, hnc, _⟩
  · simp [Builtin.append_, run_underlying ht, sizeOf, typeInfo, hi, Builtin.lenOf, Builtin.firstCells]
  · simp [Builtin.append_, run_underlying ht, sizeOf, typeInfo, hi, Builtin.lenOf, Builtin.firstCells, hnc, storeCells]

theorem run_append_rd (base : Nat) (t ty e : TypeId) (i : TypeInfo) (z : Value) (size bytes : Nat) (ht : P.underlying t = some (.slice e)) (hi : P.info? e = some i) (hz : i.zero = some z)
    (hsize : i.size = size) (hby : i.bytes = bytes) (hzs : z.cells.size = size) (hsz : 0 < size)
    (v : Value) (n : Nat) (xs : List Value) (hown : w.ownsRow base e size v n xs)
    (B : Nat) (A : Option Addr) (m c : Nat) (news : List Value) (hr : Rd w B size A m news) (h1 : ∀ u ∈ news, u.oneCell' = true)
    (h63 : n + m ≤ maxLen) (hbytes : (n + m) * bytes ≤ 140737488355328) (hbase : base ≤ w.heap.size) :
    ∃ v' w', (Builtin.append_ #[t, t] ty #[v, .slice A m c]).run P w = .ok v' w' ∧ w'.ownsRow base e size v' (n + m) (xs ++ news) ∧ w.grownBy w' v.ownBlock ∧
      (v'.ownBlock = v.ownBlock ∨ v'.ownBlock = some w.heap.size) := by
  rcases A with _ | ad
  · have hm : m = 0 := by
      rcases Nat.eq_zero_or_pos m with h0 | h0
      · exact h0
      · obtain ⟨b, off, h, _⟩ := hr.2 h0
        cases h
    subst hm
    have hn : news = [] := List.eq_nil_of_length_eq_zero (by simpa using hr.1)
    subst hn
    exact ⟨v, w, run_append_nil w base t ty e i size ht hi v n xs hown c, by simpa using hown, World.grownBy.refl w _, .inl rfl⟩
  · have hcells : ∀ j u, news[j]? = some u → w.cell? (ad.add j) = some u := by
      intro j u hu
      rcases Nat.eq_zero_or_pos m with h0 | h0
      · subst h0
        have hn : news = [] := List.eq_nil_of_length_eq_zero (by simpa using hr.1)
        subst hn
        simp at hu
      · obtain ⟨b, off, h, _, hc⟩ := hr.2 h0
        injection h with h
        subst h
        have := hc j u hu
        rw [← this]
        congr 1
        unfold Addr.add
        by_cases hj : j = 0 <;> simp [hj]
    obtain ⟨v', w', hrun, h2, h3, _, h5⟩ := run_append_own_at (P := P) w base t ty e i z size bytes ht hi hz hsize hby hzs hsz v n xs hown ad m c news hr.1 hcells h1 h63 hbytes hbase
    exact ⟨v', w', hrun, h2, h3, h5⟩

theorem wp_append_rd {o : Oper} {a : Act} {K : Act → World → Prop} {Q : Exit → Act → World → Prop} (s x : Operand) (t : TypeId)
    (ho : o.op = .call { callee := .builtin .append, args := #[s, x], argTypes := #[t, t] })
    (base : Nat) (e : TypeId) (i : TypeInfo) (z : Value) (size bytes : Nat) (ht : P.underlying t = some (.slice e)) (hi : P.info? e = some i) (hz : i.zero = some z)
    (hsize : i.size = size) (hby : i.bytes = bytes) (hzs : z.cells.size = size) (hsz : 0 < size)
    (v : Value) (n : Nat) (xs : List Value) (hs : a.eval s = v) (hown : w.ownsRow base e size v n xs)
    (B : Nat) (A : Option Addr) (m c : Nat) (news : List Value) (hx : a.eval x = .slice A m c) (hr : Rd w B size A m news) (h1 : ∀ u ∈ news, u.oneCell' = true)
    (h63 : n + m ≤ maxLen) (hbytes : (n + m) * bytes ≤ 140737488355328) (hbase : base ≤ w.heap.size)
    (h : ∀ v' w', w'.ownsRow base e size v' (n + m) (xs ++ news) → w.grownBy w' v.ownBlock → (v'.ownBlock = v.ownBlock ∨ v'.ownBlock = some w.heap.size) → K (a.put o.dst v') w') : o.wp P a w K Q := by
  obtain ⟨v', w', hrun, h2, h3, h4⟩ := run_append_rd (P := P) w base t o.type e i z size bytes ht hi hz hsize hby hzs hsz v n xs hown B A m c news hr h1 h63 hbytes hbase
  unfold Oper.wp execOp
  simp only [ho, resolve, invoke, builtin, Sem.run_bind, Sem.run_pure, Result.andThen_ok, List.map_toArray, List.map_cons, List.map_nil, hs, hx, hrun]
  exact h v' w' h2 h3 h4

theorem wpList_append_rd {ops : Array Oper} {rest : List Oper} {o : Oper} {a : Act} {Q : Exit → Act → World → Prop} (hgd : o.guard = none) (s x : Operand) (t : TypeId)
    (ho : o.op = .call { callee := .builtin .append, args := #[s, x], argTypes := #[t, t] })
    (base : Nat) (e : TypeId) (i : TypeInfo) (z : Value) (size bytes : Nat) (ht : P.underlying t = some (.slice e)) (hi : P.info? e = some i) (hz : i.zero = some z)
    (hsize : i.size = size) (hby : i.bytes = bytes) (hzs : z.cells.size = size) (hsz : 0 < size)
    (v : Value) (n : Nat) (xs : List Value) (hs : a.eval s = v) (hown : w.ownsRow base e size v n xs)
    (B : Nat) (A : Option Addr) (m c : Nat) (news : List Value) (hx : a.eval x = .slice A m c) (hr : Rd w B size A m news) (h1 : ∀ u ∈ news, u.oneCell' = true)
    (h63 : n + m ≤ maxLen) (hbytes : (n + m) * bytes ≤ 140737488355328) (hbase : base ≤ w.heap.size)
    (h : ∀ v' w', w'.ownsRow base e size v' (n + m) (xs ++ news) → w.grownBy w' v.ownBlock → (v'.ownBlock = v.ownBlock ∨ v'.ownBlock = some w.heap.size) → wpList P ops Q rest (a.put o.dst v') w') : wpList P ops Q (o :: rest) a w :=
  wpList_plain hgd fun _ hK => wp_append_rd w s x t ho base e i z size bytes ht hi hz hsize hby hzs hsz v n xs hs hown B A m c news hx hr h1 h63 hbytes hbase fun v' w' h2 h3 h4 => hK _ _ (h v' w' h2 h3 h4)
end

/-- a call hands back a slice of its own, n elements that hold the cells xs; nothing that was there has turned -/
def OwnRet (w : World) (E size n : Nat) (xs : List Value) (e : Ending) (w' : World) : Prop := ∃ v, e = .returned v ∧ w'.ownsRow w.heap.size E size v n xs ∧ Below w.heap.size w w'
/-- .. and a number -/
def OwnRet2 (w : World) (E size n : Nat) (xs : List Value) (k : IntKind) (z : Int) (e : Ending) (w' : World) : Prop :=
  ∃ v, e = .returned (.tuple #[v, .int k z]) ∧ w'.ownsRow w.heap.size E size v n xs ∧ Below w.heap.size w w'

theorem own_mono {w' : World} {base base' E size n : Nat} {v : Value} {xs : List Value} (h : w'.ownsRow base E size v n xs) (hb : base' ≤ base) : w'.ownsRow base' E size v n xs := by
  obtain ⟨h1, h2⟩ := h
  refine ⟨h1, ?_⟩
  rcases h2 with h2 | ⟨g, cap, cur, hv, hg, r⟩
  · exact .inl h2
  · exact .inr ⟨g, cap, cur, hv, by omega, r⟩
/-- an owned row in a world in which its block is as it was -/
theorem own_below {w1 w2 : World} {base E size n : Nat} {v : Value} {xs : List Value} (h : w1.ownsRow base E size v n xs) (hb : Below w1.heap.size w1 w2) : w2.ownsRow base E size v n xs := by
  obtain ⟨h1, h2⟩ := h
  refine ⟨h1, ?_⟩
  rcases h2 with h2 | ⟨g, cap, cur, hv, hg, hh, r⟩
  · exact .inl h2
  · refine .inr ⟨g, cap, cur, hv, hg, ?_, r⟩
    rw [hb.block g (by
      rcases Nat.lt_or_ge g w1.heap.size with h3 | h3
      · exact h3
      · rw [Array.getElem?_eq_none h3] at hh; cases hh)]
    exact hh
theorem own_slice {w : World} {base E size n : Nat} {v : Value} {xs : List Value} (h : w.ownsRow base E size v n xs) : ∃ A c, v = .slice A n c := by
  rcases h.2 with ⟨rfl, rfl⟩ | ⟨g, cap, cur, rfl, _⟩
  · exact ⟨none, 0, rfl⟩
  · exact ⟨_, cap, rfl⟩
theorem own_none {w : World} {base E size : Nat} : w.ownsRow base E size (.slice none 0 0) 0 [] := ⟨by simp, .inl ⟨rfl, rfl⟩⟩
/-- a block just laid, as a slice -/
theorem own_new (w : World) (E : Nat) (cs : Array Value) (size n : Nat) (hs : cs.size = n * size) (hn : n ≤ maxLen) {base : Nat} (hb : base ≤ w.heap.size) :
    (w.alloc (.cells cs E)).ownsRow base E size (.slice (some ⟨w.heap.size, 0, none⟩) n n) n cs.toList :=
  ⟨by simpa using hs, .inr ⟨w.heap.size, n, cs, rfl, hb, heap_alloc_new w _, Nat.le_refl _, hn, hs, by rw [List.take_of_length_le (by simp [hs])]⟩⟩
/-- behind an append onto a row of the call's own -/
theorem below_grown {B : Nat} {w0 w w' : World} {v : Value} {E size n : Nat} {xs : List Value} (hb : Below B w0 w) (ho : w.ownsRow B E size v n xs) (hg : w.grownBy w' v.ownBlock) (hB : B ≤ w.heap.size) : Below B w0 w' := by
  refine hb.grown hg hB (fun k hk => ?_)
  rcases ho.2 with ⟨rfl, _⟩ | ⟨g, cap, cur, rfl, hge, _⟩
  · simp [Value.ownBlock] at hk
  · simp [Value.ownBlock] at hk
    omega
end Go.Proofs.YtgfldhdmdeeknaaGreatDoor
/-! A block of the call's own, known whole: what lies in it, whatever it is. Conditions: none. -/
namespace Go.Proofs.YtgfldhdmdeeknaaGreatDoor
open Go.RowKit
set_option linter.unusedVariables false

/-- block g, of type t, holds these cells -/
def Blk (w : World) (g t : Nat) (l : List Value) : Prop := w.heap[g]? = some (.cells l.toArray t (0, 0))
section
variable {w w' : World} {g g' t k B : Nat} {l : List Value}
theorem Blk.lt (h : Blk w g t l) : g < w.heap.size := by
  rcases Nat.lt_or_ge g w.heap.size with h3 | h3
  · exact h3
  · unfold Blk at h
    rw [Array.getElem?_eq_none h3] at h
    cases h
theorem Blk.cell {v : Value} (h : Blk w g t l) (hx : l[k]? = some v) : w.cell? ⟨g, k, none⟩ = some v := by
  rw [cell_of_row w g k _ t _ h, List.getElem?_toArray, hx]
theorem Blk.froz (h : Blk w g t l) : w.frozen? ⟨g, k, none⟩ = false := by
  unfold Blk at h
  simp [World.frozen?, h]
theorem Blk.alloc (h : Blk w g t l) (o : Obj) : Blk (w.alloc o) g t l := by
  unfold Blk
  rw [Below.heap_alloc w o g h.lt]
  exact h
theorem Blk.below (h : Blk w g t l) (hb : Below B w w') (hg : g < B) : Blk w' g t l := by
  unfold Blk
  rw [hb.block g hg]
  exact h
theorem Blk.later (h : Blk w g t l) (hb : Below w.heap.size w w') : Blk w' g t l := h.below hb h.lt
theorem Blk.set (h : Blk w g t l) (x : Value) : Blk (w.setCell ⟨g, k, none⟩ x) g t (l.set k x) := by
  unfold Blk
  rw [setCell_eq_setRow w g k l.toArray t (0, 0) _ h, List.setIfInBounds_toArray]
  exact setRow_heap w g l.toArray _ t _ h
theorem Blk.other (h : Blk w g t l) (hg : g ≠ g') (v : Value) : Blk (w.setCell ⟨g', k, none⟩ v) g t l := by
  unfold Blk
  rw [Below.heap_setCell w _ v g hg]
  exact h
theorem Blk.new (w : World) (t : Nat) (l : List Value) : Blk (w.alloc (.cells l.toArray t)) w.heap.size t l := heap_alloc_last w _
theorem Blk.new' (w : World) (t : Nat) (a : Array Value) : Blk (w.alloc (.cells a t)) w.heap.size t a.toList := by
  have := heap_alloc_last w (.cells a t)
  simpa [Blk] using this
theorem blk_setRow_ne (w : World) (g : Nat) (cs : Array Value) (k : Nat) (h : k ≠ g) : (w.setRow g cs).heap[k]? = w.heap[k]? := by
  simp only [World.setRow, Array.getElem?_modify]
  simp [Ne.symm h]
theorem Blk.row (h : Blk w g t l) (l' : List Value) : Blk (w.setRow g l'.toArray) g t l' := setRow_heap w g l.toArray _ t _ h
theorem Blk.rowOther (h : Blk w g t l) (hg : g ≠ g') (cs : Array Value) : Blk (w.setRow g' cs) g t l := by
  unfold Blk
  rw [blk_setRow_ne w g' cs g hg]
  exact h
theorem Blk.drew (h : Blk w g t l) : Blk w.drew g t l := h
theorem below_row {B : Nat} {w w' : World} (h : Below B w w') {g : Nat} (hg : B ≤ g) (cs : Array Value) : Below B w (w'.setRow g cs) :=
  ⟨h.os, h.tape, h.output, by rw [setRow_size]; exact h.size, fun k hk => by rw [blk_setRow_ne _ _ _ _ (by omega)]; exact h.block k hk⟩
theorem Blk.grown {row : Option Nat} (h : Blk w g t l) (hg : w.grownBy w' row) (hne : some g ≠ row) : Blk w' g t l := by
  unfold Blk
  rw [hg.block g h.lt hne]
  exact h
/-- a whole array out of its block -/
theorem Blk.load {P : Program} {n : Nat} {e : TypeId} (h : Blk w g t l) (hu : P.underlying t = some (.array n e)) (hi : (P.info? t).map (·.size) = some l.length) : (loadVar t ⟨g, 0, none⟩).run P w = .ok (.agg l.toArray) w :=
  run_loadVar_row w g t t l.toArray (0, 0) _ h hu rfl (by simpa using hi)
end

theorem own_block {w : World} {base E size n k : Nat} {v : Value} {xs : List Value} (h : w.ownsRow base E size v n xs) (hk : v.ownBlock = some k) : base ≤ k := by
  rcases h.2 with ⟨rfl, _⟩ | ⟨g, cap, cur, rfl, hge, _⟩
  · simp [Value.ownBlock] at hk
  · simp [Value.ownBlock] at hk
    omega
/-- a block below a row's base is not the row's -/
theorem own_far {w : World} {base E size n g : Nat} {v : Value} {xs : List Value} (h : w.ownsRow base E size v n xs) (hg : g < base) : some g ≠ v.ownBlock := fun e => by
  have := own_block h e.symm
  omega
/-- an owned row behind a store elsewhere -/
theorem own_grown {w w' : World} {base E size n : Nat} {row : Option Nat} {v : Value} {xs : List Value} (h : w.ownsRow base E size v n xs) (hg : w.grownBy w' row) (hne : v.ownBlock = none ∨ v.ownBlock ≠ row) : w'.ownsRow base E size v n xs := World.ownsRow.kept h hg hne
theorem grown_set (w : World) (g k : Nat) (v : Value) : w.grownBy (w.setCell ⟨g, k, none⟩ v) (some g) := by
  refine ⟨rfl, rfl, rfl, ?_, fun i hi hne => ?_⟩
  · simp
  · rw [Below.heap_setCell w _ v i (fun e => hne (by rw [e]))]
theorem grown_row (w : World) (g : Nat) (cs : Array Value) : w.grownBy (w.setRow g cs) (some g) :=
  ⟨rfl, rfl, rfl, by rw [setRow_size]; exact Nat.le_refl _, fun i hi hne => blk_setRow_ne _ _ _ _ (fun e => hne (by rw [e]))⟩
/-- an owned row behind a store below its base -/
theorem own_set {w : World} {base E size n g : Nat} {v : Value} {xs : List Value} (h : w.ownsRow base E size v n xs) (hg : g < base) (k : Nat) (u : Value) : (w.setCell ⟨g, k, none⟩ u).ownsRow base E size v n xs :=
  own_grown h (grown_set w g k u) (.inr (own_far h hg).symm)

def icell (x : Int) : List Value := [.int .i64 x]
theorem icell_len : ∀ x, (icell x).length = 1 := fun _ => rfl
theorem icell_at (l : List Int) (k : Nat) : (l.flatMap icell)[k]? = (l[k]?).map (.int .i64) := by
  have : l.flatMap icell = l.map (.int .i64) := by
    induction l with
    | nil => rfl
    | cons x l ih => rw [List.flatMap_cons, ih]; rfl
  rw [this, List.getElem?_map]
theorem icell_set (l : List Int) (k : Nat) (x : Int) : (l.flatMap icell).set k (.int .i64 x) = (l.set k x).flatMap icell := by
  have : ∀ l : List Int, l.flatMap icell = l.map (.int .i64) := by
    intro l
    induction l with
    | nil => rfl
    | cons x l ih => rw [List.flatMap_cons, ih]; rfl
  rw [this, this, List.map_set]
theorem icell_size (l : List Int) : (l.flatMap icell).length = l.length := by rw [flat_len icell_len]; omega
theorem icell_one (l : List Int) : (l.flatMap icell).toArray.all (·.oneCell') = true := by
  rw [Array.all_eq_true_iff_forall_mem]
  intro v hv
  simp [icell] at hv
  obtain ⟨x, _, rfl⟩ := hv
  rfl
theorem icell_one' (l : List Int) : ∀ u ∈ l.flatMap icell, u.oneCell' = true := by
  intro v hv
  simp [icell] at hv
  obtain ⟨x, _, rfl⟩ := hv
  rfl

/-- an element of an array that lies in a slot, its elements of one cell -/
theorem run_index_one {P : Program} {t e : TypeId} {n k : Nat} {cs : Array Value} {v : Value} (hu : P.underlying t = some (.array n e)) (ha : ∀ w, (isAgg e).run P w = .ok false w) (hs : ∀ w, (sizeOf e).run P w = .ok 1 w) (hk : k < n) (hv : cs[k]? = some v) (w : World) :
    (Instr.index t (.agg cs) (.int .i64 (k : Int))).run P w = .ok v w := by
  have h1 : (0 : Int) ≤ (k : Int) ∧ (k : Int) < (n : Int) := by omega
  simp [Instr.index, asIntOf, run_underlying hu, h1, hs, part, ha, hv, Nat.not_le.2 hk]
end Go.Proofs.YtgfldhdmdeeknaaGreatDoor
/-! The call's own memory as a list of items, each in a block of its own, no block twice ('Sep'); what each operation does to the list. Conditions: none beyond each theorem's own premises. -/
namespace Go.Proofs.YtgfldhdmdeeknaaGreatDoor
open Go.RowKit
set_option linter.unusedVariables false

/-- the block of a slice that may be written, if there is room in it at all -/
def rowBlk : Value → Option Nat
  | .slice (some a) _ (_ + 1) => some a.block
  | _ => none

/-- slice v, of n elements of 'size' cells each, is the call's own, and holds xs -/
def Row (w : World) (E size : Nat) (v : Value) (n : Nat) (xs : List Value) : Prop :=
  xs.length = n * size ∧ ((n = 0 ∧ (v = .slice none 0 0 ∨ ∃ a, v = .slice (some a) 0 0)) ∨
    ∃ g cap cur, v = .slice (some ⟨g, 0, none⟩) n (cap + 1) ∧ w.heap[g]? = some (.cells cur E (0, 0)) ∧ n ≤ cap + 1 ∧ cap + 1 ≤ maxLen ∧ cur.size = (cap + 1) * size ∧ cur.toList.take (n * size) = xs)

theorem Row.of_own {w : World} {base E size n : Nat} {v : Value} {xs : List Value} (h : w.ownsRow base E size v n xs) : Row w E size v n xs := by
  obtain ⟨h1, h2⟩ := h
  refine ⟨h1, ?_⟩
  rcases h2 with ⟨rfl, h0⟩ | ⟨g, cap, cur, rfl, hb, hh, hn, hm, hs, ht⟩
  · exact .inl ⟨h0, .inl rfl⟩
  · cases cap with
    | zero =>
      have : n = 0 := by omega
      subst this
      exact .inl ⟨rfl, .inr ⟨_, rfl⟩⟩
    | succ cap => exact .inr ⟨g, cap, cur, rfl, hh, hn, hm, hs, ht⟩
theorem Row.nil_ {w : World} {E size : Nat} : Row w E size (.slice none 0 0) 0 [] := ⟨by simp, .inl ⟨rfl, .inl rfl⟩⟩
theorem Row.zero {w : World} {E size : Nat} {A : Option Addr} : Row w E size (.slice A 0 0) 0 [] := ⟨by simp, .inl ⟨rfl, by
  cases A with
  | none => exact .inl rfl
  | some a => exact .inr ⟨a, rfl⟩⟩⟩
theorem Row.slice {w : World} {E size n : Nat} {v : Value} {xs : List Value} (h : Row w E size v n xs) : ∃ A c, v = .slice A n c ∧ n ≤ c := by
  rcases h.2 with ⟨rfl, rfl | ⟨a, rfl⟩⟩ | ⟨g, cap, cur, rfl, _, hn, _⟩
  · exact ⟨_, _, rfl, Nat.le_refl _⟩
  · exact ⟨_, _, rfl, Nat.le_refl _⟩
  · exact ⟨_, _, rfl, hn⟩
theorem Row.live {w : World} {E size n : Nat} {v : Value} {xs : List Value} (h : Row w E size v n xs) : ∀ g, rowBlk v = some g → g < w.heap.size := by
  intro g hg
  rcases h.2 with ⟨rfl, rfl | ⟨a, rfl⟩⟩ | ⟨g', cap, cur, rfl, hh, _⟩
  · simp [rowBlk] at hg
  · simp [rowBlk] at hg
  · simp [rowBlk] at hg
    subst hg
    exact (Array.getElem?_eq_some_iff.1 hh).1
theorem Row.keep {w w' : World} {E size n : Nat} {v : Value} {xs : List Value} (hk : ∀ g, rowBlk v = some g → w'.heap[g]? = w.heap[g]?) (h : Row w E size v n xs) : Row w' E size v n xs := by
  obtain ⟨h1, h2⟩ := h
  refine ⟨h1, ?_⟩
  rcases h2 with h2 | ⟨g, cap, cur, rfl, hh, r⟩
  · exact .inl h2
  · exact .inr ⟨g, cap, cur, rfl, by rw [hk g rfl]; exact hh, r⟩
theorem Row.rd {w : World} {E size n c : Nat} {A : Option Addr} {xs : List Value} (h : Row w E size (.slice A n c) n xs) : Rd w w.heap.size size A n xs := by
  rcases h.2 with ⟨rfl, _⟩ | ⟨g, cap, cur, hv, hh, hn, hm, hs, ht⟩
  · exact ⟨h.1, fun h0 => absurd h0 (by omega)⟩
  · cases hv
    exact Rd.of_own (base := 0) (e := E) (c := cap + 1) ⟨h.1, .inr ⟨g, cap + 1, cur, rfl, Nat.zero_le _, hh, hn, hm, hs, ht⟩⟩
theorem Row.own {w : World} {E size n c : Nat} {v : Value} {xs : List Value} (h : Row w E size v n xs) : w.ownsRow 0 E size v n xs ∨ (n = 0 ∧ ∃ a, v = .slice (some a) 0 0) := by
  rcases h.2 with ⟨rfl, rfl | h2⟩ | ⟨g, cap, cur, rfl, hh, hn, hm, hs, ht⟩
  · exact .inl ⟨h.1, .inl ⟨rfl, rfl⟩⟩
  · exact .inr ⟨rfl, h2⟩
  · exact .inl ⟨h.1, .inr ⟨g, cap + 1, cur, rfl, Nat.zero_le _, hh, hn, hm, hs, ht⟩⟩
/-- an element of a row: where it lies -/
theorem Row.at_ {w : World} {E size n c : Nat} {A : Option Addr} {xs : List Value} (h : Row w E size (.slice A n c) n xs) (h0 : 0 < n) :
    ∃ g, A = some ⟨g, 0, none⟩ ∧ rowBlk (.slice A n c) = some g ∧ ∀ k, (∀ u, xs[k]? = some u → w.cell? ⟨g, k, none⟩ = some u) ∧ w.frozen? ⟨g, k, none⟩ = false ∧
      ∀ u, Row (w.setCell ⟨g, k, none⟩ u) E size (.slice (some ⟨g, 0, none⟩) n c) n (xs.set k u) := by
  rcases h.2 with ⟨rfl, _⟩ | ⟨g, cap, cur, hv, hh, hn, hm, hs, ht⟩
  · omega
  · cases hv
    have ho : w.ownsRow 0 E size (.slice (some ⟨g, 0, none⟩) n (cap + 1)) n xs := ⟨h.1, .inr ⟨g, cap + 1, cur, rfl, Nat.zero_le _, hh, hn, hm, hs, ht⟩⟩
    refine ⟨g, rfl, rfl, fun k => ⟨fun u hu => ?_, ho.frozenAt k, fun u => Row.of_own (ho.stored k u).1⟩⟩
    have hk : k < n * size := by rw [← h.1]; exact (List.getElem?_eq_some_iff.1 hu).1
    rw [ho.cellAt k hk, hu]

section
variable {P : Program} (w : World)
/-- append onto a row, the source nil, empty or not -/
theorem run_append_row (t ty e : TypeId) (i : TypeInfo) (z : Value) (size bytes : Nat) (ht : P.underlying t = some (.slice e)) (hi : P.info? e = some i) (hz : i.zero = some z)
    (hsize : i.size = size) (hby : i.bytes = bytes) (hzs : z.cells.size = size) (hsz : 0 < size)
    (v : Value) (n : Nat) (xs : List Value) (hown : Row w e size v n xs)
    (B : Nat) (A : Option Addr) (m c : Nat) (news : List Value) (hr : Rd w B size A m news) (h1 : ∀ u ∈ news, u.oneCell' = true)
    (h63 : n + m ≤ maxLen) (hbytes : (n + m) * bytes ≤ 140737488355328) :
    ∃ v' w', (Builtin.append_ #[t, t] ty #[v, .slice A m c]).run P w = .ok v' w' ∧ Row w' e size v' (n + m) (xs ++ news) ∧ w.grownBy w' (rowBlk v) ∧
      (rowBlk v' = none ∨ rowBlk v' = rowBlk v ∨ rowBlk v' = some w.heap.size) := by
  have done : ∀ (v : Value) (n : Nat) (xs : List Value), w.ownsRow 0 e size v n xs → v.ownBlock = rowBlk v → n + m ≤ maxLen → (n + m) * bytes ≤ 140737488355328 →
      ∃ v' w', (Builtin.append_ #[t, t] ty #[v, .slice A m c]).run P w = .ok v' w' ∧ Row w' e size v' (n + m) (xs ++ news) ∧ w.grownBy w' (rowBlk v) ∧
      (rowBlk v' = none ∨ rowBlk v' = rowBlk v ∨ rowBlk v' = some w.heap.size) := by
    intro v n xs ho hb h63 hbytes
    obtain ⟨v', w', h2, h3, h4, h5⟩ := run_append_rd (P := P) w 0 t ty e i z size bytes ht hi hz hsize hby hzs hsz v n xs ho B A m c news hr h1 h63 hbytes (Nat.zero_le _)
    refine ⟨v', w', h2, Row.of_own h3, hb ▸ h4, ?_⟩
    rcases h3.2 with ⟨rfl, _⟩ | ⟨g, cap, cur, rfl, _⟩
    · exact .inl rfl
    · cases cap with
      | zero => exact .inl rfl
      | succ cap =>
        right
        have : (Value.slice (some ⟨g, 0, none⟩) (n + m) (cap + 1)).ownBlock = rowBlk (.slice (some ⟨g, 0, none⟩) (n + m) (cap + 1)) := rfl
        rw [← this, ← hb]
        exact h5
  rcases hown.2 with ⟨rfl, rfl | ⟨a, rfl⟩⟩ | ⟨g, cap, cur, rfl, hh, hn, hm, hs, htk⟩
  · exact done _ _ _ ⟨hown.1, .inl ⟨rfl, rfl⟩⟩ rfl h63 hbytes
  · have hx : xs = [] := List.eq_nil_of_length_eq_zero (by simpa using hown.1)
    subst hx
    rcases A with _ | ad
    · have hm0 : m = 0 := by
        rcases Nat.eq_zero_or_pos m with h0 | h0
        · exact h0
        · obtain ⟨b, off, h, _⟩ := hr.2 h0
          cases h
      subst hm0
      have hnews : news = [] := List.eq_nil_of_length_eq_zero (by simpa using hr.1)
      subst hnews
      exact ⟨.slice (some a) 0 0, w, by simp [Builtin.append_, run_underlying ht, sizeOf, typeInfo, hi, Builtin.lenOf, Builtin.firstCells, storeCells], ⟨by simp, .inl ⟨rfl, .inr ⟨_, rfl⟩⟩⟩, World.grownBy.refl w _, .inl rfl⟩
    · have hcells : ∀ j u, news[j]? = some u → w.cell? (ad.add j) = some u := by
        intro j u hu
        rcases Nat.eq_zero_or_pos m with h0 | h0
        · subst h0
          have hn : news = [] := List.eq_nil_of_length_eq_zero (by simpa using hr.1)
          subst hn
          simp at hu
        · obtain ⟨b, off, h, _, hc⟩ := hr.2 h0
          cases h
          have := hc j u hu
          rw [← this]
          congr 1
          unfold Addr.add
          by_cases hj : j = 0 <;> simp [hj]
      rcases Nat.eq_zero_or_pos m with h0 | h0
      · subst h0
        have hn : news = [] := List.eq_nil_of_length_eq_zero (by simpa using hr.1)
        subst hn
        exact ⟨.slice (some a) 0 0, w, by simp [Builtin.append_, run_underlying ht, sizeOf, typeInfo, hi, Builtin.lenOf, Builtin.firstCells, storeCells, loadCells, loadCellsFrom], ⟨by simp, .inl ⟨rfl, .inr ⟨_, rfl⟩⟩⟩, World.grownBy.refl w _, .inl rfl⟩
      · subst hsize
        subst hby
        have hr' := run_append_grow (P := P) w t ty e i z ht hi hz a 0 0 [] (by simp) (by simp) ad m c news hr.1 hcells (by omega) (by simp only [maxLen] at h63; omega) (growslice_fits (by omega) hbytes)
        have hge := grownCap_ge w (0 + m) 0 e
        have hcm : grownCap w (0 + m) 0 e ≤ maxLen := grownCap_le_maxLen w (0 + m) 0 e h63
        have hrow : (w.drew.alloc (.cells (([] : List Value).toArray ++ news.toArray ++ Builtin.zeroCells z.cells (grownCap w (0 + m) 0 e - (0 + m))) e)).ownsRow 0 e i.size
            (.slice (some ⟨w.heap.size, 0, none⟩) (0 + m) (grownCap w (0 + m) 0 e)) (0 + m) ([] ++ news) := by
          refine ⟨by simp [hr.1], .inr ⟨w.heap.size, _, _, rfl, Nat.zero_le _, heap_alloc_new w.drew _, hge, hcm, ?_, ?_⟩⟩
          · simp only [Array.size_append, List.size_toArray, size_zeroCells, hzs, hr.1, List.length_nil]
            rw [Nat.zero_add, Nat.zero_add, ← Nat.add_mul]
            congr 1
            simp only [Nat.zero_add] at hge
            omega
          · simp only [Array.toList_append, Nat.zero_add, List.nil_append]
            rw [← hr.1]
            exact List.take_left
        exact ⟨_, _, hr', Row.of_own hrow, ⟨rfl, rfl, rfl, by simp, fun k hk _ => Below.heap_alloc w.drew _ k hk⟩, by
          cases hcap : grownCap w (0 + m) 0 e with
          | zero => exact .inl rfl
          | succ c => exact .inr (.inr rfl)⟩
  · exact done _ _ _ ⟨hown.1, .inr ⟨g, cap + 1, cur, rfl, Nat.zero_le _, hh, hn, hm, hs, htk⟩⟩ rfl h63 hbytes
end

/-- an item: what it says of the world, and the one block on which it leans -/
structure It where
  blk : Option Nat
  holds : World → Prop
  keep : ∀ w w', (∀ g, blk = some g → w'.heap[g]? = w.heap[g]?) → holds w → holds w'
  live : ∀ w, holds w → ∀ g, blk = some g → g < w.heap.size
def It.cells (g t : Nat) (l : List Value) : It := ⟨some g, fun w => Blk w g t l, fun w w' h hb => by unfold Blk; rw [h g rfl]; exact hb, fun w h g' e => by cases e; exact Blk.lt h⟩
def It.row (E size : Nat) (v : Value) (n : Nat) (xs : List Value) : It := ⟨rowBlk v, fun w => Row w E size v n xs, fun w w' h hb => hb.keep h, fun w h => h.live⟩

structure Sep (w0 w : World) (L : List It) : Prop where
  below : Below w0.heap.size w0 w
  all : ∀ (i : Nat) (x : It), L[i]? = some x → x.holds w
  fresh : ∀ (i : Nat) (x : It) (g : Nat), L[i]? = some x → x.blk = some g → w0.heap.size ≤ g
  apart : ∀ (i j : Nat) (x y : It) (g : Nat), i ≠ j → L[i]? = some x → L[j]? = some y → x.blk = some g → y.blk ≠ some g

section
variable {w0 w w' : World} {L : List It}
theorem Sep.nil_ (w : World) : Sep w w [] := ⟨Below.refl _ _, by simp, by simp, by simp⟩
/-- one item turns -/
theorem Sep.step (H : Sep w0 w L) {i : Nat} {x y : It} (hi : L[i]? = some x) (hg : w.grownBy w' x.blk) (hy : y.holds w') (hb : y.blk = none ∨ y.blk = x.blk ∨ ∃ g, y.blk = some g ∧ w.heap.size ≤ g) : Sep w0 w' (L.set i y) := by
  have hil := (List.getElem?_eq_some_iff.1 hi).1
  have at_ : ∀ j z, (L.set i y)[j]? = some z → (j = i ∧ z = y) ∨ (j ≠ i ∧ L[j]? = some z) := fun j z h => by
    rw [List.getElem?_set] at h
    by_cases hij : i = j
    · subst hij
      rw [if_pos rfl, if_pos hil] at h
      cases h
      exact .inl ⟨rfl, rfl⟩
    · rw [if_neg hij] at h
      exact .inr ⟨fun e => hij e.symm, h⟩
  have kept : ∀ j z, j ≠ i → L[j]? = some z → z.holds w' := fun j z hj hz => by
    refine z.keep w w' (fun g hzg => hg.block g (z.live w (H.all j z hz) g hzg) (fun e => ?_)) (H.all j z hz)
    exact H.apart j i z x g hj hz hi hzg e.symm
  have ylow : ∀ g, y.blk = some g → w0.heap.size ≤ g := fun g hyg => by
    rcases hb with hb | hb | ⟨g', hb, hge⟩
    · rw [hb] at hyg; cases hyg
    · exact H.fresh i x g hi (hb ▸ hyg)
    · rw [hb] at hyg; cases hyg; exact Nat.le_trans H.below.size hge
  have yapart : ∀ j z g, j ≠ i → L[j]? = some z → z.blk = some g → y.blk ≠ some g := fun j z g hj hz hzg hyg => by
    rcases hb with hb | hb | ⟨g', hb, hge⟩
    · rw [hb] at hyg; cases hyg
    · exact H.apart j i z x g hj hz hi hzg (hb ▸ hyg)
    · rw [hb] at hyg; cases hyg
      have := z.live w (H.all j z hz) _ hzg
      omega
  refine ⟨H.below.grown hg H.below.size (fun k hk => H.fresh i x k hi hk), fun j z hz => ?_, fun j z g hz hzg => ?_, fun j k z u g hjk hz hu hzg => ?_⟩
  · rcases at_ j z hz with ⟨_, rfl⟩ | ⟨hj, hz'⟩
    · exact hy
    · exact kept j z hj hz'
  · rcases at_ j z hz with ⟨_, rfl⟩ | ⟨hj, hz'⟩
    · exact ylow g hzg
    · exact H.fresh j z g hz' hzg
  · rcases at_ j z hz with ⟨rfl, rfl⟩ | ⟨hj, hz'⟩
    · rcases at_ k u hu with ⟨rfl, rfl⟩ | ⟨hk, hu'⟩
      · exact absurd rfl hjk
      · exact fun e => yapart k u g hk hu' e hzg
    · rcases at_ k u hu with ⟨rfl, rfl⟩ | ⟨hk, hu'⟩
      · exact yapart j z g hj hz' hzg
      · exact H.apart j k z u g hjk hz' hu' hzg
/-- nothing of it turns -/
theorem Sep.grown (H : Sep w0 w L) (hg : w.grownBy w' none) : Sep w0 w' L :=
  ⟨H.below.grown hg H.below.size (fun k hk => by cases hk), fun j z hz => z.keep w w' (fun g hzg => hg.block g (z.live w (H.all j z hz) g hzg) (by simp)) (H.all j z hz), H.fresh, H.apart⟩
theorem grown_of_below (h : Below w.heap.size w w') : w.grownBy w' none := ⟨h.os, h.tape, h.output, h.size, fun k hk _ => h.block k hk⟩
theorem Sep.later (H : Sep w0 w L) (h : Below w.heap.size w w') : Sep w0 w' L := H.grown (grown_of_below h)
theorem Sep.drew (H : Sep w0 w L) : Sep w0 w.drew L := H.later (Below.refl _ _).drew
theorem Sep.alloc (H : Sep w0 w L) (o : Obj) : Sep w0 (w.alloc o) L := H.later ((Below.refl _ _).alloc (Nat.le_refl _) o)
/-- a new item -/
theorem Sep.push (H : Sep w0 w L) {y : It} (hy : y.holds w) (hb : ∀ g, y.blk = some g → w0.heap.size ≤ g ∧ ∀ (i : Nat) (x : It), L[i]? = some x → x.blk ≠ some g) : Sep w0 w (L ++ [y]) := by
  have at_ : ∀ j z, (L ++ [y])[j]? = some z → (j = L.length ∧ z = y) ∨ (j ≠ L.length ∧ L[j]? = some z) := fun j z h => by
    rw [List.getElem?_append] at h
    split at h
    · rename_i hl
      exact .inr ⟨by omega, h⟩
    · rename_i hl
      have := (List.getElem?_eq_some_iff.1 h).1
      simp at this
      have hj : j = L.length := by omega
      subst hj
      simp at h
      exact .inl ⟨rfl, h.symm⟩
  refine ⟨H.below, fun j z hz => ?_, fun j z g hz hzg => ?_, fun j k z u g hjk hz hu hzg => ?_⟩
  · rcases at_ j z hz with ⟨_, rfl⟩ | ⟨hj, hz'⟩
    · exact hy
    · exact H.all j z hz'
  · rcases at_ j z hz with ⟨_, rfl⟩ | ⟨hj, hz'⟩
    · exact (hb g hzg).1
    · exact H.fresh j z g hz' hzg
  · rcases at_ j z hz with ⟨rfl, rfl⟩ | ⟨hj, hz'⟩
    · rcases at_ k u hu with ⟨rfl, rfl⟩ | ⟨hk, hu'⟩
      · exact absurd rfl hjk
      · exact (hb g hzg).2 k u hu'
    · rcases at_ k u hu with ⟨rfl, rfl⟩ | ⟨hk, hu'⟩
      · exact fun e => (hb g e).2 j z hz' hzg
      · exact H.apart j k z u g hjk hz' hu' hzg
/-- a block just laid -/
theorem Sep.new (H : Sep w0 w L) (t : Nat) (l : List Value) : Sep w0 (w.alloc (.cells l.toArray t)) (L ++ [.cells w.heap.size t l]) := by
  refine (H.alloc _).push (y := .cells w.heap.size t l) (Blk.new w t l) (fun g e => ?_)
  cases e
  exact ⟨H.below.size, fun i x hx e => by have := x.live w (H.all i x hx) _ e; omega⟩
theorem Sep.newRow (H : Sep w0 w L) (E size n : Nat) (l : List Value) (hs : l.length = n * size) (hn : n ≤ maxLen) : Sep w0 (w.alloc (.cells l.toArray E)) (L ++ [.row E size (.slice (some ⟨w.heap.size, 0, none⟩) n n) n l]) := by
  have ho := own_new w E l.toArray size n (by simpa using hs) hn (base := 0) (Nat.zero_le _)
  refine (H.alloc _).push (y := .row E size _ n l) (Row.of_own (by simpa using ho)) (fun g e => ?_)
  have e' : rowBlk (.slice (some ⟨w.heap.size, 0, none⟩) n n) = some g := e
  cases n with
  | zero => simp [rowBlk] at e'
  | succ n =>
    simp [rowBlk] at e'
    subst e'
    exact ⟨H.below.size, fun i x hx e => by have := x.live w (H.all i x hx) _ e; omega⟩
theorem Sep.nilRow (H : Sep w0 w L) (E size : Nat) (A : Option Addr) : Sep w0 w (L ++ [.row E size (.slice A 0 0) 0 []]) := by
  refine H.push (y := .row E size (.slice A 0 0) 0 []) Row.zero (fun g e => ?_)
  have e' : rowBlk (.slice A 0 0) = some g := e
  cases A <;> simp [rowBlk] at e'
/-- what a call has made, beside what there was -/
theorem Sep.join {M : List It} (H : Sep w0 w L) (K : Sep w w' M) : Sep w0 w' (L ++ M) := by
  have H' := H.later K.below
  have at_ : ∀ j z, (L ++ M)[j]? = some z → (j < L.length ∧ L[j]? = some z) ∨ (L.length ≤ j ∧ M[j - L.length]? = some z) := fun j z h => by
    rw [List.getElem?_append] at h
    split at h
    · exact .inl ⟨‹_›, h⟩
    · exact .inr ⟨by omega, h⟩
  refine ⟨H'.below, fun j z hz => ?_, fun j z g hz hzg => ?_, fun j k z u g hjk hz hu hzg => ?_⟩
  · rcases at_ j z hz with ⟨_, hz'⟩ | ⟨_, hz'⟩
    · exact H'.all _ _ hz'
    · exact K.all _ _ hz'
  · rcases at_ j z hz with ⟨_, hz'⟩ | ⟨_, hz'⟩
    · exact H'.fresh _ _ _ hz' hzg
    · exact Nat.le_trans H.below.size (K.fresh _ _ _ hz' hzg)
  · rcases at_ j z hz with ⟨hj, hz'⟩ | ⟨hj, hz'⟩
    · rcases at_ k u hu with ⟨hk, hu'⟩ | ⟨hk, hu'⟩
      · exact H'.apart _ _ _ _ _ hjk hz' hu' hzg
      · intro e
        have h1 := z.live w (H.all _ _ hz') _ hzg
        have h2 := K.fresh _ _ _ hu' e
        omega
    · rcases at_ k u hu with ⟨hk, hu'⟩ | ⟨hk, hu'⟩
      · intro e
        have h1 := u.live w (H.all _ _ hu') _ e
        have h2 := K.fresh _ _ _ hz' hzg
        omega
      · exact K.apart _ _ _ _ _ (by omega) hz' hu' hzg
def pickL (L : List It) (is : List Nat) : List It := is.filterMap fun i => L[i]?
/-- some of the items, in another order -/
theorem Sep.pick_ {L' : List It} (H : Sep w0 w L) (f : Nat → Nat) (hf : ∀ (i : Nat) (x : It), L'[i]? = some x → L[f i]? = some x) (hi : ∀ i j : Nat, i < L'.length → j < L'.length → f i = f j → i = j) : Sep w0 w L' :=
  ⟨H.below, fun i x h => H.all _ _ (hf i x h), fun i x g h => H.fresh _ _ _ (hf i x h), fun i j x y g hij hx hy => H.apart _ _ _ _ _ (fun e => hij (hi i j (List.getElem?_eq_some_iff.1 hx).1 (List.getElem?_eq_some_iff.1 hy).1 e)) (hf i x hx) (hf j y hy)⟩
theorem pick_at (L : List It) : ∀ (is : List Nat), (∀ i ∈ is, i < L.length) → ∀ (k : Nat) (x : It), (pickL L is)[k]? = some x → ∃ j : Nat, is[k]? = some j ∧ L[j]? = some x
  | [], _, k, x, h => by simp [pickL] at h
  | i :: is, hl, k, x, h => by
    have hi := hl i (by simp)
    have e : pickL L (i :: is) = L[i] :: pickL L is := by
      unfold pickL
      rw [List.filterMap_cons, List.getElem?_eq_getElem hi]
    rw [e] at h
    cases k with
    | zero =>
      simp at h
      exact ⟨i, rfl, by rw [List.getElem?_eq_getElem hi, h]⟩
    | succ k => exact pick_at L is (fun j hj => hl j (by simp [hj])) k x (by simpa using h)
theorem Sep.pick (H : Sep w0 w L) (is : List Nat) (hnd : is.Nodup) (hl : ∀ i ∈ is, i < L.length) : Sep w0 w (pickL L is) := by
  refine H.pick_ (fun k => is.getD k 0) (fun k x h => ?_) (fun i j h1 h2 e => ?_)
  · obtain ⟨j, h1, h2⟩ := pick_at L is hl k x h
    rw [List.getD_eq_getElem?_getD, h1]
    exact h2
  · obtain ⟨a, ha, _⟩ := pick_at L is hl i _ (List.getElem?_eq_getElem h1)
    obtain ⟨b, hb, _⟩ := pick_at L is hl j _ (List.getElem?_eq_getElem h2)
    simp only [List.getD_eq_getElem?_getD, ha, hb, Option.getD_some] at e
    subst e
    exact (List.getElem?_inj (List.getElem?_eq_some_iff.1 ha).1 hnd).1 (ha.trans hb.symm)

/-! cells items -/
theorem Sep.cell (H : Sep w0 w L) (i : Nat) {g t k : Nat} {l : List Value} {v : Value} (hi : L[i]? = some (.cells g t l)) (hk : l[k]? = some v) : w.cell? ⟨g, k, none⟩ = some v := Blk.cell (H.all i _ hi) hk
theorem Sep.froz (H : Sep w0 w L) (i : Nat) {g t k : Nat} {l : List Value} (hi : L[i]? = some (.cells g t l)) : w.frozen? ⟨g, k, none⟩ = false := Blk.froz (H.all i _ hi)
theorem Sep.blk (H : Sep w0 w L) (i : Nat) {g t : Nat} {l : List Value} (hi : L[i]? = some (.cells g t l)) : Blk w g t l := H.all i _ hi
theorem Sep.set (H : Sep w0 w L) (i : Nat) {g t k : Nat} {l : List Value} (hi : L[i]? = some (.cells g t l)) (u : Value) : Sep w0 (w.setCell ⟨g, k, none⟩ u) (L.set i (.cells g t (l.set k u))) :=
  H.step hi (grown_set w g k u) (Blk.set (H.all i _ hi) u) (.inr (.inl rfl))
theorem Sep.whole (H : Sep w0 w L) (i : Nat) {g t : Nat} {l : List Value} (hi : L[i]? = some (.cells g t l)) (l' : List Value) : Sep w0 (w.setRow g l'.toArray) (L.set i (.cells g t l')) :=
  H.step hi (grown_row w g _) (Blk.row (H.all i _ hi) l') (.inr (.inl rfl))
theorem Sep.ne (H : Sep w0 w L) (i j : Nat) {x y : It} {g g' : Nat} (hij : i ≠ j) (hi : L[i]? = some x) (hj : L[j]? = some y) (hg : x.blk = some g) (hg' : y.blk = some g') : g ≠ g' := fun e => H.apart i j x y g hij hi hj hg (by rw [hg', e])
/-! rows -/
theorem Sep.rowHas (H : Sep w0 w L) (i : Nat) {E size n : Nat} {v : Value} {xs : List Value} (hi : L[i]? = some (.row E size v n xs)) : Row w E size v n xs := H.all i _ hi
theorem Sep.rd (H : Sep w0 w L) (i : Nat) {E size n c : Nat} {A : Option Addr} {xs : List Value} (hi : L[i]? = some (.row E size (.slice A n c) n xs)) : Rd w w.heap.size size A n xs := Row.rd (H.all i _ hi)
theorem Sep.rowAt (H : Sep w0 w L) (i : Nat) {E size n c : Nat} {A : Option Addr} {xs : List Value} (hi : L[i]? = some (.row E size (.slice A n c) n xs)) (h0 : 0 < n) :
    ∃ g, A = some ⟨g, 0, none⟩ ∧ w0.heap.size ≤ g ∧ ∀ k, (∀ u, xs[k]? = some u → w.cell? ⟨g, k, none⟩ = some u) ∧ w.frozen? ⟨g, k, none⟩ = false ∧
      ∀ u, Sep w0 (w.setCell ⟨g, k, none⟩ u) (L.set i (.row E size (.slice (some ⟨g, 0, none⟩) n c) n (xs.set k u))) := by
  obtain ⟨g, rfl, hb, h⟩ := Row.at_ (H.all i _ hi) h0
  refine ⟨g, rfl, H.fresh i _ g hi hb, fun k => ⟨(h k).1, (h k).2.1, fun u => ?_⟩⟩
  refine H.step hi ?_ ((h k).2.2 u) (.inr (.inl rfl))
  show w.grownBy _ (rowBlk _)
  rw [hb]
  exact grown_set w g k u
/-- behind an append onto row i -/
theorem Sep.appended (H : Sep w0 w L) (i : Nat) {E size n n' : Nat} {v v' : Value} {xs xs' : List Value} (hi : L[i]? = some (.row E size v n xs)) (hg : w.grownBy w' (rowBlk v)) (hr : Row w' E size v' n' xs')
    (hb : rowBlk v' = none ∨ rowBlk v' = rowBlk v ∨ rowBlk v' = some w.heap.size) : Sep w0 w' (L.set i (.row E size v' n' xs')) := by
  refine H.step hi hg hr ?_
  rcases hb with hb | hb | hb
  · exact .inl hb
  · exact .inr (.inl hb)
  · exact .inr (.inr ⟨_, hb, Nat.le_refl _⟩)
end

section
variable {P : Program} {w0 w : World} {L : List It}
theorem wpList_append_sep {ops : Array Oper} {rest : List Oper} {o : Oper} {a : Act} {Q : Exit → Act → World → Prop} (H : Sep w0 w L) (i : Nat) (hgd : o.guard = none) (s x : Operand) (t : TypeId)
    (ho : o.op = .call { callee := .builtin .append, args := #[s, x], argTypes := #[t, t] })
    (e : TypeId) (ti : TypeInfo) (z : Value) (size bytes : Nat) (ht : P.underlying t = some (.slice e)) (hti : P.info? e = some ti) (hz : ti.zero = some z)
    (hsize : ti.size = size) (hby : ti.bytes = bytes) (hzs : z.cells.size = size) (hsz : 0 < size)
    (v : Value) (n : Nat) (xs : List Value) (hs : a.eval s = v) (hi : L[i]? = some (.row e size v n xs))
    (B : Nat) (A : Option Addr) (m c : Nat) (news : List Value) (hx : a.eval x = .slice A m c) (hr : Rd w B size A m news) (h1 : ∀ u ∈ news, u.oneCell' = true)
    (h63 : n + m ≤ maxLen) (hbytes : (n + m) * bytes ≤ 140737488355328)
    (h : ∀ A' c' w', n + m ≤ c' → w.heap.size ≤ w'.heap.size → Sep w0 w' (L.set i (.row e size (.slice A' (n + m) c') (n + m) (xs ++ news))) → wpList P ops Q rest (a.put o.dst (.slice A' (n + m) c')) w') : wpList P ops Q (o :: rest) a w :=
  wpList_plain hgd fun _ hK => by
    obtain ⟨v', w', hrun, h2, h3, h4⟩ := run_append_row (P := P) w t o.type e ti z size bytes ht hti hz hsize hby hzs hsz v n xs (H.rowHas i hi) B A m c news hr h1 h63 hbytes
    obtain ⟨A', c', rfl, hc⟩ := h2.slice
    unfold Oper.wp execOp
    simp only [ho, resolve, invoke, builtin, Sem.run_bind, Sem.run_pure, Result.andThen_ok, List.map_toArray, List.map_cons, List.map_nil, hs, hx, hrun]
    exact hK _ _ (h A' c' w' hc h3.size (H.appended i hi h3 h2 h4))
end

theorem Rd.later {w w' : World} {C n : Nat} {A : Option Addr} {xs : List Value} (h : Rd w w.heap.size C A n xs) (hb : Below w.heap.size w w') : Rd w' w'.heap.size C A n xs := (h.below hb).more hb.size
theorem Rd.drew {w : World} {B C n : Nat} {A : Option Addr} {xs : List Value} (h : Rd w B C A n xs) : Rd w.drew B C A n xs := h
/-- a new block, and a whole row laid into it -/
theorem boxed_below (w : World) (o : Obj) (cs : Array Value) : Below w.heap.size w ((w.alloc o).setRow w.heap.size cs) := below_row ((Below.refl _ _).alloc (Nat.le_refl _) o) (Nat.le_refl _) cs
theorem Sep.boxed {w0 w : World} {L : List It} (H : Sep w0 w L) (t : Nat) (z l : List Value) : Sep w0 ((w.alloc (.cells z.toArray t)).setRow w.heap.size l.toArray) (L ++ [.cells w.heap.size t l]) := by
  have h := (H.new t z).whole L.length (g := w.heap.size) (t := t) (l := z) (by simp) l
  rw [List.set_append_right _ _ (Nat.le_refl _), Nat.sub_self, List.set_cons_zero] at h
  exact h
theorem Sep.drewN {w0 w : World} {L : List It} (H : Sep w0 w L) (n : Nat) : Sep w0 (w.drewN n) L := H.later (below_drewN (Below.refl _ _) n)
theorem step_append_sep {P : Program} {w0 w : World} {L : List It} {ops : Array Oper} {o : Oper} {a : Act} {K : Act → World → Prop} {Q : Exit → Act → World → Prop} {E : Prop} (H : Sep w0 w L) (i : Nat) (hgd : o.guard = none) (s x : Operand) (t : TypeId)
    (ho : o.op = .call { callee := .builtin .append, args := #[s, x], argTypes := #[t, t] })
    (e : TypeId) (ti : TypeInfo) (z : Value) (size bytes : Nat) (ht : P.underlying t = some (.slice e)) (hti : P.info? e = some ti) (hz : ti.zero = some z)
    (hsize : ti.size = size) (hby : ti.bytes = bytes) (hzs : z.cells.size = size) (hsz : 0 < size)
    (v : Value) (n : Nat) (xs : List Value) (hs : a.eval s = v) (hi : L[i]? = some (.row e size v n xs))
    (B : Nat) (A : Option Addr) (m c : Nat) (news : List Value) (hx : a.eval x = .slice A m c) (hr : Rd w B size A m news) (h1 : ∀ u ∈ news, u.oneCell' = true)
    (h63 : n + m ≤ maxLen) (hbytes : (n + m) * bytes ≤ 140737488355328)
    (h : ∀ A' c' w', n + m ≤ c' → w.heap.size ≤ w'.heap.size → Sep w0 w' (L.set i (.row e size (.slice A' (n + m) c') (n + m) (xs ++ news))) → K (a.put o.dst (.slice A' (n + m) c')) w') :
    if Region.wanted o (yielded ops a.tmps) = true then Oper.wp P o a w K Q else E := by
  have hw : Region.wanted o (yielded ops a.tmps) = true := by simp [Region.wanted, hgd]
  rw [if_pos hw]
  obtain ⟨v', w', hrun, h2, h3, h4⟩ := run_append_row (P := P) w t o.type e ti z size bytes ht hti hz hsize hby hzs hsz v n xs (H.rowHas i hi) B A m c news hr h1 h63 hbytes
  obtain ⟨A', c', rfl, hc⟩ := h2.slice
  unfold Oper.wp execOp
  simp only [ho, resolve, invoke, builtin, Sem.run_bind, Sem.run_pure, Result.andThen_ok, List.map_toArray, List.map_cons, List.map_nil, hs, hx, hrun]
  exact h A' c' w' hc h3.size (H.appended i hi h3 h2 h4)

theorem size_of_info {P : Program} {t : TypeId} {i : TypeInfo} {n : Nat} (h : P.info? t = some i) (hs : i.size = n) (w : World) : (sizeOf t).run P w = .ok n w := by
  simp [sizeOf, typeInfo, h, hs]
/-- reslicing what can be read: from k on -/
theorem rd_from {P : Program} {t e : TypeId} {C : Nat} (ht' : P.underlying t = some (.slice e)) (hC : ∀ w, (sizeOf e).run P w = .ok C w) {w : World} {B n c k : Nat} {A : Option Addr} {xs : List Value} (h : Rd w B C A n xs) (hk : k ≤ n) (hc : n ≤ c) (ki : Int) (hki : ki = (k : Int)) :
    ∃ A', (∀ w', (Instr.slice t (.slice A n c) (some (.int .i64 ki)) none none).run P w' = .ok (.slice A' (n - k) (c - k)) w') ∧ Rd w B C A' (n - k) (xs.drop (k * C)) := by
  subst hki
  have he : P.elem t = e := by unfold Program.elem; rw [ht']
  have ht : P.underlying t = some (.slice (P.elem t)) := by rw [he]; exact ht'
  refine ⟨if c = k then A else A.map (·.add (k * C)), fun w' => ?_, ?_, fun h0 => ?_⟩
  · rw [run_slice_l w' t A n c ht .i64 (k : Int) (by omega) (by omega), he, hC]
    simp [Result.andThen, sliced]
  · rw [List.length_drop, h.1, Nat.sub_mul]
  · obtain ⟨b, off, rfl, hb, hc'⟩ := h.2 (by omega)
    rw [if_neg (by omega)]
    refine ⟨b, off + k * C, ?_, hb, fun j u hu => ?_⟩
    · simp only [Option.map_some, Addr.add]
      by_cases hz : k * C = 0
      · simp [hz]
      · simp [hz]
    · rw [List.getElem?_drop] at hu
      rw [Nat.add_assoc]
      exact hc' _ u hu
/-- .. up to k -/
theorem rd_upto {w : World} {B C n k : Nat} {A : Option Addr} {xs : List Value} (h : Rd w B C A n xs) (hk : k ≤ n) : Rd w B C A k (xs.take (k * C)) := by
  refine ⟨?_, fun h0 => ?_⟩
  · rw [List.length_take, h.1]
    exact Nat.min_eq_left (Nat.mul_le_mul_right _ hk)
  · obtain ⟨b, off, rfl, hb, hc'⟩ := h.2 (by omega)
    refine ⟨b, off, rfl, hb, fun j u hu => ?_⟩
    rw [List.getElem?_take] at hu
    split at hu
    · exact hc' j u hu
    · cases hu

/-! a whole element of a row -/
def setMany : List Value → Nat → List Value → List Value
  | xs, _, [] => xs
  | xs, off, v :: vs => setMany (xs.set off v) (off + 1) vs
def wset (w : World) (g off : Nat) : List Value → World
  | [] => w
  | v :: vs => wset (w.setCell ⟨g, off, none⟩ v) g (off + 1) vs
theorem setMany_append (a b : List Value) : ∀ (vs : List Value) (off : Nat), a.length ≤ off → setMany (a ++ b) off vs = a ++ setMany b (off - a.length) vs
  | [], off, h => rfl
  | v :: vs, off, h => by
    rw [setMany, setMany, List.set_append_right _ _ h, setMany_append a _ vs (off + 1) (by omega), show off + 1 - a.length = off - a.length + 1 by omega]
theorem setMany_whole : ∀ (vs a b c : List Value), a.length = vs.length → setMany (b ++ (a ++ c)) b.length vs = b ++ (vs ++ c)
  | [], a, b, c, h => by
    obtain rfl := List.eq_nil_of_length_eq_zero h
    rfl
  | v :: vs, [], b, c, h => by simp at h
  | v :: vs, x :: a, b, c, h => by
    rw [setMany, List.set_append_right _ _ (Nat.le_refl _), Nat.sub_self, List.cons_append, List.set_cons_zero]
    have := setMany_whole vs a (b ++ [v]) c (by simpa using h)
    rw [List.length_append, List.length_singleton, List.append_assoc] at this
    simpa using this
theorem flat_setMany {α : Type} {C : Nat} {cells : α → List Value} (hC : ∀ x, (cells x).length = C) (l : List α) (k : Nat) (x : α) (hk : k < l.length) : setMany (l.flatMap cells) (k * C) (cells x) = (l.set k x).flatMap cells := by
  have h1 : l = l.take k ++ l[k] :: l.drop (k + 1) := by
    rw [← List.drop_eq_getElem_cons hk, List.take_append_drop]
  have h2 : l.set k x = l.take k ++ x :: l.drop (k + 1) := List.set_eq_take_append_cons_drop .. |>.trans (by rw [if_pos hk])
  rw [h2]
  have h3 : (l.take k).length = k := by simp; omega
  have h4 : ((l.take k).flatMap cells).length = k * C := by rw [flat_len hC, h3]
  conv => lhs; rw [h1]
  rw [List.flatMap_append, List.flatMap_cons, List.flatMap_append, List.flatMap_cons, ← h4]
  exact setMany_whole (cells x) (cells l[k]) _ _ (by rw [hC, hC])
theorem Sep.wset {w0 : World} {E size n c g : Nat} : ∀ (vs : List Value) {w : World} {L : List It} (H : Sep w0 w L) (i : Nat) {xs : List Value} (off : Nat) (hi : L[i]? = some (.row E size (.slice (some ⟨g, 0, none⟩) n c) n xs)) (h0 : 0 < n),
    Sep w0 (wset w g off vs) (L.set i (.row E size (.slice (some ⟨g, 0, none⟩) n c) n (setMany xs off vs)))
  | [], w, L, H, i, xs, off, hi, h0 => by
    have : L.set i (.row E size (.slice (some ⟨g, 0, none⟩) n c) n xs) = L := by
      obtain ⟨hl, hx⟩ := List.getElem?_eq_some_iff.1 hi
      rw [← hx, List.set_getElem_self]
    rw [Go.Proofs.YtgfldhdmdeeknaaGreatDoor.wset, setMany, this]
    exact H
  | v :: vs, w, L, H, i, xs, off, hi, h0 => by
    obtain ⟨g', hg, _, h⟩ := H.rowAt i hi h0
    cases hg
    have h1 := (h off).2.2 v
    have hil := (List.getElem?_eq_some_iff.1 hi).1
    have h2 := Sep.wset vs h1 i (off + 1) (xs := xs.set off v) (by rw [List.getElem?_set, if_pos rfl, if_pos hil]) h0
    rw [List.set_set] at h2
    exact h2
/-- a store of a whole element -/
theorem Sep.elem {α : Type} {w0 w : World} {L : List It} {C : Nat} {cells : α → List Value} (hC : ∀ x, (cells x).length = C) (H : Sep w0 w L) (i : Nat) {E n c g : Nat} {l : List α} (hi : L[i]? = some (.row E C (.slice (some ⟨g, 0, none⟩) n c) n (l.flatMap cells))) (k : Nat) (hk : k < l.length) (h0 : 0 < n) (x : α) :
    Sep w0 (Go.Proofs.YtgfldhdmdeeknaaGreatDoor.wset w g (k * C) (cells x)) (L.set i (.row E C (.slice (some ⟨g, 0, none⟩) n c) n ((l.set k x).flatMap cells))) := by
  rw [← flat_setMany hC l k x hk]
  exact H.wset _ i _ hi h0
end Go.Proofs.YtgfldhdmdeeknaaGreatDoor
/-! Slices of the call's own, cut, cleared and copied into: what each builtin does to a row. Conditions: none beyond each theorem's own premises. -/
namespace Go.Proofs.YtgfldhdmdeeknaaGreatDoor
open Go.RowKit
set_option linter.unusedVariables false

/-- a call hands back a slice of its own: n elements that hold xs -/
def SliceRet (w : World) (E C n : Nat) (xs : List Value) (e : Ending) (w' : World) : Prop := ∃ A' c', n ≤ c' ∧ e = .returned (.slice A' n c') ∧ Sep w w' [.row E C (.slice A' n c') n xs]

/-- where s[k:] lies -/
def fromAddr (A : Option Addr) (c k C : Nat) : Option Addr := if c = k then A else A.map (·.add (k * C))
section
variable {P : Program} {t e : TypeId} {C : Nat}
theorem from_run (ht' : P.underlying t = some (.slice e)) (hC : ∀ w, (sizeOf e).run P w = .ok C w) (A : Option Addr) (n c k : Nat) (hk : k ≤ n) (w : World) :
    (Instr.slice t (.slice A n c) (some (.int .i64 (k : Int))) none none).run P w = .ok (.slice (fromAddr A c k C) (n - k) (c - k)) w := by
  have he : P.elem t = e := by unfold Program.elem; rw [ht']
  have ht : P.underlying t = some (.slice (P.elem t)) := by rw [he]; exact ht'
  rw [run_slice_l w t A n c ht .i64 (k : Int) (by omega) (by omega), he, hC]
  simp [Result.andThen, sliced, fromAddr]
theorem upto_run (ht' : P.underlying t = some (.slice e)) (hC : ∀ w, (sizeOf e).run P w = .ok C w) (A : Option Addr) (n c k : Nat) (hk : k ≤ c) (w : World) :
    (Instr.slice t (.slice A n c) none (some (.int .i64 (k : Int))) none).run P w = .ok (.slice A k c) w := by
  have he : P.elem t = e := by unfold Program.elem; rw [ht']
  have ht : P.underlying t = some (.slice (P.elem t)) := by rw [he]; exact ht'
  rw [run_slice_h w t A n c ht .i64 (k : Int) (by omega) (by omega), he, hC]
  simp only [Result.andThen, sliced, Nat.zero_mul, Nat.sub_zero, Int.toNat_natCast]
  congr 2
  cases A with
  | none => simp
  | some a => simp [Addr.add]
theorem rd_fromAddr {w : World} {B n c k : Nat} {A : Option Addr} {xs : List Value} (h : Rd w B C A n xs) (hk : k ≤ n) (hc : n ≤ c) : Rd w B C (fromAddr A c k C) (n - k) (xs.drop (k * C)) := by
  refine ⟨?_, fun h0 => ?_⟩
  · rw [List.length_drop, h.1, Nat.sub_mul]
  · obtain ⟨b, off, rfl, hb, hc'⟩ := h.2 (by omega)
    unfold fromAddr
    rw [if_neg (by omega)]
    refine ⟨b, off + k * C, ?_, hb, fun j u hu => ?_⟩
    · simp only [Option.map_some, Addr.add]
      by_cases hz : k * C = 0
      · simp [hz]
      · simp [hz]
    · rw [List.getElem?_drop] at hu
      rw [Nat.add_assoc]
      exact hc' _ u hu
end

theorem take_splice {α : Type} (cur vs : List α) (off N : Nat) (h : off + vs.length ≤ N) (hN : N ≤ cur.length) :
    (cur.take off ++ vs ++ cur.drop (off + vs.length)).take N = (cur.take N).take off ++ vs ++ (cur.take N).drop (off + vs.length) := by
  have h1 : (cur.take off ++ vs).length = off + vs.length := by simp; omega
  rw [List.take_append, List.take_of_length_le (by omega), h1, List.take_take, Nat.min_eq_left (by omega), List.drop_take]

section
variable {w : World} {E C n c g : Nat} {xs : List Value}
theorem Row.cut {A : Option Addr} (h : Row w E C (.slice A n c) n xs) {m : Nat} (hm : m ≤ n) : Row w E C (.slice A m c) m (xs.take (m * C)) := by
  obtain ⟨h1, h2⟩ := h
  refine ⟨by rw [List.length_take, h1]; exact Nat.min_eq_left (Nat.mul_le_mul_right _ hm), ?_⟩
  rcases h2 with ⟨rfl, h2⟩ | ⟨g, cap, cur, hv, hh, hn, hmx, hs, ht⟩
  · obtain rfl : m = 0 := by omega
    exact .inl ⟨rfl, h2⟩
  · cases hv
    refine .inr ⟨g, cap, cur, rfl, hh, by omega, hmx, hs, ?_⟩
    rw [← ht, List.take_take, Nat.min_eq_left (Nat.mul_le_mul_right _ hm)]
/-- within its capacity a row may be taken longer: what lies there then is whatever lay there -/
theorem Row.extend {A : Option Addr} (h : Row w E C (.slice A n c) n xs) {m : Nat} (hm : n + m ≤ c) : ∃ ys, ys.length = m * C ∧ Row w E C (.slice A (n + m) c) (n + m) (xs ++ ys) := by
  obtain ⟨h1, h2⟩ := h
  rcases h2 with ⟨rfl, h2⟩ | ⟨g, cap, cur, hv, hh, hn, hmx, hs, ht⟩
  · obtain rfl : m = 0 := by
      rcases h2 with h2 | ⟨a, h2⟩
      · cases h2; omega
      · cases h2; omega
    exact ⟨[], by simp, by simpa using h1, .inl ⟨rfl, h2⟩⟩
  · cases hv
    have hle : (n + m) * C ≤ cur.size := by rw [hs]; exact Nat.mul_le_mul_right _ hm
    refine ⟨(cur.toList.take ((n + m) * C)).drop (n * C), ?_, ?_, .inr ⟨g, cap, cur, rfl, hh, hm, hmx, hs, ?_⟩⟩
    · rw [List.length_drop, List.length_take, Array.length_toList, Nat.min_eq_left hle, Nat.add_mul]; omega
    · rw [List.length_append, h1, List.length_drop, List.length_take, Array.length_toList, Nat.min_eq_left hle, Nat.add_mul]; omega
    · have := (List.take_append_drop (n * C) (cur.toList.take ((n + m) * C))).symm
      rw [List.take_take, Nat.min_eq_left (Nat.mul_le_mul_right _ (by omega)), ht] at this
      exact this
/-- cells stored one behind the other into a row -/
theorem run_storeCells_row {P : Program} (h : Row w E C (.slice (some ⟨g, 0, none⟩) n c) n xs) (vs : List Value) (off : Nat) (hv : 0 < vs.length) (ho : off + vs.length ≤ n * C) (h1 : ∀ v ∈ vs, v.oneCell' = true) :
    ∃ w', (storeCells ⟨g, off, none⟩ vs).run P w = .ok () w' ∧ Row w' E C (.slice (some ⟨g, 0, none⟩) n c) n (xs.take off ++ vs ++ xs.drop (off + vs.length)) ∧ w.grownBy w' (rowBlk (.slice (some ⟨g, 0, none⟩) n c)) := by
  obtain ⟨hl, h2⟩ := h
  rcases h2 with ⟨rfl, h2⟩ | ⟨g', cap, cur, hv', hh, hn, hmx, hs, ht⟩
  · omega
  · cases hv'
    have hle : n * C ≤ cur.size := by rw [hs]; exact Nat.mul_le_mul_right _ hn
    refine ⟨_, run_storeCells_at (P := P) g off E vs 0 cur w hh (by omega) h1, ⟨?_, .inr ⟨g, cap, _, rfl, setRow_heap w g cur _ E _ hh, hn, hmx, ?_, ?_⟩⟩, ?_⟩
    · simp only [List.length_append, List.length_take, List.length_drop, hl]; omega
    · simp only [List.size_toArray, List.length_append, List.length_take, List.length_drop, Array.length_toList, Nat.add_zero]; omega
    · simp only [Nat.add_zero]
      rw [take_splice _ _ _ _ ho (by simpa using hle), ht]
    · exact ⟨rfl, rfl, rfl, by simp, fun k _ hk => setRow_other w g k _ (fun e => hk (by simp [rowBlk, e]))⟩
end

section
variable {P : Program} {w0 w : World} {L : List It}
/-- the last elements of a row are struck -/
theorem Sep.cut (H : Sep w0 w L) (i : Nat) {E C n c m : Nat} {A : Option Addr} {xs : List Value} (hi : L[i]? = some (.row E C (.slice A n c) n xs)) (hm : m ≤ n) : Sep w0 w (L.set i (.row E C (.slice A m c) m (xs.take (m * C)))) := by
  refine H.step (y := .row E C (.slice A m c) m (xs.take (m * C))) hi (World.grownBy.refl w _) (Row.cut (H.rowHas i hi) hm) (.inr (.inl ?_))
  cases A <;> cases c <;> rfl
theorem Sep.extend (H : Sep w0 w L) (i : Nat) {E C n c m : Nat} {A : Option Addr} {xs : List Value} (hi : L[i]? = some (.row E C (.slice A n c) n xs)) (hm : n + m ≤ c) : ∃ ys, ys.length = m * C ∧ Sep w0 w (L.set i (.row E C (.slice A (n + m) c) (n + m) (xs ++ ys))) := by
  obtain ⟨ys, hy, hr⟩ := Row.extend (H.rowHas i hi) hm
  refine ⟨ys, hy, H.step (y := .row E C (.slice A (n + m) c) (n + m) (xs ++ ys)) hi (World.grownBy.refl w _) hr (.inr (.inl ?_))⟩
  cases A <;> cases c <;> rfl
/-- cells stored into a row -/
theorem Sep.splice (H : Sep w0 w L) (i : Nat) {E C n c g : Nat} {xs : List Value} (hi : L[i]? = some (.row E C (.slice (some ⟨g, 0, none⟩) n c) n xs)) (vs : List Value) (off : Nat) (hv : 0 < vs.length) (ho : off + vs.length ≤ n * C) (h1 : ∀ v ∈ vs, v.oneCell' = true) :
    ∃ w', (storeCells ⟨g, off, none⟩ vs).run P w = .ok () w' ∧ Sep w0 w' (L.set i (.row E C (.slice (some ⟨g, 0, none⟩) n c) n (xs.take off ++ vs ++ xs.drop (off + vs.length)))) := by
  obtain ⟨w', h2, h3, h4⟩ := run_storeCells_row (P := P) (H.rowHas i hi) vs off hv ho h1
  exact ⟨w', h2, H.step (y := .row E C (.slice (some ⟨g, 0, none⟩) n c) n _) hi h4 h3 (.inr (.inl rfl))⟩
theorem row_base {E C n c : Nat} {A : Option Addr} {xs : List Value} (h : Row w E C (.slice A n c) n xs) (h0 : 0 < n) : ∃ g, A = some ⟨g, 0, none⟩ := by
  obtain ⟨g, hg, _⟩ := h.at_ h0
  exact ⟨g, hg⟩

/-- clear(s[k:]), s a row: then s is taken as s[:k] -/
theorem run_clear_sep (H : Sep w0 w L) (i : Nat) {t e : TypeId} {ty : TypeId} {C n c k : Nat} {A : Option Addr} {xs : List Value} {z : Value} (hi : L[i]? = some (.row e C (.slice A n c) n xs)) (ht : P.underlying t = some (.slice e)) (hz : ∀ w, (zeroValue e).run P w = .ok z w) (hzs : z.cells.size = C) (hz1 : ∀ v ∈ z.cells.toList, v.oneCell' = true) (hC : 0 < C) (hk : k ≤ n) (hc : n ≤ c) :
    ∃ w', (Builtin.clear_ #[t] ty #[.slice (fromAddr A c k C) (n - k) (c - k)]).run P w = .ok (.tuple #[]) w' ∧ Sep w0 w' (L.set i (.row e C (.slice A k c) k (xs.take (k * C)))) := by
  rcases Nat.lt_or_ge k n with hlt | hge
  · obtain ⟨g, rfl⟩ := row_base (H.rowHas i hi) (show 0 < n by omega)
    have hzc : ∀ m, (Builtin.zeroCells z.cells m).toList.length = m * C := fun m => by rw [Array.length_toList, size_zeroCells, hzs]
    have hmul : k * C + (n - k) * C = n * C := by rw [← Nat.add_mul]; congr 1; omega
    have hpos : 0 < (n - k) * C := Nat.mul_pos (by omega) hC
    obtain ⟨w', h2, h3⟩ := H.splice (P := P) i hi (Builtin.zeroCells z.cells (n - k)).toList (k * C) (by rw [hzc]; exact hpos) (by rw [hzc]; omega) (fun v hv => by
      have : v ∈ z.cells.toList := by
        rw [Array.mem_toList_iff] at hv ⊢
        simp [Builtin.zeroCells] at hv
        obtain ⟨a, _, rfl⟩ := hv
        have hlt' : a % z.cells.size < z.cells.size := Nat.mod_lt _ (by omega)
        rw [getElem!_pos z.cells _ hlt']
        exact Array.getElem_mem hlt'
      exact hz1 v this)
    have hf : fromAddr (some ⟨g, 0, none⟩) c k C = some ⟨g, k * C, none⟩ := by
      unfold fromAddr
      rw [if_neg (by omega), Option.map_some]
      simp only [Addr.add]
      by_cases h0 : k * C = 0 <;> simp [h0]
    refine ⟨w', ?_, ?_⟩
    · rw [hf]
      obtain ⟨d, hd⟩ : ∃ d, n - k = d + 1 := ⟨n - k - 1, by omega⟩
      rw [hd] at h2 ⊢
      simp [Builtin.clear_, run_underlying ht, hz, h2, Result.andThen]
    · have hil := (List.getElem?_eq_some_iff.1 hi).1
      have h4 := h3.cut i (m := k) (by rw [List.getElem?_set, if_pos rfl, if_pos hil]) hk
      rw [List.set_set] at h4
      have : (List.take (k * C) (xs.take (k * C) ++ (Builtin.zeroCells z.cells (n - k)).toList ++ xs.drop (k * C + (Builtin.zeroCells z.cells (n - k)).toList.length))) = xs.take (k * C) := by
        rw [List.append_assoc, List.take_append_of_le_length (by rw [List.length_take, (H.rowHas i hi).1]; omega), List.take_take, Nat.min_self]
      rw [this] at h4
      exact h4
  · obtain rfl : k = n := by omega
    refine ⟨w, ?_, ?_⟩
    · rw [Nat.sub_self]
      cases hA : fromAddr A c k C <;> simp [Builtin.clear_, run_underlying ht, Result.andThen]
    · exact H.cut i hi (Nat.le_refl _)
theorem wpList_clear_sep {ops : Array Oper} {rest : List Oper} {o : Oper} {a : Act} {Q : Exit → Act → World → Prop} (H : Sep w0 w L) (i : Nat) (hgd : o.guard = none) (x : Operand) (t : TypeId)
    (ho : o.op = .call { callee := .builtin .clear, args := #[x], argTypes := #[t] })
    {e : TypeId} {C n c k : Nat} {A : Option Addr} {xs : List Value} {z : Value} (hi : L[i]? = some (.row e C (.slice A n c) n xs)) (hx : a.eval x = .slice (fromAddr A c k C) (n - k) (c - k)) (ht : P.underlying t = some (.slice e)) (hz : ∀ w, (zeroValue e).run P w = .ok z w) (hzs : z.cells.size = C) (hz1 : ∀ v ∈ z.cells.toList, v.oneCell' = true) (hC : 0 < C) (hk : k ≤ n) (hc : n ≤ c)
    (h : ∀ w', Sep w0 w' (L.set i (.row e C (.slice A k c) k (xs.take (k * C)))) → wpList P ops Q rest (a.put o.dst (.tuple #[])) w') : wpList P ops Q (o :: rest) a w :=
  wpList_plain hgd fun _ hK => by
    obtain ⟨w', h2, h3⟩ := run_clear_sep (P := P) (ty := o.type) H i hi ht hz hzs hz1 hC hk hc
    unfold Oper.wp execOp
    simp only [ho, resolve, invoke, builtin, Sem.run_bind, Sem.run_pure, Result.andThen_ok, List.map_toArray, List.map_cons, List.map_nil, hx, h2]
    exact hK _ _ (h w' h3)
end
theorem flat_take {α : Type} {C : Nat} {cells : α → List Value} (hC : ∀ x, (cells x).length = C) (l : List α) (k : Nat) : (l.flatMap cells).take (k * C) = (l.take k).flatMap cells := by
  induction l generalizing k with
  | nil => simp
  | cons x l ih =>
    cases k with
    | zero => simp
    | succ k =>
      rw [List.take_succ_cons, List.flatMap_cons, List.flatMap_cons, ← ih k, List.take_append, hC, Nat.add_mul, Nat.one_mul, Nat.add_sub_cancel, List.take_of_length_le (by rw [hC]; omega)]
theorem flat_drop {α : Type} {C : Nat} {cells : α → List Value} (hC : ∀ x, (cells x).length = C) (l : List α) (k : Nat) : (l.flatMap cells).drop (k * C) = (l.drop k).flatMap cells := by
  induction l generalizing k with
  | nil => simp
  | cons x l ih =>
    cases k with
    | zero => simp
    | succ k =>
      rw [List.drop_succ_cons, List.flatMap_cons, ← ih k, List.drop_append, hC, Nat.add_mul, Nat.one_mul, Nat.add_sub_cancel, List.drop_of_length_le (by rw [hC]; omega), List.nil_append]
/-- one cell of one element -/
theorem flat_set1 {α : Type} {C : Nat} {cells : α → List Value} (hC : ∀ x, (cells x).length = C) {x y : α} {j : Nat} {v : Value} (hj : j < C) (hy : cells y = (cells x).set j v) : ∀ (l : List α) (k : Nat), l[k]? = some x → (l.flatMap cells).set (k * C + j) v = (l.set k y).flatMap cells
  | [], k, h => by simp at h
  | z :: l, 0, h => by
    simp at h
    subst h
    rw [List.set_cons_zero, List.flatMap_cons, List.flatMap_cons, Nat.zero_mul, Nat.zero_add, List.set_append_left _ _ (by rw [hC]; exact hj), hy]
  | z :: l, k + 1, h => by
    rw [List.set_cons_succ, List.flatMap_cons, List.flatMap_cons, List.set_append_right _ _ (by rw [hC, Nat.add_mul]; omega), hC, show (k + 1) * C + j - C = k * C + j by rw [Nat.add_mul]; omega, flat_set1 hC hj hy l k (by simpa using h)]
/-- a store of one cell of one element -/
theorem Sep.field {α : Type} {w0 w : World} {L : List It} {C : Nat} {cells : α → List Value} (hC : ∀ x, (cells x).length = C) (H : Sep w0 w L) (i : Nat) {E n c g : Nat} {l : List α} (hi : L[i]? = some (.row E C (.slice (some ⟨g, 0, none⟩) n c) n (l.flatMap cells))) (h0 : 0 < n) {k j : Nat} {x : α} (hx : l[k]? = some x) (hj : j < C) (y : α) (v : Value) (hy : cells y = (cells x).set j v) :
    Sep w0 (w.setCell ⟨g, k * C + j, none⟩ v) (L.set i (.row E C (.slice (some ⟨g, 0, none⟩) n c) n ((l.set k y).flatMap cells))) := by
  obtain ⟨g', hg, _, h⟩ := H.rowAt i hi h0
  cases hg
  have := (h (k * C + j)).2.2 v
  rwa [flat_set1 hC hj hy l k hx] at this
end Go.Proofs.YtgfldhdmdeeknaaGreatDoor
/-! A region that draws its order, by an INVARIANT over what has come up so far: one proof for each operation, whatever the order. Conditions: none beyond each theorem's own premises. -/
namespace Go.Proofs.YtgfldhdmdeeknaaGreatDoor
open Go.RowKit
set_option linter.unusedVariables false
section
variable {P : Program} {ops : Array Oper} {md : Region.Mode} {Q : Exit → Act → World → Prop}

theorem wpAny_inv (I : Array Bool → Act → World → Prop)
    (hstep : ∀ (listed : Array Bool) a w i, I listed a w → i ∈ Region.ready md ops listed → wpOp P ops Q i (fun a' w' => I (listed.setIfInBounds i true) a' w') a w)
    (hfin : ∀ (listed : Array Bool) a w, I listed a w → Region.ready md ops listed = [] → Q .normal a w) :
    ∀ (f : Nat) (listed : Array Bool) (a : Act) (w : World), listed.toList.count false ≤ f → I listed a w → wpAny P md ops Q f listed a w := by
  intro f
  induction f with
  | zero =>
    intro listed a w hc hI
    have hr : Region.ready md ops listed = [] := by
      rw [List.eq_nil_iff_forall_not_mem]
      intro i hi
      have h1 := (mem_ready.1 hi).1
      have hlt : i < listed.size := by
        rcases Nat.lt_or_ge i listed.size with h | h
        · exact h
        · simp [Array.getD_eq_getD_getElem?, Array.getElem?_eq_none h] at h1
      have hmem : false ∈ listed.toList := by
        rw [← h1]
        simp [Array.getD_eq_getD_getElem?, hlt]
      have := List.count_pos_iff.2 hmem
      omega
    exact ⟨hr, hfin _ _ _ hI hr⟩
  | succ f ih =>
    intro listed a w hc hI
    refine ⟨fun h0 => hfin _ _ _ hI h0, fun i hi => ?_⟩
    refine wpOp_mono (fun a' w' h => ih _ a' w' ?_ h) (hstep listed a w i hI hi)
    have h1 := (mem_ready.1 hi).1
    have hlt : i < listed.size := by
      rcases Nat.lt_or_ge i listed.size with h | h
      · exact h
      · simp [Array.getD_eq_getD_getElem?, Array.getElem?_eq_none h] at h1
    have h2 : listed[i] = false := by simpa [Array.getD_eq_getD_getElem?, hlt] using h1
    rw [Array.toList_setIfInBounds, List.count_set (by simpa using hlt)]
    have h3 : listed.toList[i]'(by simpa using hlt) = false := by simpa using h2
    rw [h3]
    have h5 : 0 < listed.toList.count false := List.count_pos_iff.2 (h3 ▸ List.getElem_mem _)
    simp only [beq_self_eq_true, if_true]
    rw [if_neg (by decide)]
    omega

/-- every edge that binds goes to an operation ahead -/
def downB (md : Region.Mode) (ops : Array Oper) : Bool := (List.range ops.size).all fun j => match ops[j]? with
  | some o => o.after.all fun e => !(Region.binds md e) || decide (e.on < j)
  | none => true
theorem all_listed {listed : Array Bool} (hd : downB md ops = true) (hs : listed.size = ops.size) (hr : Region.ready md ops listed = []) : ∀ j, j < ops.size → listed.getD j false = true := by
  intro j
  induction j using Nat.strongRecOn with
  | _ j ih =>
    intro hj
    cases hl : listed.getD j false with
    | true => rfl
    | false =>
      exfalso
      have hjo : ops[j]? = some ops[j] := Array.getElem?_eq_getElem hj
      have hmem : j ∈ Region.ready md ops listed := by
        refine mem_ready.2 ⟨?_, ops[j], hjo, fun e he hb => ?_⟩
        · have hlt : j < listed.size := by omega
          simp [Array.getD_eq_getD_getElem?, hlt] at hl ⊢
          exact hl
        · unfold downB at hd
          have h1 := List.all_eq_true.1 hd j (List.mem_range.2 hj)
          rw [hjo] at h1
          simp only at h1
          have h2 := (Array.all_eq_true_iff_forall_mem.1 h1) e he
          rw [hb] at h2
          simp at h2
          exact ih e.on h2 (by omega)
      rw [hr] at hmem
      cases hmem

/-- the law -/
theorem wp_region_inv {id : Nat} {a : Act} {w : World} (I : (Nat → Bool) → Act → World → Prop) (hm : P.follows .mixedOrders = true) (hd : downB .any ops = true)
    (h0 : I (fun _ => false) a { w with drawn := w.drawn + 1 })
    (hstep : ∀ (L : Nat → Bool) a w (i : Nat) (o : Oper), I L a w → ops[i]? = some o → L i = false → (∀ e ∈ o.after, Region.binds .any e = true → L e.on = true) → wpOp P ops Q i (fun a' w' => I (fun j => if j = i then true else L j) a' w') a w)
    (hfin : ∀ (L : Nat → Bool) a w, I L a w → (∀ j, j < ops.size → L j = true) → Q .normal a w) : (Code.region id ops true).wp P Q a w := by
  refine wp_region_any hm ?_
  refine wpAny_inv (fun listed a w => listed.size = ops.size ∧ I (fun j => listed.getD j false) a w) ?_ ?_ _ _ _ _ ?_ ⟨by simp, ?_⟩
  · rintro listed a w i ⟨hs, hI⟩ hi
    obtain ⟨h1, o, h2, h3⟩ := mem_ready.1 hi
    have hlt : i < listed.size := by
      rcases Nat.lt_or_ge i listed.size with h | h
      · exact h
      · simp [Array.getD_eq_getD_getElem?, Array.getElem?_eq_none h] at h1
    have h4 : listed.getD i false = false := by
      simp [Array.getD_eq_getD_getElem?, hlt] at h1 ⊢
      exact h1
    refine wpOp_mono (fun a' w' h => ⟨by simpa using hs, ?_⟩) (hstep _ a w i o hI h2 h4 h3)
    have e : (fun j => (listed.setIfInBounds i true).getD j false) = (fun j => if j = i then true else listed.getD j false) := by
      funext j
      by_cases hji : j = i
      · subst hji
        simp [Array.getD_eq_getD_getElem?, hlt]
      · rw [if_neg hji]
        simp [Array.getD_eq_getD_getElem?, Ne.symm hji]
    rw [e]
    exact h
  · rintro listed a w ⟨hs, hI⟩ hr
    exact hfin _ a w hI (all_listed hd hs hr)
  · simp
  · have e : (fun j => (Array.replicate ops.size false).getD j false) = (fun _ => false) := by
      funext j
      simp [Array.getD_eq_getD_getElem?, Array.getElem?_replicate]
      split <;> rfl
    simp only [e]
    exact h0
/-- the law, the invariant told of the frame at the region's head -/
theorem wp_region_inv0 {id : Nat} {a : Act} {w : World} (I : Act → (Nat → Bool) → Act → World → Prop) (hm : P.follows .mixedOrders = true) (hd : downB .any ops = true)
    (h0 : I a (fun _ => false) a { w with drawn := w.drawn + 1 })
    (hstep : ∀ (L : Nat → Bool) a' w (i : Nat) (o : Oper), I a L a' w → ops[i]? = some o → L i = false → (∀ e ∈ o.after, Region.binds .any e = true → L e.on = true) → wpOp P ops Q i (fun a' w' => I a (fun j => if j = i then true else L j) a' w') a' w)
    (hfin : ∀ (L : Nat → Bool) a' w, I a L a' w → (∀ j, j < ops.size → L j = true) → Q .normal a' w) : (Code.region id ops true).wp P Q a w := wp_region_inv (I a) hm hd h0 hstep hfin
/-- a frame with some slots turned -/
def turn (a : Act) (l : List (Nat × Value)) : Act := { a with tmps := l.foldl (fun t p => t.setIfInBounds p.1 p.2) a.tmps }
end
theorem wpOp_at {P : Program} {ops : Array Oper} {Q : Exit → Act → World → Prop} {K : Act → World → Prop} {i : Nat} {o : Oper} {a : Act} {w : World} (hi : ops[i]? = some o) (hw : Region.wanted o (yielded ops a.tmps) = true) (h : o.wp P a w K Q) : wpOp P ops Q i K a w := by
  unfold Go.wpOp
  simp only [hi, hw, if_true]
  exact .inl h
theorem load_exec {P : Program} (ev : Operand → Value) (o : Oper) (W : World) (v : Value) {ty : TypeId} {x : Operand} (ho : o.op = .load ty x) (h : (Instr.loadAt ty (ev x)).run P W = .ok v W) : (execOp ev o).run P W = .ok (.value v) W := by
  unfold execOp
  simp only [ho, Sem.run_bind, h, Result.andThen_ok, Sem.run_pure]
end Go.Proofs.YtgfldhdmdeeknaaGreatDoor
/-! A region that draws its order, whose first m operations make memory in whatever order, the m-th of them behind all others, and whose rest only reads: the head by an invariant, the rest by one lexical walk. Conditions: none beyond the theorem's own premises. -/
namespace Go.Proofs.YtgfldhdmdeeknaaGreatDoor
open Go.RowKit
set_option linter.unusedVariables false

/-- some edge of o that binds goes to where p holds -/
def edgeTo (o : Oper) (p : Nat → Bool) : Bool := o.after.any fun e => Region.binds .any e && p e.on
/-- the first m operations stand ahead of all others; the last of them behind all of them -/
def headB (m : Nat) (ops : Array Oper) : Bool :=
  decide (0 < m) && decide (m ≤ ops.size) && downB .any ops &&
  ((List.range (m - 1)).all fun j => match ops[m - 1]? with
    | some o => edgeTo o (· == j)
    | none => false) &&
  (List.range ops.size).all fun j => decide (j < m) || match ops[j]? with
    | some o => edgeTo o (fun x => decide (m - 1 ≤ x) && decide (x < j))
    | none => false
/-- the first m listed -/
def headArr (m n : Nat) : Array Bool := (List.replicate m true ++ List.replicate (n - m) false).toArray

theorem edge_of {o : Oper} {p : Nat → Bool} (h : edgeTo o p = true) : ∃ e ∈ o.after, Region.binds .any e = true ∧ p e.on = true := by
  unfold edgeTo at h
  obtain ⟨e, he, h2⟩ := Array.any_eq_true'.1 h
  rw [Bool.and_eq_true] at h2
  exact ⟨e, he, h2.1, h2.2⟩

section
variable {P : Program} {ops : Array Oper} {Q : Exit → Act → World → Prop}
theorem wp_region_head (m : Nat) {id : Nat} {a : Act} {w : World} (I : (Nat → Bool) → Act → World → Prop) (K : Act → World → Prop) (hm : P.follows .mixedOrders = true) (hd : headB m ops = true)
    (hs : Region.noSelect ops = true) (hB : Region.lexFrom .any ops (ops.toList.drop m).length m (headArr m ops.size) = true)
    (h0 : I (fun _ => false) a { w with drawn := w.drawn + 1 })
    (hstep : ∀ (L : Nat → Bool) a w (i : Nat) (o : Oper), i + 1 < m → I L a w → ops[i]? = some o → L i = false → (∀ e ∈ o.after, Region.binds .any e = true → L e.on = true) → wpOp P ops Q i (fun a' w' => I (fun j => if j = i then true else L j) a' w') a w)
    (hlast : ∀ (L : Nat → Bool) a w (o : Oper), I L a w → ops[m - 1]? = some o → (∀ j, j + 1 < m → L j = true) → wpOp P ops Q (m - 1) K a w)
    (hk : ∀ a1 w1, K a1 w1 → ∃ C : World → Prop, C w1 ∧ wpQuiet P ops C (fun a' => ∀ w', C w' → Q .normal a' w') (ops.toList.drop m) a1) : (Code.region id ops true).wp P Q a w := by
  simp only [headB, Bool.and_eq_true, decide_eq_true_eq] at hd
  obtain ⟨⟨⟨⟨hm0, hms⟩, hdn⟩, hlastB⟩, hrest⟩ := hd
  refine wp_region_any hm ?_
  -- behind the head
  have hend : ∀ a1 w1, K a1 w1 → wpAny P .any ops Q (ops.size - m) (headArr m ops.size) a1 w1 := by
    intro a1 w1 hK
    obtain ⟨C, hC, hq⟩ := hk a1 w1 hK
    have h1 := wpAnyQ_lex (P := P) (C := C) (md := .any) hs (ops.toList.drop m) m (headArr m ops.size) a1 (by simp) hB hq
    have h2 := wpAny_of_quiet (P := P) (ops := ops) (C := C) (md := .any) (Q := fun a' => ∀ w', C w' → Q .normal a' w') (Q' := Q) (fun _ w' hw' h => h w' hw') _ _ _ _ hC h1
    rw [List.length_drop, Array.length_toList] at h2
    exact h2
  have hmain : ∀ (f : Nat) (listed : Array Bool) (a : Act) (w : World), listed.size = ops.size → (∀ j, m ≤ j + 1 → listed.getD j false = false) → f = (ops.size - m) + (listed.toList.take m).count false → I (fun j => listed.getD j false) a w → wpAny P .any ops Q f listed a w := by
    intro f
    induction f with
    | zero =>
      intro listed a w hsz hfree hf hI
      exfalso
      have h1 : listed.toList[m - 1]? = some false := by
        have h2 := hfree (m - 1) (by omega)
        have h3 : m - 1 < listed.size := by omega
        rw [Array.getD_eq_getD_getElem?, Array.getElem?_eq_getElem h3] at h2
        rw [Array.getElem?_toList, Array.getElem?_eq_getElem h3]
        simpa using h2
      have h2 : false ∈ listed.toList.take m := List.mem_of_getElem? (i := m - 1) (by rw [List.getElem?_take, if_pos (by omega), h1])
      have := List.count_pos_iff.2 h2
      omega
    | succ f ih =>
      intro listed a w hsz hfree hf hI
      refine ⟨fun hr => ?_, fun i hi => ?_⟩
      · exfalso
        have h1 := all_listed hdn hsz hr (m - 1) (by omega)
        rw [hfree (m - 1) (by omega)] at h1
        cases h1
      · obtain ⟨hl, o, ho, hall⟩ := mem_ready.1 hi
        have hlt : i < listed.size := by
          rcases Nat.lt_or_ge i listed.size with h | h
          · exact h
          · simp [Array.getD_eq_getD_getElem?, Array.getElem?_eq_none h] at hl
        have hl' : listed[i] = false := by simpa [Array.getD_eq_getD_getElem?, hlt] using hl
        have him : i < m := by
          rcases Nat.lt_or_ge i m with h | h
          · exact h
          · exfalso
            have h1 := List.all_eq_true.1 hrest i (List.mem_range.2 (by omega))
            rw [ho, Bool.or_eq_true, decide_eq_true_eq] at h1
            rcases h1 with h1 | h1
            · omega
            · obtain ⟨e, he, hb, h2⟩ := edge_of h1
              simp only [Bool.and_eq_true, decide_eq_true_eq] at h2
              have h3 := hall e he hb
              rw [hfree e.on (by omega)] at h3
              cases h3
        have htl : listed.toList[i]'(by simpa using hlt) = false := by simpa using hl'
        have hcnt : ((listed.setIfInBounds i true).toList.take m).count false + 1 = (listed.toList.take m).count false := by
          rw [Array.toList_setIfInBounds, List.take_set, List.count_set (by rw [List.length_take, Array.length_toList]; omega), List.getElem_take, htl]
          have h5 : 0 < (listed.toList.take m).count false := List.count_pos_iff.2 (by
            refine List.mem_of_getElem? (i := i) ?_
            rw [List.getElem?_take, if_pos him, List.getElem?_eq_getElem (by simpa using hlt), htl])
          simp
          omega
        by_cases hlm : i = m - 1
        · subst hlm
          have hL : ∀ j, j + 1 < m → listed.getD j false = true := by
            intro j hj
            have h1 := List.all_eq_true.1 hlastB j (List.mem_range.2 (by omega))
            rw [ho] at h1
            obtain ⟨e, he, hb, h2⟩ := edge_of h1
            have h2 : e.on = j := by simpa using h2
            subst h2
            exact hall e he hb
          have harr : listed.setIfInBounds (m - 1) true = headArr m ops.size := by
            refine Array.ext' (List.ext_getElem? fun j => ?_)
            rw [Array.toList_setIfInBounds, headArr, List.getElem?_set, List.getElem?_append]
            by_cases hj : m - 1 = j
            · subst hj
              rw [if_pos rfl, if_pos (by simpa using hlt), if_pos (by simp; omega), List.getElem?_replicate, if_pos (by omega)]
            · rw [if_neg hj]
              by_cases hjm : j < m
              · rw [if_pos (by simpa using hjm), List.getElem?_replicate, if_pos hjm]
                have h1 := hL j (by omega)
                have h3 : j < listed.size := by omega
                rw [Array.getD_eq_getD_getElem?, Array.getElem?_eq_getElem h3] at h1
                rw [Array.getElem?_toList, Array.getElem?_eq_getElem h3]
                simpa using h1
              · rw [if_neg (by simpa using hjm), List.getElem?_replicate, List.length_replicate]
                by_cases h3 : j < listed.size
                · have h1 := hfree j (by omega)
                  rw [Array.getD_eq_getD_getElem?, Array.getElem?_eq_getElem h3] at h1
                  rw [Array.getElem?_toList, Array.getElem?_eq_getElem h3, if_pos (by omega)]
                  simpa using h1
                · rw [Array.getElem?_toList, Array.getElem?_eq_none (by omega), if_neg (by omega)]
          refine wpOp_mono (fun a' w' h => ?_) (hlast _ a w o hI ho hL)
          rw [harr]
          have h6 : (headArr m ops.size).toList.take m = List.replicate m true := by
            simp [headArr]
          rw [harr, h6] at hcnt
          have h7 : (List.replicate m true).count false = 0 := by simp [List.count_replicate]
          have h8 : f = ops.size - m := by omega
          rw [h8]
          exact hend a' w' h
        · refine wpOp_mono (fun a' w' h => ih _ a' w' (by simpa using hsz) ?_ (by omega) ?_) (hstep _ a w i o (by omega) hI ho (by simp [Array.getD_eq_getD_getElem?, hlt, hl']) hall)
          · intro j hj
            have := hfree j hj
            simp [Array.getD_eq_getD_getElem?, show i ≠ j by omega] at this ⊢
            exact this
          · have e : (fun j => (listed.setIfInBounds i true).getD j false) = (fun j => if j = i then true else listed.getD j false) := by
              funext j
              by_cases hji : j = i
              · subst hji
                simp [Array.getD_eq_getD_getElem?, hlt]
              · rw [if_neg hji]
                simp [Array.getD_eq_getD_getElem?, Ne.symm hji]
            rw [e]
            exact h
  refine hmain _ _ _ _ (by simp) (fun j _ => ?_) ?_ ?_
  · simp [Array.getD_eq_getD_getElem?, Array.getElem?_replicate]
    split <;> rfl
  · simp [Nat.min_eq_left hms]
    omega
  · have e : (fun j => (Array.replicate ops.size false).getD j false) = (fun _ => false) := by
      funext j
      simp [Array.getD_eq_getD_getElem?, Array.getElem?_replicate]
      split <;> rfl
    simp only [e]
    exact h0
/-- the law, the invariant told of the frame at the region's head -/
theorem wp_region_head0 (m : Nat) {id : Nat} {a : Act} {w : World} (I : Act → (Nat → Bool) → Act → World → Prop) (K : Act → Act → World → Prop) (hm : P.follows .mixedOrders = true) (hd : headB m ops = true)
    (hs : Region.noSelect ops = true) (hB : Region.lexFrom .any ops (ops.toList.drop m).length m (headArr m ops.size) = true)
    (h0 : I a (fun _ => false) a { w with drawn := w.drawn + 1 })
    (hstep : ∀ (L : Nat → Bool) a' w (i : Nat) (o : Oper), i + 1 < m → I a L a' w → ops[i]? = some o → L i = false → (∀ e ∈ o.after, Region.binds .any e = true → L e.on = true) → wpOp P ops Q i (fun a' w' => I a (fun j => if j = i then true else L j) a' w') a' w)
    (hlast : ∀ (L : Nat → Bool) a' w (o : Oper), I a L a' w → ops[m - 1]? = some o → (∀ j, j + 1 < m → L j = true) → wpOp P ops Q (m - 1) (K a) a' w)
    (hk : ∀ a1 w1, K a a1 w1 → ∃ C : World → Prop, C w1 ∧ wpQuiet P ops C (fun a' => ∀ w', C w' → Q .normal a' w') (ops.toList.drop m) a1) : (Code.region id ops true).wp P Q a w :=
  wp_region_head m (I a) (K a) hm hd hs hB h0 hstep hlast hk
end
/-- an append, the operation by itself -/
theorem oper_append_sep {P : Program} {w0 w : World} {L : List It} {o : Oper} {a : Act} {K : Act → World → Prop} {Q : Exit → Act → World → Prop} (H : Sep w0 w L) (i : Nat) (s x : Operand) (t : TypeId)
    (ho : o.op = .call { callee := .builtin .append, args := #[s, x], argTypes := #[t, t] })
    (e : TypeId) (ti : TypeInfo) (z : Value) (size bytes : Nat) (ht : P.underlying t = some (.slice e)) (hti : P.info? e = some ti) (hz : ti.zero = some z)
    (hsize : ti.size = size) (hby : ti.bytes = bytes) (hzs : z.cells.size = size) (hsz : 0 < size)
    (v : Value) (n : Nat) (xs : List Value) (hs : a.eval s = v) (hi : L[i]? = some (.row e size v n xs))
    (B : Nat) (A : Option Addr) (m c : Nat) (news : List Value) (hx : a.eval x = .slice A m c) (hr : Rd w B size A m news) (h1 : ∀ u ∈ news, u.oneCell' = true)
    (h63 : n + m ≤ maxLen) (hbytes : (n + m) * bytes ≤ 140737488355328)
    (h : ∀ A' c' w', n + m ≤ c' → w.grownBy w' (rowBlk v) → Sep w0 w' (L.set i (.row e size (.slice A' (n + m) c') (n + m) (xs ++ news))) → K (a.put o.dst (.slice A' (n + m) c')) w') : o.wp P a w K Q := by
  obtain ⟨v', w', hrun, h2, h3, h4⟩ := run_append_row (P := P) w t o.type e ti z size bytes ht hti hz hsize hby hzs hsz v n xs (H.rowHas i hi) B A m c news hr h1 h63 hbytes
  obtain ⟨A', c', rfl, hc⟩ := h2.slice
  unfold Oper.wp execOp
  simp only [ho, resolve, invoke, builtin, Sem.run_bind, Sem.run_pure, Result.andThen_ok, List.map_toArray, List.map_cons, List.map_nil, hs, hx, hrun]
  exact h A' c' w' hc h3 (H.appended i hi h3 h2 h4)
end Go.Proofs.YtgfldhdmdeeknaaGreatDoor
/-! The plain law of sorting by exchanging neighbours: what comes of it is in order, and has the same elements; lists in order with the same elements are one. -/
namespace Go.Proofs.YtgfldhdmdeeknaaGreatDoor
namespace Srt
set_option linter.unusedVariables false

section
variable {α : Type} (lt : α → α → Bool)
/-- the element at place j goes down while it is less than the one ahead -/
def sink : Nat → List α → List α
  | 0, l => l
  | j + 1, l => match l[j + 1]?, l[j]? with
    | some b, some a => if lt b a then sink j ((l.set (j + 1) a).set j b) else l
    | _, _ => l
def isort : Nat → List α → List α
  | 0, l => l
  | k + 1, l => sink lt k (isort k l)
theorem sink_stop {j : Nat} {l : List α} {a b : α} (hb : l[j + 1]? = some b) (ha : l[j]? = some a) (h : lt b a = false) : sink lt (j + 1) l = l := by
  rw [sink, hb, ha]
  simp [h]
theorem sink_go {j : Nat} {l : List α} {a b : α} (hb : l[j + 1]? = some b) (ha : l[j]? = some a) (h : lt b a = true) : sink lt (j + 1) l = sink lt j ((l.set (j + 1) a).set j b) := by
  rw [sink, hb, ha]
  simp [h]
theorem sink_len : ∀ (j : Nat) (l : List α), (sink lt j l).length = l.length
  | 0, l => rfl
  | j + 1, l => by
    rw [sink]
    split
    · split
      · rw [sink_len j]; simp
      · rfl
    · rfl
theorem isort_len : ∀ (k : Nat) (l : List α), (isort lt k l).length = l.length
  | 0, l => rfl
  | k + 1, l => by rw [isort, sink_len, isort_len k]

/-- into a list in falling order -/
def insR (x : α) : List α → List α
  | [] => [x]
  | a :: r => if lt x a then a :: insR x r else x :: a :: r
theorem insR_len (x : α) : ∀ r : List α, (insR lt x r).length = r.length + 1
  | [] => rfl
  | a :: r => by
    rw [insR]
    split
    · simp [insR_len x r]
    · rfl
theorem sink_ins (x : α) : ∀ (r s : List α), sink lt r.length (r.reverse ++ x :: s) = (insR lt x r).reverse ++ s
  | [], s => rfl
  | a :: r, s => by
    have hl : r.reverse.length = r.length := List.length_reverse
    have e : (a :: r).reverse ++ x :: s = r.reverse ++ a :: x :: s := by simp
    have ha : (r.reverse ++ a :: x :: s)[r.length]? = some a := by rw [List.getElem?_append_right (by omega), hl, Nat.sub_self]; rfl
    have hb : (r.reverse ++ a :: x :: s)[r.length + 1]? = some x := by rw [List.getElem?_append_right (by omega), hl, Nat.add_sub_cancel_left]; rfl
    rw [e, List.length_cons, insR]
    by_cases h : lt x a = true
    · rw [sink_go lt hb ha h, if_pos h]
      have e2 : (((r.reverse ++ a :: x :: s).set (r.length + 1) a).set r.length x) = r.reverse ++ x :: a :: s := by
        rw [List.set_append_right _ _ (by omega), List.set_append_right _ _ (by omega), hl, Nat.add_sub_cancel_left, Nat.sub_self]
        rfl
      rw [e2, sink_ins x r (a :: s)]
      simp
    · have h' : lt x a = false := by simpa using h
      rw [sink_stop lt hb ha h', if_neg h]
      simp
def insAll : List α → List α → List α
  | [], r => r
  | x :: t, r => insAll t (insR lt x r)
def insRev (l : List α) : List α := insAll lt l []
theorem insAll_snoc (x : α) : ∀ (l r : List α), insAll lt (l ++ [x]) r = insR lt x (insAll lt l r)
  | [], r => rfl
  | y :: l, r => by rw [List.cons_append, insAll, insAll, insAll_snoc x l]
theorem insAll_len : ∀ (l r : List α), (insAll lt l r).length = l.length + r.length
  | [], r => by simp [insAll]
  | x :: l, r => by rw [insAll, insAll_len l, insR_len, List.length_cons]; omega
theorem isort_eq (l : List α) : ∀ k, k ≤ l.length → isort lt k l = (insRev lt (l.take k)).reverse ++ l.drop k
  | 0, _ => by simp [isort, insRev, insAll]
  | k + 1, h => by
    rw [isort, isort_eq l k (by omega)]
    obtain ⟨x, hx⟩ : ∃ x, l[k]? = some x := ⟨_, List.getElem?_eq_getElem (by omega)⟩
    have hd : l.drop k = x :: l.drop (k + 1) := by
      obtain ⟨hk, rfl⟩ := List.getElem?_eq_some_iff.1 hx
      exact List.drop_eq_getElem_cons hk
    have ht : l.take (k + 1) = l.take k ++ [x] := by rw [List.take_add_one, hx]; rfl
    have hlen : (insRev lt (l.take k)).length = k := by rw [insRev, insAll_len]; simp; omega
    rw [hd]
    have := sink_ins lt x (insRev lt (l.take k)) (l.drop (k + 1))
    rw [hlen] at this
    rw [this, ht, insRev, insRev, insAll_snoc]
theorem insR_perm (x : α) : ∀ r : List α, (insR lt x r).Perm (x :: r)
  | [] => List.Perm.refl _
  | a :: r => by
    rw [insR]
    split
    · exact ((insR_perm x r).cons a).trans (List.Perm.swap x a r)
    · exact List.Perm.refl _
theorem insAll_perm : ∀ (l r : List α), (insAll lt l r).Perm (l ++ r)
  | [], r => List.Perm.refl _
  | x :: l, r => (insAll_perm l _).trans (((insR_perm lt x r).append_left l).trans List.perm_middle)
theorem isort_perm (l : List α) : (isort lt l.length l).Perm l := by
  rw [isort_eq lt l l.length (Nat.le_refl _), List.take_length, List.drop_length, List.append_nil]
  exact (List.reverse_perm _).trans (by have := insAll_perm lt l []; simpa [insRev] using this)

/-- in order: none is less than one ahead of it -/
def Asc (l : List α) : Prop := l.Pairwise fun a b => lt b a = false
variable (htr : ∀ a b c, lt a b = false → lt b c = false → lt a c = false) (has : ∀ a b, lt a b = true → lt b a = false)
include htr has
theorem insR_desc (x : α) : ∀ r : List α, r.Pairwise (fun a b => lt a b = false) → (insR lt x r).Pairwise (fun a b => lt a b = false)
  | [], _ => by simp [insR]
  | a :: r, h => by
    obtain ⟨h1, h2⟩ := List.pairwise_cons.1 h
    rw [insR]
    split
    · rename_i hx
      refine List.pairwise_cons.2 ⟨fun b hb => ?_, insR_desc x r h2⟩
      rcases List.mem_cons.1 ((insR_perm lt x r).mem_iff.1 hb) with rfl | hb
      · exact has _ _ hx
      · exact h1 b hb
    · rename_i hx
      have hx' : lt x a = false := by simpa using hx
      refine List.pairwise_cons.2 ⟨fun b hb => ?_, h⟩
      rcases List.mem_cons.1 hb with rfl | hb
      · exact hx'
      · exact htr _ _ _ hx' (h1 b hb)
theorem insAll_desc : ∀ (l r : List α), r.Pairwise (fun a b => lt a b = false) → (insAll lt l r).Pairwise (fun a b => lt a b = false)
  | [], r, h => h
  | x :: l, r, h => insAll_desc l _ (insR_desc lt htr has x r h)
theorem isort_asc (l : List α) : Asc lt (isort lt l.length l) := by
  rw [isort_eq lt l l.length (Nat.le_refl _), List.take_length, List.drop_length, List.append_nil]
  unfold Asc
  rw [List.pairwise_reverse]
  exact insAll_desc lt htr has l [] List.Pairwise.nil
end

section
variable {α : Type} {lt : α → α → Bool}
/-- two lists in order with the same elements are one, if two elements neither of which is less are the same -/
theorem asc_unique : ∀ {l m : List α}, (∀ a ∈ l, ∀ b ∈ l, lt a b = false → lt b a = false → a = b) → Asc lt l → Asc lt m → l.Perm m → l = m
  | [], m, _, _, _, hp => (List.nil_perm.1 hp).symm
  | a :: l, m, heq, hl, hm, hp => by
    cases m with
    | nil => exact absurd hp.length_eq (by simp)
    | cons b m =>
      obtain ⟨hl1, hl2⟩ := List.pairwise_cons.1 hl
      obtain ⟨hm1, hm2⟩ := List.pairwise_cons.1 hm
      have hab : a = b := by
        have hb : b ∈ a :: l := hp.mem_iff.2 (by simp)
        have ha : a ∈ b :: m := hp.mem_iff.1 (by simp)
        rcases List.mem_cons.1 hb with rfl | hb'
        · rfl
        · rcases List.mem_cons.1 ha with rfl | ha'
          · rfl
          · exact heq a (by simp) b hb (hm1 a ha') (hl1 b hb')
      subst hab
      rw [asc_unique (fun x hx y hy => heq x (by simp [hx]) y (by simp [hy])) hl2 hm2 (List.perm_cons a |>.1 hp)]
/-- strictly -/
def Inc (lt : α → α → Bool) (l : List α) : Prop := l.Pairwise fun a b => lt a b = true
theorem inc_unique (hirr : ∀ a, lt a a = false) (has : ∀ a b, lt a b = true → lt b a = false) : ∀ {l m : List α}, Inc lt l → Inc lt m → (∀ x, x ∈ l ↔ x ∈ m) → l = m
  | [], m, _, _, h => by
    cases m with
    | nil => rfl
    | cons b m => exact absurd ((h b).2 (by simp)) (by simp)
  | a :: l, m, hl, hm, h => by
    cases m with
    | nil => exact absurd ((h a).1 (by simp)) (by simp)
    | cons b m =>
      obtain ⟨hl1, hl2⟩ := List.pairwise_cons.1 hl
      obtain ⟨hm1, hm2⟩ := List.pairwise_cons.1 hm
      have hab : a = b := by
        rcases List.mem_cons.1 ((h a).1 (by simp)) with e | ha
        · exact e
        · rcases List.mem_cons.1 ((h b).2 (by simp)) with e | hb
          · exact e.symm
          · have := has _ _ (hl1 b hb)
            rw [hm1 a ha] at this
            cases this
      subst hab
      have hn : ∀ x, x ∈ l ↔ x ∈ m := fun x => by
        constructor
        · intro hx
          rcases List.mem_cons.1 ((h x).1 (by simp [hx])) with rfl | h'
          · have := hl1 x hx
            rw [hirr] at this
            cases this
          · exact h'
        · intro hx
          rcases List.mem_cons.1 ((h x).2 (by simp [hx])) with rfl | h'
          · have := hm1 x hx
            rw [hirr] at this
            cases this
          · exact h'
      rw [inc_unique hirr has hl2 hm2 hn]
end
end Srt
end Go.Proofs.YtgfldhdmdeeknaaGreatDoor
